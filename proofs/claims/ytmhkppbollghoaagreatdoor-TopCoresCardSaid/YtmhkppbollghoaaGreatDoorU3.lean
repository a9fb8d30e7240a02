/- Proved: contracts of functions that the laws of Top reach, and plain facts for them. Conditions: those that each lemma states. -/
import Derived.Test.YtmhkppbollghoaaGreatDoorU1
set_option linter.unusedSectionVars false
set_option linter.unusedSimpArgs false
set_option linter.unusedVariables false
namespace Go.Proofs.Tp
open Go.Vx
def jV(x:Key):List D:=[.int .i64 x.1,.int .i64 x.2.1,.int .i64 x.2.2]
structure Op where
 r0:bd
 r1:bd
 r2:bd
 r5:bd
 r9:bd
 f:FuncId
def Pq(o:Op)(K:List (Key×Nat)):yU:=⟨o.r0,o.r1,o.r2,.obj (.mq 3 (Cu K)),.live 3 [[.aY 3 7 1 0 0,.fn (.func o.f) [] [],.aY 0 3 0 1 0]],o.r5,o.r9⟩
def Op.ok(o:Op):Prop:=∀m,10<=m->dz m o.r0/\dz m o.r1/\dz m o.r2/\dz m o.r5/\dz m o.r9
theorem Op.pre{o:Op}(h:o.ok)(K:List (Key×Nat)):(Pq o K).ok:=fun m hm=>by
 obtain⟨h0,h1,h2,h5,h9⟩:=h m hm;refine⟨h0,h1,h2,trivial,fun e he v hv=>?_,h5,h9⟩;simp only[List.mem_singleton]at he;subst he;simp only[aP,List.not_mem_nil,or_false]at hv;rcases hv with rfl|rfl|rfl
 ·simp[hB];omega
 ·rfl
 ·simp[hB];omega
abbrev oR(o:Op)(s:Bt)(F:Go.Vx.Rows):Go.Vx.Rows:=bR (Pq o s.K) s.N s.full F
theorem G0[bf]{o:Op}(ho:o.ok){s r:Bt}{f:FuncId}{vals:List V}{i:Nat}{F:Go.Vx.Rows}(hF:okF F)(h:dn Tryz.prog f vals (oR o s F) (fun v R=>v=.d (.int .i64 i)/\∃T,R=oR o r F++T)):dn Tryz.prog f vals (oR o s F) (fun v R=>v=.d (.int .i64 i)/\R=oR o r F):=oC hF (b6 h fun v R ⟨h1,T,h2⟩=>⟨_,_,_,T,h1▸fun _ _=>rfl,Op.pre ho r.K,h2,h1,rfl⟩)
theorem MG{N:List Nd}{i:Nat}{n:Nd}(h:N[i]? =some n):((N.map Nd.d).map (·.map V.d))[i]? =some [.d (.int .i64 n.lv),.d (.int .i64 n.lo),.d (.int .i64 n.hi)]:=by rw[ar,ar,h];rfl
theorem qS{F:Go.Vx.Rows}(hF:okF F){e:List D}{sz:Nat}:okF (F++[.live sz [e.map .d]]):=fun m=>by
 have:∀(A:Go.Vx.Rows) (r:bd),kg m A->dz m r->kg m (A++[r]):=fun A=>by
  induction A with
  |nil=>intro r _ h;exact⟨h,trivial⟩
  |cons a A ih=>intro r h1 h2;exact⟨h1.1,ih r h1.2 h2⟩
 exact this F _ (hF m) (kM (es:=[e]))
theorem Oz(s:Bt)(lv lo hi:Nat):(qq s lv lo hi).2.K=s.K:=by
 unfold qq;split
 ·rfl
 split
 ·rfl
 split<;>rfl
set_option maxRecDepth 100000 in
set_option maxHeartbeats 2000000 in
theorem t116[bf][NB]{o:Op}(ho:o.ok){op:Bool->Bool->Bool->Bool}(hop:∀a b c,CallP Tryz.prog o.f [.d (.bool a),.d (.bool b),.d (.bool c)] (.d (.bool (op a b c)))):∀(k:Nat) (s:Bt) (x:Key) (F:Go.Vx.Rows),inv op s->xY s.N x->20<gk s.N x+k->okF F->F.length+k<=30->dn Tryz.prog 116 [.aY 3 4 1 0 0,.agg ((jV x).map .d)] (oR o s F) (fun v R=>v=.d (.int .i64 (AV op k s x).1)/\R=oR o (AV op k s x).2 F)
 |0,s,x,F,h,hx,hk,_,_=>by have:=(h.g.qn hx.1).1;have:=(pg s.N x).1;omega
 |k+1,s,x,F,h,hx,hk,hF,hFl=>by
  have hmL:=dx;have hlen:=h.g.len;obtain⟨x1,x2,x3⟩:=hx;have n1:=eD x1;have n2:=eD x2;have n3:=eD x3;have r0:∀B:Go.Vx.Rows,Go.Vx.rowAt (F++B) F.length=Go.Vx.rowAt B 0:=fun B=>cd om;have s0:∀(B:Go.Vx.Rows) (r:bd),setAt (F++B) F.length r=F++setAt B 0 r:=fun B r=>cf om;refine G0 ho hF ?_;have hpre:=Op.pre ho s.K;unfold oR bR Pq;refine cc116.gi ac116 rfl ?_;rw[AV];cases hfull:s.full with
  |true=>rw[if_pos rfl];simp only[vq,seval,ac116,jV,List.map_cons,List.map_nil,r0,s0];exact⟨_,by rw[hfull]⟩
  |false=>
   rw[if_neg sm];simp only[vq,seval,ac116,jV,List.map_cons,List.map_nil,r0,s0];refine du rfl ?_;simp only[vq,seval,r0,s0];refine⟨om,om,b8 (MG n1) ?_⟩;simp only[vq,seval,r0,s0];refine⟨om,om,b8 (MG n2) ?_⟩;simp only[vq,seval,r0,s0];refine⟨om,om,b8 (MG n3) ?_⟩;simp only[vq,seval,r0,s0];have hmn:min ((cA s.N x.1).lv:Int) (min ((cA s.N x.2.1).lv:Int) ((cA s.N x.2.2).lv:Int))=((gk s.N x:Nat):Int):=by unfold gk;omega
   rw[hmn];by_cases he:gk s.N x=20
   ·rw[if_pos he];simp only[vq,seval,r0,s0,dt (show((gk s.N x:Nat):Int)=20 by omega)];have dec:∀n:Nat,decide ((n:Int)=1)=decide (n=1):=fun n=>decide_eq_decide.2 om;refine bW ?_;simp only[vq,seval,r0,s0]
    repeat((first|refine cc rfl rfl ?_|refine cc ck ck ?_);simp only[vq,seval,r0,s0])
    rw[dec,dec,dec];refine aW rfl (hop _ _ _) ?_
    repeat((first|refine cc rfl rfl ?_|refine cc ck ck ?_);simp only[vq,seval,r0,s0])
    cases hv:op (decide (x.1=1)) (decide (x.2.1=1)) (decide (x.2.2=1))with
    |true=>simp only[vq,seval,r0,s0];exact⟨_,by rw[hfull]⟩
    |false=>simp only[vq,seval,r0,s0];exact⟨_,by rw[hfull]⟩
   ·rw[if_neg he];simp only[vq,seval,r0,s0,df (show¬((gk s.N x:Nat):Int)=20 by omega)];have hm1:gk s.N x<20:=by have:=(pg s.N x).1;have:=(h.g.qn x1).1;omega
    refine du rfl ?_;simp only[vq,seval,r0,s0];have hkn:=JL s.K x;have hkp:=fun K i=>JS K x i;rw[hkn.1];cases hix:kG s.K x with
    |some i=>have hi2:=hkn.2 i hix;simp only[vq,seval,r0,s0,Option.isSome_some,hi2];exact⟨_,by rw[hfull]⟩
    |none=>
     simp only[vq,seval,r0,s0,Option.isSome_none];obtain⟨l1,l2,l3⟩:=qI h.g ⟨x1,x2,x3⟩ hm1 false;have hF1:okF (F++[.live 3 [(jV x).map .d]]):=qS hF;have R1:=pL op k s _ h l1 om;have W1:=t116 ho hop k s _ (F++[.live 3 [(jV x).map .d]]) h l1 om hF1 so;generalize hr1:AV op k s (oe s.N x false)=r1 at R1 W1|-;obtain⟨L1,e1⟩:=R1.p;have hx1:xY r1.2.N x:=by rw[e1];exact qN ⟨x1,x2,x3⟩ L1
     have hmm:gk r1.2.N x=gk s.N x:=by rw[e1];exact qx ⟨x1,x2,x3⟩ L1
     have hK:(o6 r1.2.N x.1 (gk s.N x) true,o6 r1.2.N x.2.1 (gk s.N x) true,o6 r1.2.N x.2.2 (gk s.N x) true)=oe r1.2.N x true:=by unfold oe;rw[hmm]
     obtain⟨k1,k2,k3⟩:=qI R1.v.g hx1 om true;have R2:=pL op k r1.2 _ R1.v k1 om;have W2:=t116 ho hop k r1.2 _ (F++[.live 3 [(jV x).map .d]]) R1.v k1 om hF1 so;rw[<-hK]at R2 W2;generalize hr2:AV op k r1.2 (o6 r1.2.N x.1 (gk s.N x) true,o6 r1.2.N x.2.1 (gk s.N x) true,o6 r1.2.N x.2.2 (gk s.N x) true)=r2 at R2 W2|-;have H:=fun(f:Nat) (hf:f<s.N.length)=>t170 (Op.pre ho s.K) h.g false hF1 hf (gk s.N x) false;refine bW ?_;simp only[vq,seval,r0,s0]
     repeat((first|refine cc rfl rfl ?_|refine cc ck ck ?_);simp only[vq,seval,r0,s0])
     refine fO (v:=.d (.int .i64 (o6 s.N x.1 (gk s.N x) false))) (ups:=[]) so rfl rfl (H x.1 x1) ?_
     repeat((first|refine cc rfl rfl ?_|refine cc ck ck ?_);simp only[vq,seval,r0,s0])
     refine fO (v:=.d (.int .i64 (o6 s.N x.2.1 (gk s.N x) false))) (ups:=[]) so rfl rfl (H x.2.1 x2) ?_
     repeat((first|refine cc rfl rfl ?_|refine cc ck ck ?_);simp only[vq,seval,r0,s0])
     refine fO (v:=.d (.int .i64 (o6 s.N x.2.2 (gk s.N x) false))) (ups:=[]) so rfl rfl (H x.2.2 x3) ?_
     repeat((first|refine cc rfl rfl ?_|refine cc ck ck ?_);simp only[vq,seval,r0,s0])
     rw[oR,hfull]at W1;refine fO (v:=.d (.int .i64 r1.1)) (ups:=[(3,.obj (.mq 3 (Cu r1.2.K))),(6,.obj (.mq 3 (xX 0 r1.2.N))),(7,JF r1.2.N r1.2.full),(8,I9 r1.2.N)]) so rfl rfl W1 ?_
     repeat((first|refine cc rfl rfl ?_|refine cc ck ck ?_);simp only[vq,seval,r0,s0])
     have H2:=fun(f:Nat) (hf:f<r1.2.N.length)=>t170 (Op.pre ho r1.2.K) R1.v.g r1.2.full hF1 hf (gk s.N x) true;refine bW ?_;simp only[vq,seval,r0,s0]
     repeat((first|refine cc rfl rfl ?_|refine cc ck ck ?_);simp only[vq,seval,r0,s0])
     refine fO (v:=.d (.int .i64 (o6 r1.2.N x.1 (gk s.N x) true))) (ups:=[]) so rfl rfl (H2 x.1 hx1.1) ?_
     repeat((first|refine cc rfl rfl ?_|refine cc ck ck ?_);simp only[vq,seval,r0,s0])
     refine fO (v:=.d (.int .i64 (o6 r1.2.N x.2.1 (gk s.N x) true))) (ups:=[]) so rfl rfl (H2 x.2.1 hx1.2.1) ?_
     repeat((first|refine cc rfl rfl ?_|refine cc ck ck ?_);simp only[vq,seval,r0,s0])
     refine fO (v:=.d (.int .i64 (o6 r1.2.N x.2.2 (gk s.N x) true))) (ups:=[]) so rfl rfl (H2 x.2.2 hx1.2.2) ?_
     repeat((first|refine cc rfl rfl ?_|refine cc ck ck ?_);simp only[vq,seval,r0,s0])
     refine fO (v:=.d (.int .i64 r2.1)) (ups:=[(3,.obj (.mq 3 (Cu r2.2.K))),(6,.obj (.mq 3 (xX 0 r2.2.N))),(7,JF r2.2.N r2.2.full),(8,I9 r2.2.N)]) so rfl rfl W2 ?_
     repeat((first|refine cc rfl rfl ?_|refine cc ck ck ?_);simp only[vq,seval,r0,s0])
     have W3:=t171 (Op.pre ho r2.2.K) R2.v.g hF1 (gk s.N x) r1.1 r2.1;have hk3:=Oz r2.2 (gk s.N x) r1.1 r2.1;generalize qq r2.2 (gk s.N x) r1.1 r2.1=r3 at W3 hk3|-;refine fO (v:=.d (.int .i64 r3.1)) (ups:=[(6,.obj (.mq 3 (xX 0 r3.2.N))),(7,JF r3.2.N r3.2.full),(8,I9 r3.2.N)]) so rfl rfl W3 ?_;simp only[vq,seval,r0,s0];refine bW ?_;simp only[vq,seval,r0,s0,hkp]
     repeat((first|refine cc rfl rfl ?_|refine cc ck ck ?_);simp only[vq,seval,r0,s0,hkp])
     exact⟨_,by rw[hk3]⟩
theorem O4[bf][NB]{N:List Nd}(h:ct N)(R:Go.Vx.Rows):dn Tryz.prog 169 [.d (dg N)] R (fun v R'=>v=.cl 3 R.length N.length 0 N.length/\R'=R++[I9 N,.un]):=by
 have hmL:=dx;have hlen:=h.len;have h2:=h.two;have r0:∀B:Go.Vx.Rows,Go.Vx.rowAt (R++B) R.length=Go.Vx.rowAt B 0:=fun B=>cd om;have s0:∀(B:Go.Vx.Rows) (r:bd),setAt (R++B) R.length r=R++setAt B 0 r:=fun B r=>cf om;have r1:∀B:Go.Vx.Rows,Go.Vx.rowAt (R++B) (R.length+1)=Go.Vx.rowAt B 1:=fun B=>cd om;have s1:∀(B:Go.Vx.Rows) (r:bd),setAt (R++B) (R.length+1) r=R++setAt B 1 r:=fun B r=>cf om;refine cc169.gi ac169 rfl ?_;cases N with
 |nil=>simp at h2
 |cons n N=>simp only[List.length_cons]at hlen;simp only[vq,seval,ac169,dg,List.map_cons,r0,s0,r1,s1];exact⟨by simp only[bM];omega,rfl⟩
theorem KA{N:List Nd}{n:Nd}(h:n∉N):za N n=none:=by
 induction N with
 |nil=>rfl
 |cons x N ih=>rw[za,if_neg (fun e=>h (by simp[e])),ih (fun e=>h (by simp[e]))];rfl
theorem NY[bf][NB]{N:List Nd}(h:ct N)(r0 r1 r2 r3 r4:bd)(hr:∀m,10<=m->dz m r0/\dz m r1/\dz m r2/\dz m r3/\dz m r4):dn Tryz.prog 114 [.agg [.d (dg N)]] [r0,r1,r2,r3,r4] (fun v R=>v=.aY 3 7 1 0 0/\∃T,R=bR ⟨r0,r1,r2,r3,r4,.live 1 [[.d (dg N)]],.un⟩ N false []++T):=by
 have hmL:=dx;have hlen:=h.len;have C:=fun(cp:bf) (R:Go.Vx.Rows)=> @O4 cp _ N h R;refine cc114.gi (AC.at (AC.look [false,false,true]) [1,0] ac114) rfl ?_;simp only[vq,seval,ac114,AC.at,AC.look];refine dh (b6 (C _ _) ?_);rintro _ _ ⟨rfl,rfl⟩;simp only[vq,seval,List.length_cons,List.length_nil];simp only[vq,seval,dg];obtain⟨h0,h1,h2,h3,h4⟩:=hr 10 om;refine bb (fun i:Nat=>⟨cC 28 [(1,.aY 1 5 1 0 0),(3,.aY 3 7 1 0 0),(13,.d (dg N)),(14,.d (.int .i64 N.length)),(15,.d (.int .i64 i))],[r0,r1,r2,r3,r4,.live 1 [[.d (dg N)]],.obj (.mq 3 (xX 0 (N.take i))),JF N false,I9 N,.un]⟩) (fun i=>i<=N.length) (fun i=>N.length-i) 0 (bk (by simp[xX,dg]) (by simp only[vq,seval,dg];try trivial)) om ?_;rintro i hi;simp only[vq,seval,dg];refine aZ (fun hc=>?_) (fun hc=>?_)
 ·simp only[aj]at hc;obtain⟨n,hx⟩:=bh (l:=N) (i:=i) om;have hsn:N.take (i+1)=N.take i++[n]:=bQ hx;have hno:n∉N.take i:=fun hm=>by have:=h.nd;rw[<-List.take_append_drop (i+1) N,List.nodup_append,hsn,List.nodup_append]at this;exact this.1.2.2 n hm n sm rfl
  have hput:=Ff (N:=N.take i) (n:=n) 0 (KA hno);have hk:Ah n=[(n.lv:Int),(n.lo:Int),(n.hi:Int)]:=rfl;rw[hk,Nat.zero_add,List.length_take,Nat.min_eq_left om,<-hsn]at hput;simp only[vq,seval,dg];refine⟨om,om,bg hx ?_⟩;simp only[vq,seval];simp only[vq,seval,Nd.d,List.map_cons,List.map_nil];refine bW ?_;simp only[vq,seval]
  repeat(refine cc rfl rfl ?_;simp only[vq,seval,hput])
  refine bL (i+1) om (bz 10 sm (by simp[dg]) rfl ⟨h0,h1,h2,h3,h4,eE (e:=[dg N]),trivial,?_,kM,trivial,trivial⟩ ?_) om
  ·intro e he v hv;simp only[List.mem_singleton]at he;subst he;simp only[aP,List.not_mem_nil,or_false]at hv;rcases hv with rfl|rfl|rfl<;>rfl
  simp only[vq,seval,dg];rw[a8 om om];trivial
 ·simp only[ak]at hc;obtain rfl:i=N.length:=om;rw[al (aq _)];simp only[vq,seval];exact⟨[],by rw[List.append_nil];rfl⟩
theorem yn{r0 r1 r2 r3 r4:bd}(hr:∀m,10<=m->dz m r0/\dz m r1/\dz m r2/\dz m r3/\dz m r4)(N:List Nd):(yU.mk r0 r1 r2 r3 r4 (.live 1 [[.d (dg N)]]) .un).ok:=fun m hm=>by obtain⟨h0,h1,h2,h3,h4⟩:=hr m hm;exact⟨h0,h1,h2,h3,h4,eE (e:=[dg N]),trivial⟩
theorem t114[bf][NB]{N:List Nd}(h:ct N)(r0 r1 r2 r3 r4:bd)(hr:∀m,10<=m->dz m r0/\dz m r1/\dz m r2/\dz m r3/\dz m r4):dn Tryz.prog 114 [.agg [.d (dg N)]] [r0,r1,r2,r3,r4] (fun v R=>v=.aY 3 7 1 0 0/\R=bR ⟨r0,r1,r2,r3,r4,.live 1 [[.d (dg N)]],.un⟩ N false []):=oY (NY h r0 r1 r2 r3 r4 hr) fun v R ⟨h1,T,h2⟩=>by subst h1 h2;refine⟨_,bR ⟨r0,r1,r2,r3,r4,.live 1 [[.d (dg N)]],.un⟩ N false [],?_,rfl,rfl⟩;have ht:(bR ⟨r0,r1,r2,r3,r4,.live 1 [[.d (dg N)]],.un⟩ N false []++T).take 10=bR ⟨r0,r1,r2,r3,r4,.live 1 [[.d (dg N)]],.un⟩ N false []:=List.take_left' rfl;have:=eN (b0:=5) (fr:=[V.aY 3 7 1 0 0]) (fr':=[V.aY 3 7 1 0 0]) (rows:=bR ⟨r0,r1,r2,r3,r4,.live 1 [[.d (dg N)]],.un⟩ N false []++T) 10 om (mQ trivial) rfl (by rw[ht];exact On (F:=[]) (yn hr N) _ _ (fun _=>trivial) om);rw[ht]at this;exact this
end Go.Proofs.Tp
