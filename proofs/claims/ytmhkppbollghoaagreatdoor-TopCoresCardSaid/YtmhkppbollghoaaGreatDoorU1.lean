/- Proved: contracts of functions that the laws of Top reach, and plain facts for them. Conditions: those that each lemma states. -/
import Derived.Test.YtmhkppbollghoaaGreatDoorT1
import Derived.Test.YtmhkppbollghoaaGreatDoorH5
set_option linter.unusedSectionVars false
set_option linter.unusedSimpArgs false
set_option linter.unusedVariables false
namespace Go.Proofs.Tp
open Go.Vx
def Nd.d(n:Nd):List D:=[.int .i64 n.lv,.int .i64 n.lo,.int .i64 n.hi]
def dg(N:List Nd):D:=.sl 3 (N.map Nd.d)
theorem Nd.cN(n:Nd):n.d.length=3:=rfl
theorem Qk{N:List Nd}:∀e∈N.map Nd.d,e.length=3:=fun e he=>by obtain⟨n,_,rfl⟩:=aw.1 he;rfl
theorem t24:CallP Tryz.prog 24 [] (.agg [.d (dg qA)]):=by refine cc24.go ac24 rfl ?_;simp only[vq,seval,ac24];exact da (es:=qA.map Nd.d) rfl rfl om Qk rfl
theorem t88(a:List Nd)(ha:a.length<=8192):CallP Tryz.prog 88 [.d (dg a),.d (dg a)] (.d (.bool true)):=by
 have hmL:=dx;refine cc88.go ac88 rfl ?_;simp only[vq,seval,ah,bS,ac88,dg];refine bb (fun i:Nat=>⟨cC 26 [(0,.d (dg a)),(1,.d (dg a)),(12,.d (.int .i64 a.length)),(13,.d (.int .i64 i))],[]⟩) (fun i=>i<=a.length) (fun i=>a.length-i) 0 (a9 (by simp only[vq,seval,dg];try trivial)) om ?_;rintro i h1;simp only[vq,seval];refine aZ (fun hc=>?_) (fun hc=>?_)
 ·simp only[aj]at hc;obtain⟨x,hx⟩:=bh (l:=a) (i:=i) om;simp only[vq,seval,dg];refine du rfl ?_;simp only[vq,seval];refine⟨om,om,bg hx ?_⟩;simp only[vq,seval];simp only[vq,seval,Nd.d,List.map_cons,List.map_nil];refine⟨om,om,bg hx ?_⟩;simp only[vq,seval];simp only[vq,seval,Nd.d,List.map_cons,List.map_nil];refine bL (i+1) om (a9 ?_) om;simp only[vq,seval];rw[a8 om om];trivial
 ·simp only[vq,seval]
theorem t233(n:Nat):CallP Tryz.prog 233 [.d (.int .i64 n)] (.d (.bool (decide (n<20)))):=by refine cc233.go ac233 rfl ?_;simp only[vq,seval,ac233,dt (show(0:Int)<=(n:Nat) by omega)];exact decide_eq_decide.2 om
theorem t44[NB]{N:List Nd}(h:ct N):CallP Tryz.prog 44 [.d (dg N)] (.d (.bool true)):=by
 have hmL:=dx;have h2:=h.two;have h3:=h.len;obtain⟨R,hR⟩:=h.pre;have C:=t88 qA dc;refine cc44.go ac44 rfl ?_;simp only[vq,seval,ac44,dg];have d1:=dt (show(2:Int)<=N.length by omega);have d2:=dt (show(N.length:Int)<=8192 by omega);refine bW ?_;simp only[vq,seval,d1,d2]
 repeat(refine cc rfl rfl ?_;simp only[vq,seval,d1,d2])
 refine⟨om,?_⟩
 repeat(refine cc rfl rfl ?_;simp only[vq,seval,d1,d2])
 refine aW rfl (t24) ?_
 repeat(refine cc rfl rfl ?_;simp only[vq,seval,d1,d2])
 have e:List.take 2 (N.map Nd.d)=qA.map Nd.d:=by rw[hR];rfl
 rw[e];refine aW rfl (C) ?_
 repeat(refine cc rfl rfl ?_;simp only[vq,seval,d1,d2])
def Ah(n:Nd):List Int:=[n.lv,n.lo,n.hi]
theorem qH{a b:Nd}(h:Ah a=Ah b):a=b:=by simp only[Ah,List.cons.injEq,and_true]at h;obtain⟨h1,h2,h3⟩:=h;cases a;cases b;simp only[Nd.mk.injEq];simp only at h1 h2 h3;omega
theorem Lw{es:List (List Int×D)}{s:List Int}{x:D}(h:∀p∈es,p.1≠s):gN es s x=es++[(s,x)]:=by
 induction es with
 |nil=>rfl
 |cons p es ih=>rw[gN,if_neg (h p (List.mem_cons_self ..)),ih fun q hq=>h q (List.mem_cons_of_mem _ hq)];rfl
theorem Gi{es:List (List Int×D)}{s:List Int}{z:D}(h:∀p∈es,p.1≠s):fY z es s=z/\gZ es s=false:=by
 induction es with
 |nil=>exact⟨rfl,rfl⟩
 |cons p es ih=>rw[fY,gZ,if_neg (h p (List.mem_cons_self ..)),if_neg (h p (List.mem_cons_self ..))];exact ih fun q hq=>h q (List.mem_cons_of_mem _ hq)
theorem t45[NB]{N:List Nd}(h:ct N){i:Nat}(h2:2<=i)(hi:i<N.length):CallP Tryz.prog 45 [.d (dg N),.d (.int .i64 i)] (.d (.bool true)):=by have hmL:=dx;have h3:=h.len;have hn:=eD hi;obtain⟨p1,p2,p3,p4,p5,p6⟩:=h.zA h2 hi;generalize cA N i=n at*;have hl:=eD (show n.lo<N.length by omega);have hh:=eD (show n.hi<N.length by omega);generalize cA N n.lo=a at*;generalize cA N n.hi=b at*;refine cc45.go ac45 rfl ?_;simp only[vq,seval,ac45,dg];refine⟨om,om,bg hn ?_⟩;simp only[vq,seval];simp only[vq,seval,Nd.d,List.map_cons,List.map_nil,dt (show(0:Int)<=(n.lv:Nat) by omega),dt (show((n.lv:Nat):Int)<20 by omega),dt (show(0:Int)<=(n.lo:Nat) by omega),dt (show((n.lo:Nat):Int)<(i:Nat) by omega),dt (show(0:Int)<=(n.hi:Nat) by omega),dt (show((n.hi:Nat):Int)<(i:Nat) by omega)];refine du rfl ?_;simp only[vq,seval,ah,bS,df (show¬((n.lo:Nat):Int)=(n.hi:Nat) by omega)];refine⟨om,om,bg hl ?_⟩;simp only[vq,seval,Nd.d,List.map_cons,List.map_nil];refine⟨om,om,bg hh ?_⟩;simp only[vq,seval,Nd.d,List.map_cons,List.map_nil];simp only[aj];split<;>omega
def sQ(l:List Nd):List (List Int×D):=l.map fun n=>(Ah n,.bool true)
theorem t18[NB]{N:List Nd}(h:ct N):CallP Tryz.prog 18 [.agg [.d (dg N)]] (.d (.bool true)):=by
 have hmL:=dx;have h3:=h.len;refine cc18.go ac18 rfl ?_;simp only[vq,seval,ac18];refine aW rfl ((t44 h)) ?_;simp only[vq,seval];simp only[vq,seval,dg];refine bb (fun i:Nat=>⟨cC 36 [(1,.aY 1 0 1 0 0),(3,.aY 0 1 0 1 0),(12,.d (dg N)),(13,.d (.int .i64 N.length)),(14,.d (.int .i64 i))],[.live 1 [[.d (dg N)]],.obj (.mq 3 (sQ (N.take i)))]⟩) (fun i=>i<=N.length) (fun i=>N.length-i) 0 (a9 (by simp only[vq,seval,dg];try trivial)) om ?_;rintro i h1;simp only[vq,seval];refine aZ (fun hc=>?_) (fun hc=>?_)
 ·simp only[aj]at hc;obtain⟨n,hx⟩:=bh (l:=N) (i:=i) om;have hsn:N.take (i+1)=N.take i++[n]:=bQ hx;have hno:∀p∈sQ (N.take i),p.1≠Ah n:=fun p hp e=>by obtain⟨m,hm,rfl⟩:=aw.1 hp;have hmn:m=n:=qH e;subst hmn;have:=h.nd;rw[<-List.take_append_drop (i+1) N,List.nodup_append,hsn,List.nodup_append]at this;exact this.1.2.2 m hm m sm rfl
  have hput:=Lw (x:=.bool true) hno;have hget:=(Gi (z:=.bool false) hno).1;have hk:Ah n=[(n.lv:Int),(n.lo:Int),(n.hi:Int)]:=rfl;rw[hk]at hput hget;simp only[vq,seval,dg];refine⟨om,om,bg hx ?_⟩;simp only[vq,seval];simp only[vq,seval,Nd.d,List.map_cons,List.map_nil];by_cases hi2:2<=i
  ·simp only[vq,seval,dt (show(2:Int)<=(i:Nat) by omega)];refine aW rfl ((t45 h hi2 om)) ?_;simp only[vq,seval];simp only[vq,seval,ah,bS,hget,hput];refine bL (i+1) om (bz 2 sm (by rw[hsn];simp[sQ,dg,Ah]) rfl ⟨eE (e:=[dg N]),trivial,trivial⟩ ?_) om;simp only[vq,seval,dg];rw[a8 om om];trivial
  ·simp only[vq,seval,ah,bS,df (show¬(2:Int)<=(i:Nat) by omega),hput];refine bL (i+1) om (bz 2 sm (by rw[hsn];simp[sQ,dg,Ah]) rfl ⟨eE (e:=[dg N]),trivial,trivial⟩ ?_) om;simp only[vq,seval,dg];rw[a8 om om];trivial
 ·simp only[vq,seval]
def nD(f:Nat):List D:=[.int .i64 f]
theorem t113[NB]{N:List Nd}(h:ct N)(l:List Nat)(hl:∀f∈l,f<N.length)(hll:l.length<=8192):CallP Tryz.prog 113 [.agg [.d (dg N)],.d (.sl 1 (l.map nD))] (.d (.bool true)):=by
 have hmL:=dx;have h3:=h.len;refine cc113.go ac113 rfl ?_;simp only[vq,seval,ac113];refine aW rfl ((t18 h)) ?_;simp only[vq,seval];refine bb (fun i:Nat=>⟨cC 26 [(2,.aY 1 0 1 0 0),(10,.d (.sl 1 (l.map nD))),(11,.d (.int .i64 l.length)),(12,.d (.int .i64 i))],[.live 1 [[.d (dg N)]]]⟩) (fun i=>i<=l.length) (fun i=>l.length-i) 0 (a9 vt) om ?_;rintro i h1;simp only[vq,seval];refine aZ (fun hc=>?_) (fun hc=>?_)
 ·simp only[aj]at hc;obtain⟨f,hx⟩:=bh (l:=l) (i:=i) om;have hf:=hl f (af hx);simp only[vq,seval];refine⟨om,om,bg hx ?_⟩;simp only[vq,seval];simp only[vq,seval,nD,dg,df (show¬((f:Nat):Int)<0 by omega),df (show¬(N.length:Int)<=(f:Nat) by omega)];refine bL (i+1) om (a9 ?_) om;simp only[vq,seval,dg];rw[a8 om om];trivial
 ·simp only[vq,seval]
theorem oY[bf]{P:Program}{f:FuncId}{vals:List V}{rows:Go.Vx.Rows}{K K':V->Go.Vx.Rows->Prop}(h:dn P f vals rows K)(hk:∀v R,K v R->∃v' R',fb rows.length ⟨[v],R⟩ ⟨[v'],R'⟩/\K' v' R'):dn P f vals rows K':=⟨h.1,fun c args ok hG hr ha=>(h.2 c args ok hG hr ha).mono fun _ _ ⟨u,c',v,e1,e2,e3,e4,e5,e6⟩=>by
  obtain⟨v',R',hw,hK⟩:=hk _ _ e6;obtain⟨ρ,I,R,w⟩:=c';have hs:=hw c ⟨#[u],[]⟩ w (by rw[hr]) ⟨ρ,I,e3,e4,trivial,sm,fun i=>by
   cases i with
   |zero=>exact e5
   |succ i=>simpa[nth]using b7.any _⟩
  obtain⟨ρ',I',ok',x',_,_,f'⟩:=hs;refine⟨u,⟨ρ',I',R',w⟩,v',e1,e2,ok',x',?_,hK⟩;exact f' 0⟩
def xX:Nat->List Nd->List (List Int×D)
 |_,[]=>[]
 |k,n::l=>(Ah n,.int .i64 k)::xX (k+1) l
abbrev JF(N:List Nd)(full:Bool):bd:=.live 3 [[.cl 3 8 N.length 0 N.length,.aY 0 6 0 1 0,.d (.bool full)]]
abbrev I9(N:List Nd):bd:=.live 3 ((N.map Nd.d).map (·.map .d))
structure yU where
 r0:bd
 r1:bd
 r2:bd
 r3:bd
 r4:bd
 r5:bd
 r9:bd
def yU.ok(p:yU):Prop:=∀m,10<=m->dz m p.r0/\dz m p.r1/\dz m p.r2/\dz m p.r3/\dz m p.r4/\dz m p.r5/\dz m p.r9
def okF(F:Go.Vx.Rows):Prop:=∀m,kg m F
def bR(p:yU)(N:List Nd)(full:Bool)(F:Go.Vx.Rows):Go.Vx.Rows:=p.r0::p.r1::p.r2::p.r3::p.r4::p.r5:: .obj (.mq 3 (xX 0 N))::JF N full::I9 N::p.r9::F
theorem On{p:yU}(hp:p.ok)(N:List Nd)(full:Bool){F:Go.Vx.Rows}(hF:okF F){m:Nat}(hm:10<=m):kg m (bR p N full F):=by
 obtain⟨h0,h1,h2,h3,h4,h5,h9⟩:=hp m hm;refine⟨h0,h1,h2,h3,h4,h5,trivial,fun e he v hv=>?_,kM,h9,hF m⟩;simp only[List.mem_singleton]at he;subst he;simp only[aP,List.not_mem_nil,or_false]at hv;rcases hv with rfl|rfl|rfl
 ·simp[hB];omega
 ·simp[hB];omega
 ·rfl
theorem Co(p:yU)(N:List Nd)(full:Bool)(F:Go.Vx.Rows):(bR p N full F).length=F.length+10:=rfl
theorem oC[bf]{f:FuncId}{vals:List V}{p:yU}{N:List Nd}{full:Bool}{F:Go.Vx.Rows}(hF:okF F){K':V->Go.Vx.Rows->Prop} (h:dn Tryz.prog f vals (bR p N full F) (fun v R=>∃(p':yU) (N':List Nd) (full':Bool) (T:Go.Vx.Rows),(∀m,10<=m->hB m v=true)/\p'.ok/\R=bR p' N' full' F++T/\K' v (bR p' N' full' F))):dn Tryz.prog f vals (bR p N full F) K':=oY h fun v R ⟨p',N',full',T,e1,e2,e3,e4⟩=>by subst e3;have ht:(bR p' N' full' F++T).take (F.length+10)=bR p' N' full' F:=List.take_left' (Co ..);refine⟨v,bR p' N' full' F,?_,e4⟩;have:=eN (b0:=(bR p N full F).length) (fr:=[v]) (fr':=[v]) (rows:=bR p' N' full' F++T) (F.length+10) (by rw[Co];exact aq _) (mQ trivial) (by simp[e1 (F.length+10) om]) (by rw[ht];exact On e2 _ _ hF om);rw[ht]at this;exact this
theorem Pk[bf][NB](p:yU){N:List Nd}(h:ct N)(full:Bool)(F:Go.Vx.Rows){f:Nat}(hf:f<N.length)(lv:Nat)(one:Bool):dn Tryz.prog 170 [.aY 3 7 1 0 0,.d (.int .i64 f),.d (.int .i64 lv),.d (.bool one)] (bR p N full F) (fun v R=>v=.d (.int .i64 (o6 N f lv one))/\∃T,R=bR p N full F++T):=by
 have hmL:=dx;have hn:=eD hf;have r0:∀B:Go.Vx.Rows,Go.Vx.rowAt (F++B) F.length=Go.Vx.rowAt B 0:=fun B=>cd om;have s0:∀(B:Go.Vx.Rows) (r:bd),setAt (F++B) F.length r=F++setAt B 0 r:=fun B r=>cf om;unfold o6 bR;generalize cA N f=n at*;refine cc170.gi ac170 rfl ?_;simp only[vq,seval,ac170,r0,s0];have hg:(List.map (fun x=>List.map V.d x) (List.map Nd.d N))[f]? =some [.d (.int .i64 n.lv),.d (.int .i64 n.lo),.d (.int .i64 n.hi)]:=by rw[ar,ar,hn];rfl
 refine⟨om,om,b8 hg ?_⟩;simp only[vq,seval,r0,s0];by_cases hl:n.lv=lv
 ·simp only[vq,seval,r0,s0,df (show¬((n.lv:Nat):Int)≠(lv:Nat) by omega)];rw[if_pos hl];cases one with
  |true=>simp only[vq,seval,r0,s0];exact⟨_,rfl⟩
  |false=>simp only[vq,seval,r0,s0];exact⟨_,rfl⟩
 ·simp only[vq,seval,r0,s0,dt (show((n.lv:Nat):Int)≠(lv:Nat) by omega)];rw[if_neg hl];exact⟨rfl,_,rfl⟩
theorem t170[bf][NB]{p:yU}(hp:p.ok){N:List Nd}(h:ct N)(full:Bool){F:Go.Vx.Rows}(hF:okF F){f:Nat}(hf:f<N.length)(lv:Nat)(one:Bool):dn Tryz.prog 170 [.aY 3 7 1 0 0,.d (.int .i64 f),.d (.int .i64 lv),.d (.bool one)] (bR p N full F) (fun v R=>v=.d (.int .i64 (o6 N f lv one))/\R=bR p N full F):=oC hF (b6 (Pk p h full F hf lv one) fun v R ⟨h1,T,h2⟩=>⟨p,N,full,T,h1▸fun _ _=>rfl,hp,h2,h1,rfl⟩)
theorem Mg{N:List Nd}{n:Nd}:∀(k:Nat),gZ (xX k N) (Ah n)=(za N n).isSome/\∀i,za N n=some i->fY (.int .i64 0) (xX k N) (Ah n)=.int .i64 ((k+i:Nat):Int):=by
 induction N with
 |nil=>intro k;exact⟨rfl,fun i h=>by cases h⟩
 |cons x N ih=>
  intro k;rw[xX,gZ,za,fY];by_cases hx:x=n
  ·rw[if_pos (by rw[hx]),if_pos hx,if_pos (by rw[hx])];exact⟨rfl,fun i h=>by injection h with h;subst h;rfl⟩
  ·rw[if_neg (fun e=>hx (qH e)),if_neg hx,if_neg (fun e=>hx (qH e))];obtain⟨h1,h2⟩:=ih (k+1);refine⟨by rw[h1];cases za N n<;>rfl,fun i h=>?_⟩;obtain⟨j,hj,rfl⟩:=aa.1 h;rw[h2 j hj];congr 2;omega
theorem Ff{N:List Nd}{n:Nd}:∀(k:Nat),za N n=none->gN (xX k N) (Ah n) (.int .i64 ((k+N.length:Nat):Int))=xX k (N++[n]):=by
 induction N with
 |nil=>intro k _;rfl
 |cons x N ih=>
  intro k h;rw[za]at h;split at h
  ·cases h
  ·rename_i hx;rw[Option.map_eq_none_iff]at h;rw[xX,gN,if_neg (fun e=>hx (qH e)),List.cons_append,xX];have:=ih (k+1) h;rw[show k+1+N.length=k+(x::N).length by simp;omega]at this;rw[this]
theorem Nx[bf][NB](p:yU){s:Bt}(h:ct s.N)(F:Go.Vx.Rows)(lv lo hi:Nat):dn Tryz.prog 171 [.aY 3 7 1 0 0,.d (.int .i64 lv),.d (.int .i64 lo),.d (.int .i64 hi)] (bR p s.N s.full F) (fun v R=>v=.d (.int .i64 (qq s lv lo hi).1)/\∃T,R=bR p (qq s lv lo hi).2.N (qq s lv lo hi).2.full F++T):=by
 have hmL:=dx;have hlen:=h.len;have r0:∀B:Go.Vx.Rows,Go.Vx.rowAt (F++B) F.length=Go.Vx.rowAt B 0:=fun B=>cd om;have s0:∀(B:Go.Vx.Rows) (r:bd),setAt (F++B) F.length r=F++setAt B 0 r:=fun B r=>cf om;have r1:∀B:Go.Vx.Rows,Go.Vx.rowAt (F++B) (F.length+1)=Go.Vx.rowAt B 1:=fun B=>cd om;have s1:∀(B:Go.Vx.Rows) (r:bd),setAt (F++B) (F.length+1) r=F++setAt B 1 r:=fun B r=>cf om;have r2:∀B:Go.Vx.Rows,Go.Vx.rowAt (F++B) (F.length+2)=Go.Vx.rowAt B 2:=fun B=>cd om;have s2:∀(B:Go.Vx.Rows) (r:bd),setAt (F++B) (F.length+2) r=F++setAt B 2 r:=fun B r=>cf om;obtain⟨N,full,K⟩:=s;simp only at h hlen|-;have ha:=Mg (N:=N) (n:=⟨lv,lo,hi⟩) 0;have hp:=Ff (N:=N) (n:=⟨lv,lo,hi⟩) 0;have hk:Ah ⟨lv,lo,hi⟩=[(lv:Int),(lo:Int),(hi:Int)]:=rfl;rw[hk]at ha hp;unfold qq bR;refine cc171.gi ac171 rfl ?_;by_cases h1:lo=hi
 ·simp only[vq,seval,ac171,dt (show((lo:Nat):Int)=(hi:Nat) by omega)];rw[if_pos h1];exact⟨rfl,[],by rw[List.append_nil]⟩
 ·rw[if_neg h1];simp only[vq,seval,ac171,df (show¬((lo:Nat):Int)=(hi:Nat) by omega),r0,s0];refine du rfl ?_;simp only[vq,seval,r0,s0];cases hix:za N ⟨lv,lo,hi⟩with
  |some i=>have hi2:=ha.2 i hix;rw[Nat.zero_add]at hi2;rw[ha.1,hix];simp only[vq,seval,r0,s0,Option.isSome_some,hi2];exact⟨_,rfl⟩
  |none=>
   have hp:=hp hix;rw[Nat.zero_add]at hp;rw[ha.1,hix];by_cases hf:8192<=N.length
   ·simp only[vq,seval,r0,s0,Option.isSome_none,dt (show(8192:Int)<=(N.length:Int) by omega)];rw[if_pos hf];exact⟨rfl,_,rfl⟩
   ·simp only[vq,seval,r0,s0,Option.isSome_none,df (show¬(8192:Int)<=(N.length:Int) by omega)];rw[if_neg hf];refine bW ?_;simp only[vq,seval,r0,s0,hp]
    repeat((first|refine cc rfl rfl ?_|refine cc ck ck ?_);simp only[vq,seval,r0,s0,hp])
    refine bW ?_;simp only[vq,seval,r0,s0,r1,s1,r2,s2,List.append_assoc]
    repeat((first|refine cc rfl rfl ?_|refine cc ck ck ?_);simp only[vq,seval,r0,s0,r1,s1,r2,s2,List.append_assoc])
    refine⟨by simp only[bM];omega,?_⟩
    repeat((first|refine cc rfl rfl ?_|refine cc ck ck ?_);simp only[vq,seval,r0,s0,r1,s1,r2,s2,List.append_assoc])
    rw[a8 om om];refine⟨om,[.live 3 [[.d (.int .i64 lv),.d (.int .i64 lo),.d (.int .i64 hi)]],.live 3 [[.d (.int .i64 lv),.d (.int .i64 lo),.d (.int .i64 hi)]],.un],?_⟩;have e1:(N++[(⟨lv,lo,hi⟩:Nd)]).length=N.length+1:=by simp
    have e2:List.map (fun x=>List.map V.d x) (List.map Nd.d N)++[[V.d (D.int IntKind.i64 lv),V.d (D.int IntKind.i64 lo),V.d (D.int IntKind.i64 hi)]]=((N++[(⟨lv,lo,hi⟩:Nd)]).map Nd.d).map (·.map .d):=by simp[Nd.d]
    rw[e2,JF,e1]
theorem t171[bf][NB]{p:yU}(hp:p.ok){s:Bt}(h:ct s.N){F:Go.Vx.Rows}(hF:okF F)(lv lo hi:Nat):dn Tryz.prog 171 [.aY 3 7 1 0 0,.d (.int .i64 lv),.d (.int .i64 lo),.d (.int .i64 hi)] (bR p s.N s.full F) (fun v R=>v=.d (.int .i64 (qq s lv lo hi).1)/\R=bR p (qq s lv lo hi).2.N (qq s lv lo hi).2.full F):=oC hF (b6 (Nx p h F lv lo hi) fun v R ⟨h1,T,h2⟩=>⟨p,_,_,T,h1▸fun _ _=>rfl,hp,h2,h1,rfl⟩)
mutual
def qu:List RS->List V->List V->Go.Vx.Rows->(V->Go.Vx.Rows->Prop)->Prop
 |[],acc,_,rows,K=>K (fM acc) rows
 | .tmp t::l,acc,fr,rows,K=>qu l (acc++[nth fr t]) fr rows K
 | .cell a agg sz::l,acc,fr,rows,K=>mj rows agg sz (nth fr a) (yX l acc fr rows K)
def yX:List RS->List V->List V->Go.Vx.Rows->(V->Go.Vx.Rows->Prop)->V->List (Nat×bd)->Prop
 |l,acc,fr,rows,K,x,_=>qu l (acc++[x]) fr rows K
end
theorem zy[bf](P:Program)(fr:List V)(rows:Go.Vx.Rows)(K:V->Go.Vx.Rows->Prop):∀(l:List RS) (acc:List V),gA l ⟨fr,rows⟩ (fun vs=>K (fM (acc++vs)) rows)=qu l acc fr rows K:=by
 intro l;induction l with
 |nil=>intro acc;simp[gA,qu]
 |cons r l ih=>
  intro acc;cases r with
  |tmp t=>simp only[gA,qu];rw[<-ih];simp
  |cell a agg sz=>simp only[gA,qu];have:=(eo (P:=P) (base:=0) (hi:=0) (fr:=fr) (rows:=rows) (dst:=none) (κ:=yX l acc fr rows K) (o:=.load agg sz (.t a)) rfl).symm.trans yP;rw[bw.ev]at this;rw[<-this];congr 1;funext x u;simp only[yX];rw[<-ih];simp
theorem EK[bf]{rs:List RS}{K:V->Go.Vx.Rows->Prop}{fr:List V}{rows:Go.Vx.Rows}:xe rs K .ret ⟨fr,rows⟩=qu rs [] fr rows K:=by rw[<-zy Tryz.prog];rfl
def cQ(r:Option (Nat×List Nd)):V:=match r with
 |some (i,N)=>.cm [.agg [.d (dg N)],.d (.int .i64 i),.d (.int .i64 0)]
 |none=>.cm [.agg [.d .bm],.d (.int .i64 0),.d (.int .i64 2)]
def uO(full:Bool)(n i:Nat):V:=if full=true then .cm [.agg [.d .bm],.d (.int .i64 0),.d (.int .i64 2)]else .cm [.agg [.cl 3 8 n 0 n],.d (.int .i64 i),.d (.int .i64 0)]
theorem Oo[bf][NB](p:yU){N:List Nd}(h:ct N)(full:Bool)(F:Go.Vx.Rows)(i:Nat):dn Tryz.prog 115 [.aY 3 7 1 0 0,.d (.int .i64 i)] (bR p N full F) (fun v R=>v=uO full N.length i/\∃T,R=bR p N full F++T):=by
 have hmL:=dx;have hlen:=h.len;have r0:∀B:Go.Vx.Rows,Go.Vx.rowAt (F++B) F.length=Go.Vx.rowAt B 0:=fun B=>cd om;have s0:∀(B:Go.Vx.Rows) (r:bd),setAt (F++B) F.length r=F++setAt B 0 r:=fun B r=>cf om;unfold bR;refine cc115.gi ac115 rfl ?_;cases full with
 |true=>simp only[vq,seval,ac115,r0,s0];rw[EK];simp only[vq,seval,qu,yX,r0,s0];exact⟨rfl,_,rfl⟩
 |false=>simp only[vq,seval,ac115,r0,s0];rw[EK];simp only[vq,seval,qu,yX,r0,s0];exact⟨rfl,_,rfl⟩
theorem t115[bf][NB]{p:yU}(hp:p.ok){N:List Nd}(h:ct N)(full:Bool){F:Go.Vx.Rows}(hF:okF F)(i:Nat):dn Tryz.prog 115 [.aY 3 7 1 0 0,.d (.int .i64 i)] (bR p N full F) (fun v R=>v=uO full N.length i/\R=bR p N full F):=oC hF (b6 (Oo p h full F i) fun v R ⟨h1,T,h2⟩=>⟨p,_,_,T,h1▸fun m hm=>by cases full<;>simp[uO,hB,Ce]<;>omega,hp,h2,h1,rfl⟩)
def Cu(K:List (Key×Nat)):List (List Int×D):=K.map fun p=>([(p.1.1:Int),(p.1.2.1:Int),(p.1.2.2:Int)],.int .i64 p.2)
theorem key_inj{a b:Key}(h:[(a.1:Int),(a.2.1:Int),(a.2.2:Int)]=[(b.1:Int),(b.2.1:Int),(b.2.2:Int)]):a=b:=by simp only[List.cons.injEq,and_true]at h;obtain⟨h1,h2,h3⟩:=h;obtain⟨a1,a2,a3⟩:=a;obtain⟨b1,b2,b3⟩:=b;simp only[Prod.mk.injEq];simp only at h1 h2 h3;omega
theorem JL(K:List (Key×Nat))(x:Key):gZ (Cu K) [(x.1:Int),(x.2.1:Int),(x.2.2:Int)]=(kG K x).isSome/\∀i,kG K x=some i->fY (.int .i64 0) (Cu K) [(x.1:Int),(x.2.1:Int),(x.2.2:Int)]=.int .i64 i:=by
 induction K with
 |nil=>exact⟨rfl,fun i h=>by cases h⟩
 |cons p K ih=>
  rw[Cu,List.map_cons,gZ,kG,fY];by_cases hx:p.1=x
  ·rw[if_pos (by rw[hx]),if_pos hx,if_pos (by rw[hx])];exact⟨rfl,fun i h=>by injection h with h;subst h;rfl⟩
  ·rw[if_neg (fun e=>hx (key_inj e)),if_neg hx,if_neg (fun e=>hx (key_inj e))];exact ih
theorem JS(K:List (Key×Nat))(x:Key)(i:Nat):gN (Cu K) [(x.1:Int),(x.2.1:Int),(x.2.2:Int)] (.int .i64 i)=Cu (kP K x i):=by
 induction K with
 |nil=>rfl
 |cons p K ih=>
  rw[Cu,List.map_cons,gN,kP];by_cases hx:p.1=x
  ·rw[if_pos (by rw[hx]),if_pos hx];rfl
  ·rw[if_neg (fun e=>hx (key_inj e)),if_neg hx];simp only[Cu]at ih|-;rw[ih];rfl
end Go.Proofs.Tp
