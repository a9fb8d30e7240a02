/- Proved: contracts of functions that the laws of Top reach, and plain facts for them. Conditions: those that each lemma states. -/
import Derived.Test.YtmhkppbollghoaaGreatDoorH5
set_option linter.unusedSectionVars false
set_option linter.unusedSimpArgs false
set_option linter.unusedVariables false
namespace Go.Proofs.Tp
open Go.Vx
structure Rg where
 lo:Int
 hi:Int
def Rg.d(r:Rg):List D:=[.int .i64 r.lo,.int .i64 r.hi]
def oF(l:List Rg)(n:Int):List Rg:=match l.getLast? with
 |some r=>if r.hi=n-1 then l.dropLast++[⟨r.lo,n⟩]else l++[⟨n,n⟩]
 |none=>[⟨n,n⟩]
def jW(l:List Int):List Rg:=l.foldl oF []
theorem Cr(l:List Rg)(n:Int):(oF l n).length<=l.length+1:=by
 unfold oF;split
 ·rename_i r hr;have:l≠[]:=by rintro rfl;simp at hr
  have:=List.length_pos_iff.2 this;split<;>simp<;>omega
 ·simp
theorem xb(l:List Int):(jW l).length<=l.length:=by
 have:∀(l:List Int) (a:List Rg),(l.foldl oF a).length<=a.length+l.length:=fun l=>by
  induction l with
  |nil=>intro a;simp
  |cons x l ih=>intro a;rw[List.foldl_cons];have:=ih (oF a x);have:=Cr a x;simp;omega
 have:=this l [];simpa[jW]using this
theorem t146(l:List Int)(hl:l.length<=65536)(hb:∀x∈l,0<=x/\x<=65536):CallP Tryz.prog 146 [.d (.sl 1 (l.map iD))] (.d (.sl 2 ((jW l).map Rg.d))):=by
 have hmL:=dx;refine cc146.go (AC.at AC.wk [1,1,0,0] ac146) rfl ?_;simp only[vq,seval,ac146,AC.at];refine fu _ (eJ 3 2 rfl) ?_;simp only[vq,seval];refine bb (fun i:Nat=>⟨cC 41 [(3,.cl 2 0 (jW (l.take i)).length 0 (jW (l.take i)).length),(7,.d (.sl 1 (l.map iD))),(8,.d (.int .i64 l.length)),(9,.d (.int .i64 i))],[.live 2 (((jW (l.take i)).map Rg.d).map (·.map .d))]⟩) (fun i=>i<=l.length) (fun i=>l.length-i) 0 (bk rfl vt) om ?_;rintro i h1;simp only[vq,seval];refine aZ (fun hc=>?_) (fun hc=>?_)
 ·simp only[aj]at hc;obtain⟨x,hx⟩:=bh (l:=l) (i:=i) om;obtain⟨x1,x2⟩:=hb x (af hx);have hr:jW (l.take (i+1))=oF (jW (l.take i)) x:=by rw[bQ hx,jW,List.foldl_append];rfl
  have hrl:=xb (l.take i);rw[List.length_take]at hrl;generalize jW (l.take i)=R at hr hrl|-;simp only[vq,seval];refine⟨om,om,bg hx ?_⟩;simp only[vq,seval];simp only[vq,seval,iD];rw[a8 (n:=(R.length:Int)-1) om om];rcases List.eq_nil_or_concat R with rfl|⟨R0,r,rfl⟩
  ·simp only[vq,seval,df (show¬(0:Int)<=(0:Nat)-1 by omega),List.length_nil,List.map_nil];have hr:jW (l.take (i+1))=[⟨x,x⟩]:=hr;refine⟨by simp only[bM];omega,bL (i+1) om (bz 1 sm (by rw[hr];simp[Rg.d]) rfl ⟨nY (l:=(jW (l.take (i+1))).map Rg.d),trivial⟩ ?_) om⟩;simp only[vq,seval,hr,List.length_cons,List.length_nil];rw[a8 om om];trivial
  ·have hlen:(R0.concat r).length=R0.length+1:=by simp
   have hk:(((R0.concat r).length:Int)-1)=(R0.length:Nat):=om;have hadd:oF (R0.concat r) x=if r.hi=x-1 then R0++[⟨r.lo,x⟩]else R0++[r]++[⟨x,x⟩]:=by rw[List.concat_eq_append,oF,List.getLast?_append];simp
   rw[hadd]at hr;have hget:(((R0.concat r).map Rg.d).map (·.map V.d))[R0.length]? =some (r.d.map .d):=by rw[ar,ar,List.concat_eq_append,aJ (aq _),Nat.sub_self];rfl
   have hset:∀y:Int,(((R0.concat r).map Rg.d).map (·.map V.d)).set R0.length [.d (.int .i64 r.lo),.d (.int .i64 y)]=((R0++[(⟨r.lo,y⟩:Rg)]).map Rg.d).map (·.map V.d):=fun y=>by rw[List.concat_eq_append,List.map_append,List.map_append,List.map_cons,List.map_cons,dA _ _ _ _ sm];simp[Rg.d]
   rw[hk];simp only[vq,seval,dt (show(0:Int)<=(R0.length:Nat) by omega)];refine⟨om,om,b8 hget ?_⟩;simp only[vq,seval,Rg.d,List.map_cons,List.map_nil];rw[a8 (n:=x-1) om om];by_cases he:r.hi=x-1
   ·rw[if_pos he]at hr;simp only[vq,seval,dt he];refine⟨om,om,b8 hget ?_⟩;simp only[vq,seval,Rg.d,List.map_cons,List.map_nil,hset];refine bL (i+1) om (bz 1 sm (by rw[hr];simp) rfl ⟨nY (l:=(jW (l.take (i+1))).map Rg.d),trivial⟩ ?_) om;simp only[vq,seval,hr,az,List.length_cons,List.length_nil,hlen];rw[a8 om om];trivial
   ·rw[if_neg he]at hr;simp only[vq,seval,df he];refine⟨by simp only[bM];omega,bL (i+1) om (bz 1 sm (by rw[hr];simp[Rg.d]) rfl ⟨nY (l:=(jW (l.take (i+1))).map Rg.d),trivial⟩ ?_) om⟩;simp only[vq,seval,hr,az,List.length_cons,List.length_nil,hlen];rw[a8 om om];trivial
 ·simp only[ak]at hc;obtain rfl:i=l.length:=om;rw[al (aq _)];simp only[vq,seval];exact da (es:=(jW l).map Rg.d) rfl sm om (fun e he=>by obtain⟨t,_,rfl⟩:=aw.1 he;rfl) (by rw[List.drop_zero,al sm])
inductive FR(m:Nat)(rows:Go.Vx.Rows):List V->List V->Prop where
 |nil:FR m rows [] []
 |cons (v v':V) (l l':List V) (h:Kp m rows v v') (ho:fh v'=true) (t:FR m rows l l'):FR m rows (v::l) (v'::l')
theorem Gu{m:Nat}{rows:Go.Vx.Rows}{l l':List V}(h:FR m rows l l'):l.length=l'.length/\∀(j:Nat) (v v':V),l[j]? =some v->l'[j]? =some v'->Kp m rows v v'/\fh v'=true:=by
 induction h with
 |nil=>exact⟨rfl,fun j v v' h=>by simp at h⟩
 |cons v v' l l' h ho t ih=>
  refine⟨by simp[ih.1],fun j x x' h1 h2=>?_⟩;cases j with
  |zero=>simp at h1 h2;subst h1 h2;exact⟨h,ho⟩
  |succ j=>exact ih.2 j x x' (by simpa using h1) (by simpa using h2)
theorem sh{m:Nat}{rows:Go.Vx.Rows}{sz:Nat}{e e':List V}(h:FR m rows e e'):Bj m rows (.live sz [e]) (.live sz [e']):=by
 obtain⟨h1,h2⟩:=Gu h;refine .cells sz _ _ rfl fun i a b ha hb=>?_;cases i with
 |zero=>simp at ha hb;subst ha hb;exact⟨h1,h2⟩
 |succ i=>simp at ha
theorem oA{m:Nat}{rows:Go.Vx.Rows}{d:D}{l l':List V}(t:FR m rows l l'):FR m rows (.d d::l) (.d d::l'):=.cons _ _ _ _ (.same _ rfl) rfl t
theorem OK{m sz:Nat}{rows:Go.Vx.Rows}{l l':List V}(t:FR m rows l l'):FR m rows (.d .bm::l) (.d (.sl sz [])::l'):=.cons _ _ _ _ (.snap _ _ (.bm sz)) rfl t
def gh(n:Int):Ex:=.mk 1 n [] []
theorem t191(n:Int):CallP Tryz.prog 191 [.d (.int .i64 n)] (.agg ((gh n).d.map .d)):=by refine cc191.go ac191 rfl ?_;simp only[vq,seval,ac191,gh,Ex.d,Ex.ds,List.map_cons,List.map_nil]
def lU(s:B)(l:List Rg):Ex:=.mk 23 0 [] (.mk 2 0 s []::l.flatMap fun r=>[gh r.lo,gh r.hi])
theorem qP(s:B)(l:List Rg):(lU s l).args.map Ex.d=[.int .i64 2,.int .i64 0,.str s,.sl 4 []]::(l.flatMap fun r=>[(gh r.lo).d,(gh r.hi).d]):=by simp[lU,Ex.args,Ex.d,Ex.ds,List.map_flatMap]
theorem Nr(s:B)(l:List Rg):(lU s l).d=[.int .i64 23,.int .i64 0,.str [],.sl 4 ((lU s l).args.map Ex.d)]:=Ex.jB _
theorem IX(n:Int):(gh n).d=[.int .i64 1,.int .i64 n,.str [],.sl 4 []]:=rfl
theorem t192(s:B)(l:List Rg)(hl:l.length<=16):CallP Tryz.prog 192 [.d (.str s),.d (.sl 2 (l.map Rg.d))] (.agg ((lU s l).d.map .d)):=by
 have hmL:=dx;refine cc192.go (AC.at AC.wk [1,1,0,0] ac192) rfl ?_;simp only[vq,seval,ac192,AC.at];have hA:∀i,((lU s (l.take i)).args.map Ex.d).length=2*min i l.length+1:=fun i=>by
  rw[qP,List.length_cons,List.length_flatMap];have:∀m:List Rg,(m.map fun r=>[(gh r.lo).d,(gh r.hi).d].length).sum=2*m.length:=fun m=>by
   induction m with
   |nil=>rfl
   |cons x m ih=>rw[List.map_cons,List.sum_cons,ih];simp;omega
  rw[this,List.length_take]
 refine fu ⟨cC 29 [(1,.d (.sl 2 (l.map Rg.d))),(4,.aY 4 0 1 0 0),(5,.cl 4 1 1 0 1)],[.live 4 [[.d (.int .i64 0),.d (.int .i64 0),.d (.str []),.d .bm]],.live 4 (((lU s (l.take 0)).args.map Ex.d).map (·.map .d))]⟩ ?_ ?_
 ·refine(a9 (fr':=cC 29 [(1,.d (.sl 2 (l.map Rg.d))),(4,.aY 4 0 1 0 0),(5,.cl 4 1 1 0 1)]) (by simp only[vq,seval])).trans (mT 2 sm ⟨.same _ ?_,sh (oA (oA (oA (OK .nil)))),trivial⟩ (mb rfl));exact eE (e:=[.int .i64 0,.int .i64 0,.str [],.bm])
 simp only[vq,seval];refine bb (fun i:Nat=>⟨cC 29 [(4,.aY 4 0 1 0 0),(5,.cl 4 1 (2*i+1) 0 (2*i+1)),(11,.d (.sl 2 (l.map Rg.d))),(12,.d (.int .i64 l.length)),(13,.d (.int .i64 i))],[.live 4 [[.d (.int .i64 0),.d (.int .i64 0),.d (.str []),.d .bm]],.live 4 (((lU s (l.take i)).args.map Ex.d).map (·.map .d))]⟩) (fun i=>i<=l.length) (fun i=>l.length-i) 0 (a9 vt) om ?_;rintro i h1;simp only[vq,seval];refine aZ (fun hc=>?_) (fun hc=>?_)
 ·simp only[aj]at hc;obtain⟨x,hx⟩:=bh (l:=l) (i:=i) om;have hi:=hA i;have hi1:=hA (i+1);have hsn:(lU s (l.take (i+1))).args.map Ex.d=(lU s (l.take i)).args.map Ex.d++[(gh x.lo).d,(gh x.hi).d]:=by rw[qP,qP,bQ hx,List.flatMap_append];rfl
  rw[Nat.min_eq_left h1]at hi;generalize (lU s (l.take i)).args.map Ex.d=L at hi hsn|-;simp only[vq,seval];refine⟨om,om,bg hx ?_⟩;simp only[vq,seval];simp only[vq,seval,Rg.d];refine bW ?_;simp only[vq,seval]
  repeat(refine cc rfl rfl ?_;simp only[vq,seval])
  refine aW rfl (t191 x.lo) ?_
  repeat(refine cc rfl rfl ?_;simp only[vq,seval])
  refine aW rfl (t191 x.hi) ?_
  repeat(refine cc rfl rfl ?_;simp only[vq,seval])
  simp only[vq,seval,IX,List.map_cons,List.map_nil];refine cc rfl rfl ?_;simp only[vq,seval];refine⟨by simp[hi],by simp only[bM];omega,?_⟩;refine cc rfl rfl ?_;simp only[vq,seval];refine cc rfl rfl ?_;simp only[vq,seval];refine bL (i+1) om (bz 2 sm (by rw[hsn];simp[IX]) rfl ⟨eE (e:=[.int .i64 0,.int .i64 0,.str [],.bm]),nY (l:=(lU s (l.take (i+1))).args.map Ex.d),trivial⟩ ?_) om;simp only[vq,seval];rw[a8 om om];exact⟨rfl,rfl⟩
 ·simp only[ak]at hc;obtain rfl:i=l.length:=om;rw[al (aq _)];have hi:=hA l.length;rw[al (aq _),Nat.min_self]at hi;rw[Nr];simp only[vq,seval,List.map_cons,List.map_nil];exact da rfl (by simp[hi]) om (fun e he=>by obtain⟨t,_,rfl⟩:=aw.1 he;exact t.cN) (by rw[List.drop_zero,al (by simp[hi])])
def CE(s:B):Nat->List Rg->Ex->Ex
 |0,_,e=>e
 |k+1,l,e=>if l=[]then e else CE s k (l.drop 16) (.mk 20 0 [] [e,lU s (l.take 16)])
def NW(s:B)(l:List Rg):Ex:=if l=[]then gh 0 else CE s l.length (l.drop 16) (lU s (l.take 16))
theorem wC(R:Go.Vx.Rows)(l:List D):kZ R (l.map .d) (l.map .d):=sn rfl fun j v v' h1 h2=>by
  rw[h1]at h2;injection h2 with h2;subst h2
  rw[ar]at h1;obtain⟨d,_,rfl⟩:=aa.1 h1;exact .d _
theorem Pn(e:Ex)(l:List V)(h:l.length=4):e.d.map V.d++l.drop e.d.length=e.d.map .d:=by rw[e.cN,aR om,List.append_nil]
theorem N5(n:Nat):(if(n:Int)<16 then(n:Int)else 16)=((min 16 n:Nat):Int):=by split<;>omega
theorem t145(s:B)(l:List Rg)(hl:l.length<=65536):CallP Tryz.prog 145 [.d (.str s),.d (.sl 2 (l.map Rg.d))] (.agg ((NW s l).d.map .d)):=by
 have hmL:=dx;refine cc145.go ac145 rfl ?_;simp only[vq,seval,ac145];by_cases h0:l=[]
 ·subst h0;simp only[vq,seval,List.length_nil,List.map_nil,dt (show((0:Nat):Int)=0 by rfl)];refine aW rfl (t191 0) ?_;simp only[vq,seval];simp only[vq,seval,dI,Pn];exact wC _ _
 ·have hp:=List.length_pos_iff.2 h0;have hT:∀m:List Rg,(m.map Rg.d).take (min 16 m.length)=(m.take 16).map Rg.d:=fun m=>by
   rw[<-List.map_take];congr 1;rcases Nat.le_total 16 m.length with h|h
   ·rw[Nat.min_eq_left h]
   ·rw[Nat.min_eq_right h,al (aq _),al h]
  have hD:∀m:List Rg,(m.map Rg.d).drop (min 16 m.length)=(m.drop 16).map Rg.d:=fun m=>by
   rw[<-List.map_drop];congr 1;rcases Nat.le_total 16 m.length with h|h
   ·rw[Nat.min_eq_left h]
   ·rw[Nat.min_eq_right h,List.drop_of_length_le (aq _),List.drop_of_length_le h]
  have hD2:∀m:List Rg,((m.map Rg.d).take m.length).drop (min 16 m.length)=(m.drop 16).map Rg.d:=fun m=>by rw[al sm,hD]
  simp only[vq,seval,df (show¬((l.length:Nat):Int)=0 by omega),N5,hT];refine⟨om,om,?_⟩;refine aW rfl (t192 s (l.take 16) so) ?_;simp only[vq,seval];simp only[vq,seval,dI,Pn];refine⟨om,om,om,?_⟩;refine bb (fun t:Nat×List Rg×Ex=>⟨cC 40 [(0,.d (.str s)),(1,.d (.sl 2 (t.2.1.map Rg.d))),(4,.aY 4 0 1 0 0),(6,.aY 4 1 1 0 0)],[.live 4 [[.d (.int .i64 0),.d (.int .i64 0),.d (.str []),.d .bm]],.live 4 [t.2.2.d.map .d]]⟩) (fun t=>t.2.1.length<=t.1/\t.1<=65536/\NW s l=CE s t.1 t.2.1 t.2.2) (fun t=>t.1) (l.length,l.drop 16,lU s (l.take 16)) (a9 (by simp only[vq,seval,hT,hD2];try trivial)) ⟨sm,hl,by rw[NW,if_neg h0]⟩ ?_;rintro⟨k,m,e⟩ ⟨h1,h2,h3⟩;dsimp only at h1 h2 h3;simp only[vq,seval];by_cases hm:m=[]
  ·subst hm;have hz:CE s k [] e=e:=by cases k<;>rfl
   rw[hz]at h3;simp only[vq,seval,List.length_nil,List.map_nil,df (show¬(0:Int)<((0:Nat):Int) by omega),dI,Pn];rw[h3];exact wC _ _
  ·have hmp:=List.length_pos_iff.2 hm;obtain⟨k,rfl⟩:∃j,k=j+1:=⟨k-1,om⟩;rw[CE,if_neg hm]at h3;simp only[vq,seval,dt (show(0:Int)<((m.length:Nat):Int) by omega),N5];refine bW ?_;simp only[vq,seval,dI,hT]
   repeat(refine cc rfl rfl ?_;simp only[vq,seval,dI,hT])
   refine⟨om,om,?_⟩
   repeat(refine cc rfl rfl ?_;simp only[vq,seval,dI,hT])
   refine aW rfl (t192 s (m.take 16) so) ?_
   repeat(refine cc rfl rfl ?_;simp only[vq,seval,dI,hT])
   have h4:List.drop 4 (e.d.map V.d)=[]:=aR (by rw[an,e.cN];exact aq _);rw[h4];refine⟨om,om,om,bL (k,m.drop 16,.mk 20 0 [] [e,lU s (m.take 16)]) sm ((a9 (fr':=cC 40 [(0,.d (.str s)),(1,.d (.sl 2 ((m.drop 16).map Rg.d))),(4,.aY 4 0 1 0 0),(6,.aY 4 1 1 0 0)]) ?_).trans (mT 2 sm ⟨.same _ ?_,sh (oA (oA (oA (.cons _ _ _ _ (.snap _ (.d (.sl 4 [e.d,(lU s (m.take 16)).d])) ?_) rfl .nil)))),trivial⟩ (mb rfl))) ⟨by simp;omega,om,h3⟩⟩
   ·simp only[vq,seval,hD2]
   ·exact eE (e:=[.int .i64 0,.int .i64 0,.str [],.bm])
   ·exact da (es:=[e.d,(lU s (m.take 16)).d]) rfl rfl om (fun y hy=>by simp at hy;rcases hy with rfl|rfl<;>exact Ex.cN _) rfl
def La(n:Int)(w:Wt):Bool:=decide (w.lo<=n)&&decide (n<=w.hi)
theorem t144(w:Wt)(n:Int):CallP Tryz.prog 144 [.agg (w.d.map .d),.d (.ptr [.int .i64 n])] (.d (.bool (La n w))):=by
 refine cc144.go ac144 rfl ?_;unfold La;by_cases h:w.lo<=n
 ·simp only[vq,seval,ac144,Wt.d,List.map_cons,List.map_nil,dt h,Bool.true_and]
 ·simp only[vq,seval,ac144,Wt.d,List.map_cons,List.map_nil,df h,Bool.false_and]
theorem zJ{α:Type}(p:α->Bool):∀(l:List α) (k:Nat),0<=nq p l k->∃(i:Nat) (x:α),nq p l k=((k+i:Nat):Int)/\l[i]? =some x
 |[],k,h=>by rw[nq]at h;omega
 |x::l,k,h=>by
  rw[nq]at h|-;split
  ·exact⟨0,x,rfl,rfl⟩
  ·rename_i hp;rw[if_neg hp]at h;obtain⟨i,y,e1,e2⟩:=zJ p l (k+1) h;exact⟨i+1,y,by rw[e1];congr 1;omega,by simpa using e2⟩
def yB(ws:List Wt)(n:Int):Bool:=decide (0<=nq (La n) ws 0)&&match ws[(nq (La n) ws 0).toNat]? with|some w=>decide (0<w.wt)|none=>false
def gT(ws:List Wt)(m:Nat):List Int:=((List.range m).map Int.ofNat).filter (yB ws)
theorem s9(ws:List Wt)(m:Nat):gT ws (m+1)=if yB ws m=true then gT ws m++[(m:Int)]else gT ws m:=by
 unfold gT;rw[List.range_succ,List.map_append,List.filter_append];simp only[List.map_cons,List.map_nil,Int.ofNat_eq_natCast];cases h:yB ws (m:Int)with
 |true=>rw[List.filter_cons_of_pos (by simpa using h)];simp
 |false=>rw[List.filter_cons_of_neg (by simpa using h)];simp
theorem Eb(ws:List Wt)(m:Nat):(gT ws m).length<=m:=by unfold gT;exact Nat.le_trans (List.length_filter_le _ _) sm
theorem FW(ws:List Wt)(m:Nat):∀x∈gT ws m,0<=x/\x<m:=fun x hx=>by obtain⟨i,hi,rfl⟩:=aw.1 (List.mem_filter.1 hx).1;have:=List.mem_range.1 hi;simp;omega
def Bs(x:Vr)(d:Ds):Ex:=NW x.nm (jW (gT d.ws (2^x.w.toNat)))
theorem t91(p:Pr)(d:Ds)(hd:0<=d.v)(x:Vr)(hx:p.vars[d.v.toNat]? =some x)(w1:1<=x.w)(w2:x.w<=8)(hl:d.ws.length<=maxLen):CallP Tryz.prog 91 [.agg (p.d.map .d),.agg (d.d.map .d)] (.agg ((Bs x d).d.map .d)):=by
 have hmL:=dx;have hm:=hm;have hp8:2^x.w.toNat<=256:=by
  have:=K9 w1 w2;have:((2^x.w.toNat:Nat):Int)=2^x.w.toNat:=by rw[Int.natCast_pow];rfl
  omega
 have hs:IntKind.i64.wrap (1*2^(min x.w.toNat (IntKind.bits .i64)))=((2^x.w.toNat:Nat):Int):=by rw[DG w1 w2,Int.natCast_pow];rfl
 have hvl:=(ad.1 hx).1;rw[bj];refine cc91.go (AC.at AC.wk [1,1,1,1,0] (AC.at AC.wk [1,1,1,0,0] ac91)) rfl ?_;simp only[vq,seval,ac91,AC.at,Ds.d,List.map_cons,List.map_nil,cz];refine⟨om,om,bg hx ?_⟩;simp only[vq,seval,Vr.d];refine fu _ (eJ 6 1 rfl) ?_;simp only[vq,seval,Vr.d];refine⟨om,?_⟩;simp only[vq,seval,hs];obtain⟨M,hM⟩:∃M,M=2^x.w.toNat:=⟨_,rfl⟩;rw[<-hM]at hp8;unfold Bs;rw[<-hM];refine bb (fun i:Nat=>⟨cC 46 [(2,.aY 5 0 1 0 0),(3,.aY 2 1 1 0 0),(4,.aY 4 2 1 0 0),(5,.aY 4 3 1 0 0),(6,.cl 1 4 (gT d.ws i).length 0 (gT d.ws i).length),(17,.d (.int .i64 M)),(18,.d (.int .i64 i))],[.live 5 [p.d.map .d],.live 2 [d.d.map .d],.live 4 [[.d (.int .i64 0),.d (.int .i64 0),.d (.str []),.d .bm]],.live 4 [x.d.map .d],rI (gT d.ws i)]⟩) (fun i=>i<=M) (fun i=>M-i) 0 (bk (by simp[bj,cz,Ds.d,Vr.d,rI,gT]) (by simp only[vq,seval];first|trivial|exact⟨rfl,hM▸rfl⟩|simp[gT])) om ?_;rintro i h1;have hll:=Eb d.ws i;simp only[vq,seval];refine aZ (fun hc=>?_) (fun hc=>?_)
 ·simp only[aj]at hc;have C:=CY cc143 Wt.d d.ws (La (i:Int)) [] [.d (.ptr [.int .i64 i])] hl (fun _ _=>rfl) (fun _=>rfl) (fun w _=>t144 w i);have hsc:=s9 d.ws i;generalize gT d.ws i=L at hll hsc|-;simp only[vq,seval,Ds.d,List.map_cons,List.map_nil];refine fw (v:=.d (.int .i64 (nq (La (i:Int)) d.ws 0))) (by simp[dN,eu,Go.Vx.rowAt,wD,kv,gn]) rfl (by simpa[dJ,eR,sP]using C) ?_;have rb:kg 5 [.live 5 [p.d.map .d],.live 2 [d.d.map .d],.live 4 [[.d (.int .i64 0),.d (.int .i64 0),.d (.str []),.d .bm]],.live 4 [x.d.map .d],rI (gT d.ws (i+1))]:=⟨eE (e:=p.d),eE (e:=d.d),eE (e:=[.int .i64 0,.int .i64 0,.str [],.bm]),eE (e:=x.d),nY (l:=(gT d.ws (i+1)).map iD),trivial⟩;by_cases h0:0<=nq (La (i:Int)) d.ws 0
  ·obtain⟨j,w,e1,e2⟩:=zJ _ d.ws 0 h0;rw[Nat.zero_add]at e1;have hj:=(ad.1 e2).1;have hsb:yB d.ws (i:Int)=decide (0<w.wt):=by rw[yB,dt h0,e1,Int.toNat_natCast,e2];rfl
   rw[hsb]at hsc;rw[e1];simp only[vq,seval,dt (show(0:Int)<=(j:Nat) by omega)];refine⟨om,om,bg e2 ?_⟩;simp only[vq,seval];simp only[vq,seval,Wt.d];by_cases hw0:0<w.wt
   ·rw[dt hw0,if_pos rfl]at hsc;simp only[vq,seval,dt hw0,rI,an];refine⟨by simp only[bM];omega,bL (i+1) om (bz 5 sm (by rw[hsc];simp[rI,bj,Ds.d,Vr.d,cz,iD]) rfl rb ?_) om⟩
    ·simp only[vq,seval,hsc,az,List.length_cons,List.length_nil];rw[a8 om om];trivial
   ·rw[df hw0,if_neg sm]at hsc;simp only[vq,seval,df hw0];refine bL (i+1) om (bz 5 sm (by rw[hsc];simp[rI,bj,Ds.d,Vr.d,cz,iD]) rfl rb ?_) om
    ·simp only[vq,seval,hsc];rw[a8 om om];trivial
  ·have hsb:yB d.ws (i:Int)=false:=by rw[yB,df h0,Bool.false_and]
   rw[hsb,if_neg sm]at hsc;simp only[vq,seval,df h0];refine bL (i+1) om (bz 5 sm (by rw[hsc];simp[rI,bj,Ds.d,Vr.d,cz,iD]) rfl rb ?_) om
   ·simp only[vq,seval,hsc];rw[a8 om om];trivial
 ·simp only[ak]at hc;obtain rfl:i=M:=om;simp only[vq,seval];refine fu ⟨cC 46 [(4,.aY 4 2 1 0 0),(5,.aY 4 3 1 0 0),(6,.d (.sl 1 ((gT d.ws i).map iD)))],[.live 5 [p.d.map .d],.live 2 [d.d.map .d],.live 4 [[.d (.int .i64 0),.d (.int .i64 0),.d (.str []),.d .bm]],.live 4 [x.d.map .d]]⟩ ((a9 (fr':=cC 46 [(4,.aY 4 2 1 0 0),(5,.aY 4 3 1 0 0),(6,.cl 1 4 (gT d.ws i).length 0 (gT d.ws i).length)]) ?_).trans (kO 4 sm ?_ (mO (i:=6) (v':=.d (.sl 1 ((gT d.ws i).map iD))) rfl ?_ rfl))) ?_
  ·simp only[vq,seval]
   try trivial
  ·exact⟨eE (e:=p.d),eE (e:=d.d),eE (e:=[.int .i64 0,.int .i64 0,.str [],.bm]),eE (e:=x.d),trivial⟩
  ·exact da (es:=(gT d.ws i).map iD) rfl sm om Ge (by rw[List.drop_zero,al sm])
  refine bW ?_;simp only[vq,seval,Vr.d,List.map_cons,List.map_nil]
  repeat(refine cc rfl rfl ?_;simp only[vq,seval])
  have hin:=FW d.ws i;refine aW rfl (t146 (gT d.ws i) om (fun y hy=>by have:=hin y hy;omega)) ?_
  repeat(refine cc rfl rfl ?_;simp only[vq,seval])
  have:=xb (gT d.ws i);refine aW rfl (t145 x.nm (jW (gT d.ws i)) om) ?_
  repeat(refine cc rfl rfl ?_;simp only[vq,seval])
  simp only[vq,seval,dI,Pn];refine cc rfl rfl ?_;simp only[vq,seval,dI,Pn];exact wC _ _
def rk(p:Pr)(d:Ds):Ex:=match p.vars[d.v.toNat]? with
 |some x=>Bs x d
 |none=>gh 0
def dm(p:Pr):List Ex:=p.bZ.map (rk p)
theorem js{p:Pr}(h:cE p=0):ou p.vars=0/\fE (lg p.vars) p.cj=0/\fE (lg p.vars) p.soft=0/\gI p.vars [] p.bZ=0/\sT p.vars p.br=0:=by
 unfold cE at h;split at h
 ·rename_i h1;exact absurd h h1
 split at h
 ·rename_i h1;exact absurd h h1
 split at h
 ·rename_i h1;exact absurd h h1
 split at h
 ·rename_i h1;exact absurd h h1
 rename_i h1 h2 h3 h4;exact⟨om,om,om,om,h⟩
theorem DU{l:List Vr}{e:Ex}(h:lg l e=0):lE e=0/\lC l e=0:=by
 unfold lg at h;split at h
 ·rename_i h1;exact absurd h h1
 ·rename_i h1;exact⟨om,h⟩
theorem Az{p:Pr}(ok:g8 p)(h:cE p=0):∀e∈p.cj,qe p.vars e:=fun e he=>⟨ok.cj e he,DU (nv (js h).2.1 e he)⟩
theorem vB{p:Pr}(ok:g8 p)(h:cE p=0):∀e∈p.soft,qe p.vars e:=fun e he=>⟨ok.soft e he,DU (nv (js h).2.2.1 e he)⟩
theorem uM(l:List Vr):∀(r pre:List Ds),gI l pre r=0->∀x∈r,gj l x.v=true/\x.ws.length<=16
 |[],_,_,x,hx=>by cases hx
 |y::r,pre,h,x,hx=>by
  rw[gI]at h;split at h
  ·rename_i h0;rcases aP.1 hx with rfl|hx
   ·unfold xp at h0;split at h0
    ·cases h0
    split at h0
    ·cases h0
    split at h0
    ·cases h0
    rename_i h1 h2 h3;exact⟨by simpa using h1,om⟩
   ·exact uM l r _ h x hx
  ·rename_i h0;exact absurd h h0
theorem zz{l:List Vr}{i:Int}(h:gj l i=true):0<=i/\∃x,l[i.toNat]? =some x/\x.m≠0:=by
 unfold gj at h;rw[av,aj]at h;obtain⟨h1,h2⟩:=h;refine⟨h1,?_⟩;split at h2
 ·rename_i x hx;exact⟨x,hx,by simpa using h2⟩
 ·cases h2
theorem t47(p:Pr)(ok:g8 p)(hv:cE p=0):CallP Tryz.prog 47 [.agg (p.d.map .d)] (.d (.sl 4 ((dm p).map Ex.d))):=by
 have hmL:=dx;have hm:=hm;have hl:=ok.vars.1;have C1:=t34 p ok;have hds:=uM _ _ _ (js hv).2.2.2.1;have hdl:=ok.lens.2.2.1;have D:=t91 p;rw[bj]at C1 D|-;refine cc47.go ac47 rfl ?_;simp only[vq,seval,ac47];refine aW (qG p) (C1) ?_;simp only[vq,seval];simp only[vq,seval,ah,bS,dt hv]
 repeat(refine⟨by first|omega|(simp only[bM];omega),?_⟩)
 refine bb (fun i:Nat=>⟨cC 28 [(1,.aY 5 0 1 0 0),(3,.cl 4 1 i 0 i),(14,.d (.sl 2 (p.bZ.map Ds.d))),(15,.d (.int .i64 p.bZ.length)),(16,.d (.int .i64 i))],[.live 5 [p.d.map .d],.live 4 ((((p.bZ.take i).map (rk p)).map Ex.d).map (·.map .d))]⟩) (fun i=>i<=p.bZ.length) (fun i=>p.bZ.length-i) 0 (bk (by simp[bj]) vt) om ?_;rintro i h1;simp only[vq,seval,bj];refine aZ (fun hc=>?_) (fun hc=>?_)
 ·simp only[aj]at hc;obtain⟨x,hx⟩:=bh (l:=p.bZ) (i:=i) om;have hxm:=af hx;obtain⟨q1,q2⟩:=hds x hxm;obtain⟨q3,y,q4,q5⟩:=zz q1;obtain⟨w1,w2⟩:=pP hv y (af q4);have hs:rk p x=Bs y x:=by unfold rk;rw[q4]
  simp only[vq,seval];refine⟨om,om,bg hx ?_⟩;simp only[vq,seval];simp only[vq,seval,Ds.d];refine aW (QC p.d x.d) (D x q3 y q4 w1 w2 om) ?_;simp only[vq,seval];rw[<-hs];refine⟨Ex.cN _,Pt _,by simp;omega,by simp only[bM];omega,?_⟩;refine bL (i+1) om (bz 2 sm (by rw[bQ hx];simp[bj,Ex.cN]) rfl ⟨eE (e:=p.d),nY (l:=((p.bZ.take (i+1)).map (rk p)).map Ex.d),trivial⟩ ?_) om;simp only[vq,seval];rw[a8 om om];trivial
 ·simp only[ak]at hc;obtain rfl:i=p.bZ.length:=om;rw[al (aq _)];simp only[vq,seval];exact da (es:=(dm p).map Ex.d) rfl (by simp[dm]) om (fun e he=>by obtain⟨t,_,rfl⟩:=aw.1 he;exact t.cN) (by rw[List.drop_zero,al (by simp[dm])])
def ji(x:Vr):List Int:=if x.m=0 then[x.v]else(List.range (2^x.w.toNat)).map Int.ofNat
def nn:List Vr->List (List Int)
 |[]=>[[]]
 |x::l=>(ji x).flatMap fun u=>(nn l).map (u:: ·)
def JG(x:Vr)(v:Int):Nat:=if x.m=0 then 0 else v.toNat
def FN:List Vr->List Int->List (List Int)
 |x::l,v::a=>(FN l a).map (v:: ·)++((ji x).drop (JG x v+1)).flatMap fun u=>(nn l).map (u:: ·)
 |_,_=>[[]]
theorem zx:∀{l:List Vr} {a:List Int},dq l a=true->(k8 l a).2=true->(k8 l a).1=jb l
 |[],[],_,_=>rfl
 |[],_::_,h,_=>by cases h
 |_::_,[],h,_=>by cases h
 |x::l,v::a,h,h2=>by
  rw[dq,av]at h;rw[k8]at h2|-;split
  ·rename_i hf;rw[if_pos hf]at h2;cases h2
  rename_i hf;have ht:(k8 l a).2=true:=by simpa using hf
  rw[if_neg hf]at h2;have ih:=zx h.2 ht;split
  ·rename_i hm;have hv:v=x.v:=by have:=h.1;simp[jQ,hm]at this;exact this.2.2
   rw[jb,if_pos hm,ih,hv]
  rename_i hm;rw[if_neg hm]at h2;split
  ·rename_i hlt;rw[if_pos hlt]at h2;cases h2
  ·rw[jb,if_neg hm,ih]
theorem qO:∀{l:List Vr},FN l (jb l)=nn l
 |[]=>rfl
 |x::l=>by
  rw[jb,FN,nn,qO];unfold ji JG;by_cases hm:x.m=0
  ·simp[hm]
  ·simp only[hm,if_false];have hp:0<2^x.w.toNat:=Nat.two_pow_pos _;obtain⟨n,hn⟩:∃n,2^x.w.toNat=n+1:=⟨2^x.w.toNat-1,om⟩;rw[hn,List.range_succ_eq_map,List.map_cons,List.flatMap_cons];rfl
theorem rv:∀{l:List Vr} {a:List Int},dq l a=true->FN l a=a::(if(k8 l a).2=true then[]else FN l (k8 l a).1)
 |[],[],_=>rfl
 |[],_::_,h=>by cases h
 |_::_,[],h=>by cases h
 |x::l,v::a,h=>by
  rw[dq,av]at h;have ih:=rv h.2;have hb:=zx (l:=l) (a:=a) h.2;have hv:=uT h.1;rw[FN,ih,List.map_cons,List.cons_append,k8];by_cases hf:(k8 l a).2=false
  ·rw[if_pos hf,if_neg (by rw[hf];simp),if_neg sm,FN]
  have ht:(k8 l a).2=true:=by simpa using hf
  rw[if_neg hf,if_pos ht,List.map_nil,List.nil_append];by_cases hm:x.m=0
  ·rw[if_pos hm,if_pos rfl];simp[ji,JG,hm]
  rw[if_neg hm];by_cases hlt:v+1<2^x.w.toNat
  ·rw[if_pos hlt,if_neg sm,FN,hb ht,qO];congr 1;have hn:v.toNat+1<2^x.w.toNat:=by
    have:((2^x.w.toNat:Nat):Int)=2^x.w.toNat:=by rw[Int.natCast_pow];rfl
    omega
   have e1:JG x v=v.toNat:=by simp[JG,hm]
   have e2:JG x (v+1)=v.toNat+1:=by simp[JG,hm];omega
   rw[e1,e2];unfold ji;rw[if_neg hm,List.drop_eq_getElem_cons (by simpa using hn),List.flatMap_cons];congr 1;simp;omega
  ·rw[if_neg hlt,if_pos rfl];have hn:2^x.w.toNat<=v.toNat+1:=by
    have:((2^x.w.toNat:Nat):Int)=2^x.w.toNat:=by rw[Int.natCast_pow];rfl
    omega
   simp only[JG,ji,hm,if_false];rw[aR (by simpa using hn)];rfl
theorem Af(l:List Vr)(hw:∀x∈l,1<=x.w/\x.w<=8)(rules:List Ex):∀(n:Nat) (a:List Int),dq l a=true->(FN l a).length<=n->(ni l rules n a false).1=(FN l a).find? (fun a=>rules.all (ie l a))/\((ni l rules n a false).1=none->(ni l rules n a false).2=true)
 |0,a,h,hn=>by rw[rv h]at hn;simp at hn
 |n+1,a,h,hn=>by
  have e0:∀n b,ni l rules n b true=(none,true):=fun n b=>by cases n<;>rfl
  have hs:=rv h;rw[hs,List.find?_cons];rw[hs,List.length_cons]at hn;rw[ni,if_neg sm];cases hh:rules.all (ie l a)with
  |true=>exact⟨rfl,fun h=>by cases h⟩
  |false=>
   rw[if_neg sm];cases ha:(k8 l a).2 with
   |true=>rw[e0,if_pos rfl];exact⟨rfl,fun _=>rfl⟩
   |false=>rw[ha,if_neg sm]at hn;rw[if_neg sm];exact Af l hw rules n _ (uV hw h) om
theorem oX:∀{l:List Vr},(∀x∈l,1<=x.w)->(nn l).length=2^(dk l).toNat/\0<=dk l
 |[],_=>⟨rfl,by decide⟩
 |x::l,h=>by
  obtain⟨h1,h2⟩:=oX (l:=l) fun y hy=>h y (by simp[hy]);have hx:=h x sm;have e:(nn (x::l)).length=(ji x).length*(nn l).length:=by
   rw[nn,List.length_flatMap];generalize ji x=V;induction V with
   |nil=>simp
   |cons u V ih=>rw[List.map_cons,List.sum_cons,ih,an,List.length_cons,Nat.add_mul];omega
  have hb:dk (x::l)=(if x.m=0 then 0 else x.w)+dk l:=rfl;rw[e,h1,hb];unfold ji;by_cases hm:x.m=0
  ·simp[hm,h2]
  ·simp only[hm,if_false,an,List.length_range];rw[<-Nat.pow_add,Int.toNat_add om h2];exact⟨rfl,om⟩
theorem wi:∀{l:List Vr} {a:List Int},a∈nn l->(∀x∈l,0<=x.v/\x.v<2^x.w.toNat)->dq l a=true
 |[],a,h,_=>by simp[nn]at h;subst h;rfl
 |x::l,a,h,hv=>by
  rw[nn]at h;obtain⟨u,hu,h⟩:=List.mem_flatMap.1 h;obtain⟨b,hb,rfl⟩:=aw.1 h;rw[dq,wi hb fun y hy=>hv y (by simp[hy]),Bool.and_true];obtain⟨v1,v2⟩:=hv x sm;unfold ji at hu;split at hu
  ·rename_i hm;simp at hu;subst hu;simp[jQ,hm,v1,v2]
  ·rename_i hm;obtain⟨i,hi,rfl⟩:=aw.1 hu;have hi:=List.mem_range.1 hi;have:((2^x.w.toNat:Nat):Int)=2^x.w.toNat:=by rw[Int.natCast_pow];rfl
   have h3:(i:Int)<2^x.w.toNat:=om;simp[jQ,hm,h3]
def wK(l:List Vr)(rl:List Ex):Bool:=(nn l).any fun a=>rl.all (ie l a)
theorem LB(p:Pr)(hv:cE p=0)(rl:List Ex){n:Nat}(hn:2^(dk p.vars).toNat<=n):(sX p rl n).1.isSome=wK p.vars rl/\((sX p rl n).1=none->(sX p rl n).2=true):=by have hw:=pP hv;have ha:=rU (rp hv);have hl:=(oX (l:=p.vars) fun x hx=>(hw x hx).1).1;obtain⟨h1,h2⟩:=Af p.vars hw rl n (jb p.vars) ha (by rw[qO,hl];exact hn);refine⟨?_,h2⟩;unfold sX;rw[h1,qO,wK,Bool.eq_iff_iff,List.find?_isSome];simp
def db(p:Pr):List Ex:=p.cj++dm p
theorem HO[bf](p:Pr)(ok:g8 p)(hv:cE p=0)(r0:bd):dn Tryz.prog 20 [.agg (p.d.map .d)] [r0] (fun v R=>v=.cl 4 2 (db p).length 0 (db p).length/\R=[r0,.live 5 [p.d.map .d],.live 4 (((db p).map Ex.d).map (·.map .d))]):=by
 have hmL:=dx;have C:=t47 p ok hv;have l1:=ok.lens.1;have l3:=ok.lens.2.2.1;have hsl:(dm p).length=p.bZ.length:=by simp[dm]
 have hl:(db p).length=p.cj.length+(dm p).length:=by simp[db]
 rw[bj]at C|-;refine cc20.gi ac20 rfl ?_;simp only[vq,seval,ac20];refine aW (qG p) (C) ?_;simp only[vq,seval];rw[a8 om om];have e:((p.cj.length:Int)+((dm p).length:Nat)).toNat=p.cj.length+(dm p).length:=om;have eA:(((p.cj.map Ex.d).map (·.map V.d))).length=p.cj.length:=by simp
 have eB:((((dm p).map Ex.d).map (·.map V.d))).length=(dm p).length:=by simp
 have hr:((db p).map Ex.d).map (·.map V.d)=((p.cj.map Ex.d).map (·.map V.d))++(((dm p).map Ex.d).map (·.map V.d)):=by simp[db]
 rw[e,hr,hl];generalize ((p.cj.map Ex.d).map (·.map V.d))=A at eA|-;generalize (((dm p).map Ex.d).map (·.map V.d))=B at eB|-;rw[al (l:=A) om,Nat.min_eq_left om,List.drop_replicate,show p.cj.length+(dm p).length-p.cj.length=(dm p).length by omega];have f1:List.take p.cj.length (A++List.replicate (dm p).length [V.d (D.int IntKind.i64 0),V.d (D.int IntKind.i64 0),V.d (D.str []),V.d D.bm])=A:=by rw[<-eA,List.take_left'];rfl
 have f2:List.drop (p.cj.length+min (dm p).length (dm p).length) (A++List.replicate (dm p).length [V.d (D.int IntKind.i64 0),V.d (D.int IntKind.i64 0),V.d (D.str []),V.d D.bm])=[]:=aR so;rw[f1,f2,al (l:=B) om,List.append_nil];exact⟨om,om,om,om,sm,by simp[eA],om,om,om,by simp[eA],rfl,rfl⟩
theorem t89(p:Pr)(ok:g8 p)(hb0:0<=dE p)(hb:dE p<=20):CallP Tryz.prog 89 [.agg (p.d.map .d)] (.d (.int .i64 ((2^(dE p).toNat:Nat):Int))):=by
 have C:=t11 p ok;rw[bj]at C|-;refine cc89.go ac89 rfl ?_;simp only[vq,seval,ac89];refine aW (qG p) (C) ?_;simp only[vq,seval];refine⟨hb0,?_⟩;have hp:∀k:Nat,k<=20->(2:Int)^k<=1048576/\1<=(2:Int)^k:=by decide
 have hb64:IntKind.bits .i64=64:=rfl;obtain⟨h1,h2⟩:=hp (dE p).toNat om;rw[hb64,Nat.min_eq_left om,Int.one_mul,a8 om om,Int.natCast_pow];rfl
def gE(p:Pr)(rl:List Ex):Bool:=wK p.vars rl
theorem mJ{p:Pr}(h:cE p=0):dE p=dk p.vars/\0<=dk p.vars:=by refine⟨by unfold dE;rw[if_pos h],(oX fun x hx=>(pP h x hx).1).2⟩
theorem Rh(a:List D)(d e:D):([V.agg (a.map .d),V.d d,V.d e]:List V).all kv=true:=by simp[kv,lY,gn]
theorem t46(p:Pr)(ok:g8 p)(hv:cE p=0)(hb:dE p<=18)(rl:List Ex)(hrl:∀e∈rl,qe p.vars e)(hln:rl.length<=4294967296):CallP Tryz.prog 46 [.agg (p.d.map .d),.d (.sl 4 (rl.map Ex.d))] (.d (.bool (gE p rl))):=by
 obtain⟨e1,e2⟩:=mJ hv;have hp:∀k:Nat,k<=18->2^k<=262144:=by decide
 have hp:=hp (dE p).toNat om;have C:=t89 p ok om om;have D:=t17 p ok hv rl hrl hln (2^(dE p).toNat) hp;obtain⟨f1,f2⟩:=LB p hv rl (n:=2^(dE p).toNat) (by rw[e1];exact aq _);generalize 2^(dE p).toNat=n at*;rw[bj]at C D|-;refine cc46.go ac46 rfl ?_;simp only[vq,seval,ac46];refine bW ?_;simp only[vq,seval]
 repeat(refine cc rfl rfl ?_;simp only[vq,seval])
 refine aW (qG p) C ?_
 repeat(refine cc rfl rfl ?_;simp only[vq,seval])
 have hmn:(if(262144:Int)<n then(262144:Int)else n)=n:=if_neg om;rw[hmn]
 repeat(refine cc rfl rfl ?_;simp only[vq,seval])
 refine aW (Rh p.d _ _) D ?_;unfold gE;rw[<-f1];rcases hh:sX p rl n with⟨q,o⟩;rw[hh]at f1 f2;cases q with
 |some c=>
  simp only[DB]
  repeat(refine cc rfl rfl ?_;simp only[vq,seval])
  rfl
 |none=>
  have:=f2 rfl;simp only at this;subst this;simp only[DB]
  repeat(refine cc rfl rfl ?_;simp only[vq,seval])
  rfl
theorem gM{α:Type}{l:List α}{i:Nat}{x:α}(h:l[i]? =some x):l.set i x=l:=by
 refine List.ext_getElem? fun j=>?_;by_cases hj:i=j
 ·subst hj;rw[List.getElem?_set_self (ad.1 h).1,h]
 ·rw[List.getElem?_set_ne hj]
theorem t21:∀(m:Nat) (e:Ex),e.nodes.length<=m->nA e->CallP Tryz.prog 21 [.agg (e.d.map .d)] (.agg (e.d.map .d))
 |0,e,h,_=>by have:=cZ e;omega
 |m+1,e,hle,he=>by
  have hmL:=dx;have hn:=he.1;have hsub:=mU hle he;have hal:e.args.length<=4294967296:=by
   have:∀l:List Ex,l.length<=(Ex.bX l).length:=fun l=>by
    induction l with
    |nil=>exact aq _
    |cons x l ih=>rw[Ex.bX,az,List.length_cons];have:=cZ x;omega
   have:=this e.args;rw[Ex.bT,List.length_cons]at hn;omega
  rw[e.jB];refine cc21.go ac21 rfl ?_;simp only[vq,seval,ac21,List.map_cons,List.map_nil];have eA:(((e.args.map Ex.d).map (·.map V.d))).length=e.args.length:=by simp
  have eT:∀(i:Nat) (x:Ex),e.args[i]? =some x->(((e.args.map Ex.d).map (·.map V.d)))[i]? =some (x.d.map .d):=fun i x h=>by rw[ar,ar,h];rfl
  have hA:∀x∈((e.args.map Ex.d).map (·.map V.d)),x.length=4:=fun x hx=>by obtain⟨y,hy,rfl⟩:=aw.1 hx;obtain⟨z,_,rfl⟩:=aw.1 hy;rw[an,z.cN]
  refine⟨om,om,om,om,sm,sm,?_⟩;refine bb (fun i:Nat=>⟨cC 30 [(1,.aY 4 0 1 0 0),(2,.aY 4 1 1 0 0),(3,.cl 4 2 e.args.length 0 e.args.length),(14,.d (.int .i64 e.args.length)),(15,.d (.int .i64 i))],[.live 4 [[.d (.int .i64 e.op),.d (.int .i64 e.n),.d (.str e.nm),.d (.sl 4 (e.args.map Ex.d))]],.live 4 [[.d (.int .i64 0),.d (.int .i64 0),.d (.str []),.d .bm]],.live 4 ((e.args.map Ex.d).map (·.map .d))]⟩) (fun i=>i<=e.args.length) (fun i=>e.args.length-i) 0 (bk (by simp;exact al sm) vt) om ?_;rintro i h1;simp only[vq,seval];refine aZ (fun hc=>?_) (fun hc=>?_)
  ·simp only[aj]at hc;obtain⟨x,hx⟩:=bh (l:=e.args) (i:=i) om;obtain⟨s1,s2⟩:=hsub x (af hx);simp only[vq,seval];refine⟨om,om,b8 (eT i x hx) ?_⟩;simp only[vq,seval,dI];refine aW (p9 _) (t21 m x s1 s2) ?_;simp only[vq,seval];refine⟨om,om,Ex.cN _,Pt _,b8 (eT i x hx) ?_⟩;simp only[vq,seval,dI];refine bL (i+1) om (bk ?_ ?_) om
   ·have h4:List.drop 4 (x.d.map V.d)=[]:=aR (by rw[an,x.cN];exact aq _);rw[h4,List.append_nil,gM (eT i x hx)]
   ·simp only[vq,seval];rw[a8 om om];trivial
  ·simp only[ak]at hc;obtain rfl:i=e.args.length:=om;simp only[vq,seval,List.map_cons,List.map_nil];exact da (es:=e.args.map Ex.d) rfl sm om (fun y hy=>by obtain⟨t,_,rfl⟩:=aw.1 hy;exact t.cN) (by rw[List.drop_zero,al sm])
def sy(p:Pr):Nat->List Ex->List Int->List Ex×List Int
 |0,r,l=>(r,l)
 |k+1,r,l=>match p.soft[k]? with
  |some e=>if gE p (r++[e])=true then sy p k (r++[e]) (l++[(k:Int)])else sy p k r l
  |none=>(r,l)
def sj(p:Pr):List Int:=(sy p p.soft.length (db p) []).2.reverse
theorem oZ(p:Pr):∀(k:Nat) (r:List Ex) (l:List Int),(sy p k r l).2.length<=l.length+k/\∀x∈(sy p k r l).2,x∈l\/(0<=x/\x<p.soft.length)
 |0,r,l=>⟨aq _,fun x hx=>.inl hx⟩
 |k+1,r,l=>by
  rw[sy];split
  ·rename_i e he;have hk:=(ad.1 he).1;split
   ·obtain⟨h1,h2⟩:=oZ p k (r++[e]) (l++[(k:Int)]);rw[az,List.length_singleton]at h1;refine⟨om,fun x hx=>?_⟩;rcases h2 x hx with h|h
    ·rcases aU.1 h with h|h
     ·exact .inl h
     ·simp at h;exact .inr om
    ·exact .inr h
   ·obtain⟨h1,h2⟩:=oZ p k r l;exact⟨om,h2⟩
  ·exact⟨by simp only;omega,fun x hx=>.inl hx⟩
def CB(p:Pr):Prop:=∀e∈dm p,qe p.vars e
theorem Ae{p:Pr}(ok:g8 p)(hv:cE p=0)(hs:CB p):∀e∈db p,qe p.vars e:=fun e he=>by
 rcases aU.1 he with h|h
 ·exact Az ok hv e h
 ·exact hs e h
theorem t19(p:Pr)(ok:g8 p)(hv:cE p=0)(hs:CB p)(hb:dE p<=18):CallP Tryz.prog 19 [.agg (p.d.map .d)] (if gE p (db p)=true then .cm [.d (.sl 1 ((sj p).map iD)),.d (.int .i64 0)]else .cm [.d .bm,.d (.int .i64 11)]):=by
 have hmL:=dx;have hm:=hm;have l1:=ok.lens.1;have l2:=ok.lens.2.1;have l3:=ok.lens.2.2.1;have hnl:(db p).length<=131072:=by simp[db,dm];omega
 have C1:=t34 p ok;have C2:= @HO;have C3:=t46 p ok hv hb;rw[bj]at C1 C3|-;have C2:=fun(cp:bf)=> @HO cp p ok hv (.live 5 [p.d.map .d]);rw[bj]at C2;refine cc19.go (AC.at AC.wk [1,1,1,1,1,0,0] (AC.at AC.wk [1,1,1,0,0] (AC.at (AC.look [false,true]) [1,1,0] ac19))) rfl ?_;simp only[vq,seval,ac19,AC.at,AC.look];refine aW (qG p) (C1) ?_;simp only[vq,seval];simp only[vq,seval,ah,bS,dt hv];refine dh (b6 (C2 _) ?_);rintro _ _ ⟨rfl,rfl⟩;simp only[vq,seval];have hno:=Ae ok hv hs;generalize hN:db p=N at*;refine fu ⟨cC 69 [(1,.aY 5 0 1 0 0),(4,.d (.sl 4 (N.map Ex.d)))],[.live 5 [p.d.map .d]]⟩ ((a9 (fr':=cC 69 [(1,.aY 5 0 1 0 0),(4,.cl 4 2 N.length 0 N.length)]) ?_).trans (kO 1 sm ?_ (mO (i:=4) (v':=.d (.sl 4 (N.map Ex.d))) rfl ?_ rfl))) ?_
 ·simp only[vq,seval]
  try trivial
 ·exact⟨eE (e:=p.d),trivial⟩
 ·exact da (es:=N.map Ex.d) rfl sm om (fun y hy=>by obtain⟨t,_,rfl⟩:=aw.1 hy;exact t.cN) (by rw[List.drop_zero,al sm])
 simp only[vq,seval,bj];refine aW (Cs p.d _) (C3 N hno om) ?_;simp only[vq,seval];cases hsol:gE p N with
 |false=>simp only[vq,seval,ah,bS];exact .d _
 |true=>
  simp only[vq,seval,ah,bS];refine fu _ (eJ 5 1 rfl) ?_;simp only[vq,seval];have hkl:=oZ p p.soft.length N [];unfold sj;rw[hN];generalize hKK:sy p p.soft.length N []=KK at hkl|-;refine bb (fun t:Nat×List Ex×List Int=>⟨cC 69 [(1,.aY 5 0 1 0 0),(4,.d (.sl 4 (t.2.1.map Ex.d))),(5,.cl 1 1 t.2.2.length 0 t.2.2.length),(6,.d (.int .i64 ((t.1:Int)-1)))],[.live 5 [p.d.map .d],rI t.2.2]⟩) (fun t=>t.1<=p.soft.length/\(∀e∈t.2.1,qe p.vars e)/\t.2.1.length+t.1<=262144/\t.2.2.length+t.1<=65536/\KK=sy p t.1 t.2.1 t.2.2) (fun t=>t.1) (p.soft.length,N,[]) (bk (by simp[bj,rI]) (by simp only[vq,seval];rw[a8 om om];try trivial)) ⟨om,hno,by simp only;omega,by simp;omega,hKK.symm⟩ ?_;rintro⟨k,r,l⟩ ⟨g1,g2,g3,g4,g5⟩;dsimp only at g1 g2 g3 g4 g5;cases k with
  |zero=>
   rw[sy]at g5;subst g5;simp only at hkl;simp only[vq,seval,bj,rI,an];refine⟨om,om,om,om,?_⟩;have e0:List.replicate l.length [V.d (D.int .i64 0)]=((List.replicate (l.length-0) (0:Int)++(l.take 0).reverse).map iD).map (·.map V.d):=by simp[iD]
   rw[e0];have hq:∀i,i<=l.length->(List.replicate (l.length-i) (0:Int)++(l.take i).reverse).length=l.length:=fun i hi=>by simp;omega
   refine bb (fun i:Nat=>⟨cC 69 [(1,.aY 5 0 1 0 0),(8,.cl 1 2 l.length 0 l.length),(52,.cl 1 1 l.length 0 l.length),(53,.d (.int .i64 l.length)),(54,.d (.int .i64 i))],[.live 5 [p.d.map .d],rI l,rI (List.replicate (l.length-i) 0++(l.take i).reverse)]⟩) (fun i=>i<=l.length) (fun i=>l.length-i) 0 (bk (by simp only[rI,bj]) vt) om ?_;rintro i h1;have hLl:(List.replicate (l.length-i) 0++(l.take i).reverse).length=l.length:=by simp;omega
   simp only[vq,seval,bj,rI,an];refine aZ (fun hc=>?_) (fun hc=>?_)
   ·simp only[aj]at hc;obtain⟨x,hx⟩:=bh (l:=l) (i:=i) om;have hset:(List.replicate (l.length-i) 0++(l.take i).reverse).set (l.length-1-i) x=List.replicate (l.length-(i+1)) 0++(l.take (i+1)).reverse:=by rw[bQ hx,List.reverse_append,show l.length-i=(l.length-(i+1))+1 by omega,List.replicate_succ',List.append_assoc,List.singleton_append,dA _ _ _ _ so];rfl
    have hz:(List.replicate (l.length-i) 0++(l.take i).reverse)[l.length-1-i]? =some 0:=by rw[aH so,List.getElem?_replicate,if_pos om]
    generalize (List.replicate (l.length-i) 0++(l.take i).reverse)=L at hLl hset hz|-;simp only[vq,seval,rI,an];refine⟨om,om,b8 (oS hx) ?_⟩;simp only[vq,seval,rI,an];rw[a8 (n:=(l.length:Int)-1) om om,a8 (n:=(l.length:Int)-1-(i:Nat)) om om];have hix:((l.length:Int)-1-(i:Nat))=((l.length-1-i:Nat):Int):=om;rw[hix];simp only[vq,seval,rI,an];refine⟨hLl,om,om,hLl,hLl,b8 (oS hz) ?_⟩;simp only[vq,seval,lf,hset];refine bL (i+1) om (bk (by simp only[rI,bj]) ?_) om;simp only[vq,seval];rw[a8 om om];trivial
   ·simp only[ak]at hc;obtain rfl:i=l.length:=om;rw[Nat.sub_self,List.replicate_zero,List.nil_append,al (aq _)];simp only[vq,seval];exact da (es:=l.reverse.map iD) rfl sm om Ge (by rw[List.drop_zero,al sm])
  |succ k=>
   obtain⟨e,he⟩:=bh (l:=p.soft) (i:=k) om;rw[sy,he]at g5;simp only at g5;have hk1:(((k+1:Nat):Int)-1)=(k:Nat):=om;rw[hk1];simp only[vq,seval,bj,dt (show(0:Int)<=(k:Nat) by omega)];refine bW ?_;simp only[vq,seval,bj]
   repeat(refine cc rfl rfl ?_;simp only[vq,seval,bj])
   refine⟨om,om,bg he ?_⟩;simp only[vq,seval]
   repeat(refine cc rfl rfl ?_;simp only[vq,seval,dI])
   refine⟨by simp only[bM];omega,?_⟩
   repeat(refine cc rfl rfl ?_;simp only[vq,seval,dI])
   have C4:=C3 (r++[e]) (fun y hy=>by rcases aU.1 hy with h|h;exact g2 y h;simp at h;subst h;exact vB ok hv y (af he)) so;have C5:∀R:Go.Vx.Rows,R[3]? =some (.live 4 (((r++[e]).map Ex.d).map (·.map .d)))->dN R (.cl 4 3 (r.length+1) 0 (r.length+1))/\dJ R (.cl 4 3 (r.length+1) 0 (r.length+1))=.d (.sl 4 ((r++[e]).map Ex.d)):=fun R hR=>by have:=I5 hR;simpa only[an,az,List.length_cons,List.length_nil]using this
   have hre:(r.map Ex.d).map (·.map V.d)++[e.d.map .d]=((r++[e]).map Ex.d).map (·.map V.d):=by simp
   rw[hre];refine fw (v:=.d (.bool (gE p (r++[e])))) (fun v hv=>?_) rfl ?_ ?_
   ·simp only[List.nil_append,List.append_nil,aP,List.not_mem_nil,or_false]at hv;rcases hv with rfl|rfl
    ·exact(JE _ p.d).1
    ·exact(C5 _ rfl).1
   ·simp only[List.nil_append,List.append_nil,List.map_cons,List.map_nil];rw[(C5 _ rfl).2];exact(congrArg (fun x=>CallP Tryz.prog 46 [x,.d (.sl 4 ((r++[e]).map Ex.d))] (.d (.bool (gE p (r++[e]))))) (JE _ p.d).2).mpr C4
   cases hsl:gE p (r++[e])with
   |false=>rw[hsl,if_neg sm]at g5;simp only[vq,seval];refine bL (k,r,l) sm (bz 2 sm rfl rfl ⟨eE (e:=p.d),nY (l:=l.map iD),trivial⟩ ?_) ⟨by simp only;omega,g2,by simp only;omega,by simp only;omega,g5⟩;simp only[vq,seval];rw[a8 om om]
   |true=>
    rw[hsl,if_pos rfl]at g5;simp only[vq,seval,rI,an];refine⟨by simp only[bM];omega,bL (k,r++[e],l++[(k:Int)]) sm ((a9 (fr':=cC 69 [(1,.aY 5 0 1 0 0),(4,.cl 4 3 (r.length+1) 0 (r.length+1)),(5,.cl 1 1 (l.length+1) 0 (l.length+1)),(6,.d (.int .i64 ((k:Int)-1)))]) ?_).trans (mT (rows':=[.live 5 [p.d.map .d],rI (l++[(k:Int)])]) 2 sm ⟨.same _ ?_,?_,trivial⟩ ?_)) ⟨by simp only;omega,?_,by simp;omega,by simp;omega,g5⟩⟩
    ·simp only[vq,seval];rw[a8 om om]
    ·exact eE (e:=p.d)
    ·have e1:rI (l++[(k:Int)])=.live 1 (((l.map iD).map (·.map V.d))++[[V.d (.int .i64 (k:Int))]]):=by simp[rI,iD]
     rw[e1];refine .same _ ?_;rw[<-e1];exact nY (l:=(l++[(k:Int)]).map iD)
    ·simp only[az,List.length_cons,List.length_nil,Nat.zero_add];refine(?_:Kb _ _ _ ((cC 69 [(1,.aY 5 0 1 0 0),(4,.cl 4 3 (r.length+1) 0 (r.length+1)),(5,.cl 1 1 (l.length+1) 0 (l.length+1)),(6,.d (.int .i64 ((k:Int)-1)))]).set 4 (.d (.sl 4 ((r++[e]).map Ex.d)))));refine mO (i:=4) rfl ?_ rfl;exact da (sz:=4) (h:=3) (n:=r.length+1) (off:=0) (len:=r.length+1) (es:=(r++[e]).map Ex.d) rfl sm om (fun y hy=>by obtain⟨t,_,rfl⟩:=aw.1 hy;exact t.cN) (by rw[List.drop_zero,al sm])
    ·intro y hy;rcases aU.1 hy with h|h
     ·exact g2 y h
     ·simp at h;subst h;exact vB ok hv y (af he)
def wc(l:List Vr)(x:Ex):Prop:=ei x=0/\CD x/\fN x=false/\gf l x=false
theorem xh:∀(l:List Ex),(∀x∈l,ei x=0)->(gU (fun _ x=>(decide (ei x=0),ei x)) l (0:Int)).2=0
 |[],_=>rfl
 |x::l,h=>by have hx:=h x (List.mem_cons_self ..);rw[gU,if_pos (by simp[hx]),hx];exact xh l fun y hy=>h y (List.mem_cons_of_mem _ hy)
theorem Ch{l:List Vr}{e:Ex}(h:∀x∈e.nodes,wc l x)(hn:e.nodes.length<=400)(hd:e.dep<=24):qe l e:=by
 have hf:vw e=0:=xh _ fun x hx=>(h x hx).1;refine⟨⟨om,fun x hx=>(h x hx).2.1⟩,?_,?_⟩
 ·unfold lE;rw[if_neg om,hf]
 ·unfold lC;have h1:e.nodes.any fN=false:=by rw[List.any_eq_false];intro x hx;simp[(h x hx).2.2.1]
  have h2:e.nodes.any (gf l)=false:=by rw[List.any_eq_false];intro x hx;simp[(h x hx).2.2.2]
  rw[h1,h2];rfl
theorem ur(l:List Vr){n:Int}(h0:0<=n)(h1:n<=65535):wc l (gh n):=by
 have hm:=dx;refine⟨?_,⟨by simp[gh,Ex.args],by simp[gh,Ex.nm,hm]⟩,rfl,rfl⟩;have d1:decide (n<0)=false:=by simp;omega
 have d2:decide (65535<n)=false:=by simp;omega
 simp[ei,sZ,sG,vg,iH,qE,gh,Ex.op,Ex.n,Ex.nm,Ex.args,l7];exact⟨d1,d2⟩
theorem pM(n:Int):(gh n).nodes=[gh n]:=rfl
theorem zt(n:Int):(gh n).dep=1:=rfl
theorem KP{l:List Vr}{a b:Ex}(ha:∀x∈a.nodes,wc l x)(hb:∀x∈b.nodes,wc l x):∀x∈(Ex.mk 20 0 [] [a,b]).nodes,wc l x:=fun x hx=>by
 have hm:=dx;rw[Ex.bT]at hx;simp only[Ex.args,Ex.bX,List.append_nil,aP,aU]at hx;rcases hx with rfl|hx|hx
 ·exact⟨by simp[ei,sZ,sG,vg,iH,qE,Ex.op,Ex.n,Ex.nm,Ex.args,l7],⟨by simp[Ex.args,hm],by simp[Ex.nm,hm]⟩,rfl,rfl⟩
 ·exact ha x hx
 ·exact hb x hx
def Lm(r:Rg):Prop:=0<=r.lo/\r.lo<=255/\0<=r.hi/\r.hi<=255
theorem Dj(m:List Rg):Ex.bX (m.flatMap fun r=>[gh r.lo,gh r.hi])=m.flatMap fun r=>[gh r.lo,gh r.hi]:=by
 induction m with
 |nil=>rfl
 |cons r m ih=>simp only[List.flatMap_cons,List.cons_append,List.nil_append,Ex.bX,pM,ih]
theorem A8(m:List Rg):Ex.gS (m.flatMap fun r=>[gh r.lo,gh r.hi])<=1:=by
 induction m with
 |nil=>exact Nat.zero_le _
 |cons r m ih=>simp only[List.flatMap_cons,List.cons_append,List.nil_append,Ex.gS,zt];omega
theorem FH(m:List Rg):(m.flatMap fun r=>[gh r.lo,gh r.hi]).length=2*m.length:=by
 induction m with
 |nil=>rfl
 |cons r m ih=>rw[List.flatMap_cons,az,ih];simp;omega
theorem FE{l:List Vr}{s:B}(hs:ef s=true)(hk:¬kr l s<0)(hsl:s.length+3<=maxLen){m:List Rg}(h1:m≠[])(h2:m.length<=16)(hr:∀r∈m,Lm r):(∀x∈(lU s m).nodes,wc l x)/\(lU s m).nodes.length=2+2*m.length/\(lU s m).dep=2:=by
 have hm:=dx;have hp:=List.length_pos_iff.2 h1;have hn:(lU s m).nodes=lU s m:: .mk 2 0 s []::m.flatMap fun r=>[gh r.lo,gh r.hi]:=by rw[Ex.bT];simp only[lU,Ex.args,Ex.bX,Dj];rfl
 have hal:(lU s m).args.length=2*m.length+1:=by simp only[lU,Ex.args,List.length_cons,FH]
 refine⟨fun x hx=>?_,by rw[hn,List.length_cons,List.length_cons,FH];omega,?_⟩
 ·rw[hn]at hx;simp only[aP,List.mem_flatMap,List.not_mem_nil,or_false]at hx;rcases hx with rfl|rfl|⟨r,hrm,rfl|rfl⟩
  ·refine⟨?_,⟨om,by simp[lU,Ex.nm,hm]⟩,rfl,rfl⟩;have ho:iH (lU s m)=true:=by unfold iH;rw[if_pos (show(lU s m).op=23 from rfl),hal];simp;omega
   have e1:(lU s m).op=23:=rfl;have e2:(lU s m).n=0:=rfl;have e3:(lU s m).nm=[]:=rfl;simp[ei,sZ,sG,vg,ho,e1,e2,e3,l7]
  ·refine⟨?_,⟨by simp[Ex.args],hsl⟩,rfl,?_⟩
   ·simp[ei,sZ,sG,vg,iH,qE,Ex.op,Ex.n,Ex.nm,Ex.args,l7,hs]
   ·show(decide ((2:Int)=2)&&decide (kr l s<0))=false;rw[decide_eq_false hk];rfl
  ·have:=hr r hrm;exact ur l this.1 (by have:=this.2.1;omega)
  ·have:=hr r hrm;exact ur l this.2.2.1 (by have:=this.2.2.2;omega)
 ·rw[Ex.jL];have:=A8 m;have h1:Ex.dep (.mk 2 0 s [])=1:=rfl;simp only[lU,Ex.args,Ex.gS,h1];omega
theorem ER{l:List Vr}{s:B}(hs:ef s=true)(hk:¬kr l s<0)(hsl:s.length+3<=maxLen):∀(k:Nat) (m:List Rg) (e:Ex),(∀r∈m,Lm r)->(∀x∈e.nodes,wc l x)->(∀x∈(CE s k m e).nodes,wc l x)/\(CE s k m e).nodes.length<=e.nodes.length+2*m.length+3*((m.length+15)/16)/\(CE s k m e).dep<=max e.dep 2+(m.length+15)/16
 |0,m,e,_,he=>⟨he,by rw[CE];omega,by rw[CE];omega⟩
 |k+1,m,e,hm,he=>by
  rw[CE];split
  ·exact⟨he,om,om⟩
  ·rename_i h0;have hp:=List.length_pos_iff.2 h0;obtain⟨i1,i2,i3⟩:=FE (l:=l) hs hk hsl (m:=m.take 16) (by rw[Ne,List.take_eq_nil_iff];simp[h0]) so (fun r hr=>hm r (List.mem_of_mem_take hr));obtain⟨g1,g2,g3⟩:=ER hs hk hsl k (m.drop 16) (.mk 20 0 [] [e,lU s (m.take 16)]) (fun r hr=>hm r (List.mem_of_mem_drop hr)) (KP he i1);have c1:(Ex.mk 20 0 [] [e,lU s (m.take 16)]).nodes.length=1+e.nodes.length+(2+2*(m.take 16).length):=by rw[Ex.bT];simp only[Ex.args,Ex.bX,List.append_nil,List.length_cons,az,i2];omega
   have c2:(Ex.mk 20 0 [] [e,lU s (m.take 16)]).dep=max e.dep 2+1:=by rw[Ex.jL];simp only[Ex.args,Ex.gS,i3];omega
   rw[c1,List.length_drop,List.length_take]at g2;rw[c2,List.length_drop]at g3;refine⟨g1,?_,?_⟩
   ·rcases Nat.le_total m.length 16 with h|h
    ·have:(m.length-16+15)/16=0:=om;have:(m.length+15)/16=1:=om;omega
    ·have:(m.length+15)/16=(m.length-16+15)/16+1:=om;omega
   ·rcases Nat.le_total m.length 16 with h|h
    ·have:(m.length-16+15)/16=0:=om;have:(m.length+15)/16=1:=om;omega
    ·have:(m.length+15)/16=(m.length-16+15)/16+1:=om;omega
def ML(m:Nat)(R:List Rg):Prop:=(∀r∈R,0<=r.lo/\r.lo<m/\0<=r.hi/\r.hi<m)/\∀r,R.getLast? =some r->2*(R.length:Int)<=r.hi+2
theorem HZ{m:Nat}{R:List Rg}(h:ML m R):ML (m+1) (oF R m):=by
 obtain⟨h1,h2⟩:=h;have h1':∀r∈R,0<=r.lo/\r.lo<(m+1:Nat)/\0<=r.hi/\r.hi<(m+1:Nat):=fun r hr=>by have:=h1 r hr;omega
 rcases List.eq_nil_or_concat R with rfl|⟨R0,r,rfl⟩
 ·refine⟨fun y hy=>?_,fun y hy=>?_⟩
  ·simp[oF]at hy;subst hy;simp only;omega
  ·simp[oF]at hy;subst hy;simp[oF];omega
 ·rw[List.concat_eq_append]at h1 h2 h1'|-;have hadd:oF (R0++[r]) m=if r.hi=m-1 then R0++[⟨r.lo,m⟩]else R0++[r]++[⟨m,m⟩]:=by rw[oF,List.getLast?_append];simp
  have hr:=h1 r sm;have hl:=h2 r sm;rw[az,List.length_singleton]at hl;rw[hadd];split
  ·rename_i he;refine⟨fun y hy=>?_,fun y hy=>?_⟩
   ·rcases aU.1 hy with hy|hy
    ·exact h1' y (List.mem_append_left _ hy)
    ·simp at hy;subst hy;simp only;omega
   ·simp at hy;subst hy;rw[az,List.length_singleton];simp only;omega
  ·rename_i he;refine⟨fun y hy=>?_,fun y hy=>?_⟩
   ·rcases aU.1 hy with hy|hy
    ·exact h1' y hy
    ·simp at hy;subst hy;simp only;omega
   ·rw[List.getLast?_append]at hy;simp at hy;subst hy;simp only[az,List.length_singleton];omega
theorem Ek{m:Nat}{R:List Rg}(h:ML m R):ML (m+1) R:=⟨fun r hr=>by have:=h.1 r hr;omega,h.2⟩
theorem u7(ws:List Wt):∀m:Nat,ML m (jW (gT ws m))
 |0=>⟨fun r hr=>by simp[jW,gT]at hr,fun r hr=>by simp[jW,gT]at hr⟩
 |m+1=>by
  rw[s9];split
  ·rw[jW,List.foldl_append];exact HZ (u7 ws m)
  ·exact Ek (u7 ws m)
theorem Ht{m:Nat}{R:List Rg}(h:ML m R):2*R.length<=m+1:=by
 rcases List.eq_nil_or_concat R with rfl|⟨R0,r,rfl⟩
 ·simp
 ·rw[List.concat_eq_append]at h|-;have h1:=h.1 r sm;have h2:=h.2 r sm;omega
theorem zw{α:Type}{p:α->Bool}:∀{l:List α} (k:Nat),(∃x∈l,p x=true)->¬nq p l k<0
 |[],_,⟨x,h,_⟩=>by cases h
 |x::l,k,h=>by
  rw[nq];split
  ·omega
  ·rename_i hp;obtain⟨y,hy,hq⟩:=h;rcases aP.1 hy with rfl|hy
   ·exact absurd hq hp
   ·exact zw (k+1) ⟨y,hy,hq⟩
theorem yb{p:Pr}(ok:g8 p)(hv:cE p=0):CB p:=fun e he=>by
 obtain⟨d,hd,rfl⟩:=aw.1 he;obtain⟨q1,q2⟩:=uM _ _ _ (js hv).2.2.2.1 d hd;obtain⟨q3,x,q4,q5⟩:=zz q1;have hxm:=af q4;obtain⟨w0,w1,w2,_⟩:=n6 (nv (tA (ec hv)).1 x hxm);have hk:¬kr p.vars x.nm<0:=zw 0 ⟨x,hxm,sm⟩;have hsl:x.nm.length+3<=maxLen:=by have:=ok.vars.2 x hxm;first|exact this|omega
 have hp8:2^x.w.toNat<=256:=by
  have:=K9 w1 w2;have:((2^x.w.toNat:Nat):Int)=2^x.w.toNat:=by rw[Int.natCast_pow];rfl
  omega
 have hs:rk p d=Bs x d:=by unfold rk;rw[q4]
 rw[hs,Bs];have hg:=u7 d.ws (2^x.w.toNat);have hl:=Ht hg;generalize jW (gT d.ws (2^x.w.toNat))=m at hg hl;have hm:∀r∈m,Lm r:=fun r hr=>by have:=hg.1 r hr;refine⟨?_,?_,?_,?_⟩<;>omega
 unfold NW;split
 ·exact Ch (fun y hy=>by rw[pM]at hy;simp at hy;subst hy;exact ur _ om om) (by rw[pM];simp) (by rw[zt];omega)
 ·rename_i h0;obtain⟨i1,i2,i3⟩:=FE (l:=p.vars) w0 hk hsl (m:=m.take 16) (by rw[Ne,List.take_eq_nil_iff];simp[h0]) so (fun r hr=>hm r (List.mem_of_mem_take hr));obtain⟨g1,g2,g3⟩:=ER (l:=p.vars) w0 hk hsl m.length (m.drop 16) (lU x.nm (m.take 16)) (fun r hr=>hm r (List.mem_of_mem_drop hr)) i1;rw[i2,List.length_drop,List.length_take]at g2;rw[i3,List.length_drop]at g3;exact Ch g1 om om
end Go.Proofs.Tp
