/- Proved: contracts of functions that the laws of Top reach, and plain facts for them. Conditions: those that each lemma states. -/
import Derived.Test.YtmhkppbollghoaaGreatDoorB1
set_option linter.unusedSectionVars false
set_option linter.unusedSimpArgs false
set_option linter.unusedVariables false
namespace Go.Proofs.Tp
open Go.Vx
inductive Ex where
 |mk (op n:Int) (nm:B) (args:List Ex)
namespace Ex
def op:Ex->Int|mk o _ _ _=>o
def n:Ex->Int|mk _ n _ _=>n
def nm:Ex->B|mk _ _ s _=>s
def args:Ex->List Ex|mk _ _ _ l=>l
mutual
def d:Ex->List D
 |mk o n s l=>[.int .i64 o,.int .i64 n,.str s,.sl 4 (ds l)]
def ds:List Ex->List (List D)
 |[]=>[]
 |x::l=>d x::ds l
end
mutual
def nodes:Ex->List Ex
 |mk o n s l=>mk o n s l::bX l
def bX:List Ex->List Ex
 |[]=>[]
 |x::l=>nodes x++bX l
end
end Ex
theorem Mq(l:List Ex):Ex.ds l=l.map Ex.d:=by
 induction l with
 |nil=>rfl
 |cons x l ih=>rw[Ex.ds,ih,List.map_cons]
theorem Ex.jB(x:Ex):x.d=[.int .i64 x.op,.int .i64 x.n,.str x.nm,.sl 4 (x.args.map Ex.d)]:=by cases x;simp only[Ex.d,Mq,Ex.op,Ex.n,Ex.nm,Ex.args]
theorem Ex.cN(x:Ex):x.d.length=4:=by cases x;rfl
theorem wY(l:List Ex):Ex.bX l=l.flatMap Ex.nodes:=by
 induction l with
 |nil=>rfl
 |cons x l ih=>rw[Ex.bX,ih,List.flatMap_cons]
theorem Ex.bT(x:Ex):x.nodes=x::Ex.bX x.args:=by cases x;rfl
def gU{σ:Type}(vis:σ->Ex->Bool×σ):List Ex->σ->Bool×σ
 |[],s=>(true,s)
 |x::l,s=>if(vis s x).1=true then gU vis l (vis s x).2 else(false,(vis s x).2)
theorem Cy{σ:Type}(vis:σ->Ex->Bool×σ)(a b:List Ex)(s:σ):gU vis (a++b) s=if(gU vis a s).1=true then gU vis b (gU vis a s).2 else(false,(gU vis a s).2):=by
 induction a generalizing s with
 |nil=>rfl
 |cons x a ih=>
  simp only[List.cons_append,gU];by_cases h:(vis s x).1=true
  ·simp only[h,if_true];exact ih _
  ·simp only[h,if_false];simp
theorem cZ(x:Ex):1<=x.nodes.length:=by rw[Ex.bT];simp
theorem eV{l:List Ex}{x y:Ex}(h:x∈l)(hy:y∈x.nodes):y∈Ex.bX l:=by rw[wY];exact List.mem_flatMap.2 ⟨x,h,hy⟩
theorem b6[bf]{P:Program}{f:FuncId}{vals:List V}{rows:Go.Vx.Rows}{K K':V->Go.Vx.Rows->Prop}(h:dn P f vals rows K)(hk:∀v r,K v r->K' v r):dn P f vals rows K':=⟨h.1,fun c args ok hG hr ha=>(h.2 c args ok hG hr ha).mono fun _ _ ⟨u,c',v,e1,e2,e3,e4,e5,e6⟩=>⟨u,c',v,e1,e2,e3,e4,e5,hk _ _ e6⟩⟩
theorem cd{A B:Go.Vx.Rows}{i j:Nat}(h:i=A.length+j):Go.Vx.rowAt (A++B) i=Go.Vx.rowAt B j:=by
 subst h;induction A with
 |nil=>simp
 |cons a A ih=>rw[List.length_cons,show A.length+1+j=(A.length+j)+1 by omega];exact ih
theorem cf{A B:Go.Vx.Rows}{i j:Nat}{r:bd}(h:i=A.length+j):setAt (A++B) i r=A++setAt B j r:=by
 subst h;induction A with
 |nil=>simp
 |cons a A ih=>rw[List.length_cons,show A.length+1+j=(A.length+j)+1 by omega];exact congrArg (a:: ·) ih
theorem eU{l:List Ex}{x:Ex}(h:x∈l):x.nodes.length<=(Ex.bX l).length:=by
 induction l with
 |nil=>cases h
 |cons y l ih=>
  rw[Ex.bX,az];rcases aP.1 h with rfl|h
  ·omega
  ·have:=ih h;omega
def QG(x:Ex):Prop:=x.args.length<=maxLen
def tI:bd->Prop
 | .live 4 _=>True
 | .live 1 [[.fn _ _ _]]=>True
 |_=>False
def kE(R R':Go.Vx.Rows):Prop:=∀(g:Nat) (r:bd),R[g]? =some r->tI r->R'[g]? =some r
theorem kE.at{R R':Go.Vx.Rows}(h:kE R R'){k:Nat}{r:bd}(hr:R[k]? =some r)(hb:tI r):Go.Vx.rowAt R' k=r:=by rw[dR,h k r hr hb];rfl
theorem kE.trans{R S T:Go.Vx.Rows}(h:kE R S)(h2:kE S T):kE R T:=fun g r hr hb=>h2 g r (h g r hr hb) hb
theorem kE.app{R R' B:Go.Vx.Rows}(h:kE (R++B) R'):kE R R':=fun g r hr hb=>h g r (by rw[aH (ad.1 hr).1];exact hr) hb
theorem kE.refl(R:Go.Vx.Rows):kE R R:=fun _ _ h _=>h
theorem kE.grow(R B:Go.Vx.Rows):kE R (R++B):=kE.app (kE.refl _)
section
variable{σ:Type}(J:Nat->σ->Go.Vx.Rows->Prop)(vis:σ->Ex->Bool×σ)(Fj:Ex->Prop)(hv hd:Nat)(fV:Nat)(first cap:List V)
theorem KT(HJ:∀k s R B,J k s R->J k s (R++B))(HM:∀k s R,J (k+1) s R->J k s R) (H1:∀k s R,J k s R->Go.Vx.rowAt R hv=.live 1 [[.fn (.func fV) first cap]]) (H2:∀k s R,J k s R->Go.Vx.rowAt R hd=.live 1 [[.fn (.func 199) [] [.aY 1 hv 1 0 0,.aY 1 hd 1 0 0]]]) (HV:∀k s x R,J (k+1) s R->Fj x->dn Tryz.prog fV (first++[.agg (x.d.map .d)]++cap) R (fun v R'=>v=.d (.bool (vis s x).1)/\J k (vis s x).2 R'/\kE R R')) (hO:∀x,Fj x->QG x):∀(m:Nat) (e:Ex),e.nodes.length<=m->(∀x∈e.nodes,Fj x)->∀k s R,J (k+e.nodes.length) s R->dn Tryz.prog 199 [.agg (e.d.map .d),.aY 1 hv 1 0 0,.aY 1 hd 1 0 0] R (fun v R'=>v=.d (.bool (gU vis e.nodes s).1)/\J k (gU vis e.nodes s).2 R'/\kE R R'):=by
 intro m;induction m with
 |zero=>intro e h;have:=cZ e;omega
 |succ m ih=>
  intro e hle hok k s R hJ;have hL:=hm;have mono:∀(j k:Nat) (s:σ) (R:Go.Vx.Rows),J (k+j) s R->J k s R:=fun j=>by
   induction j with
   |zero=>exact fun k s R h=>h
   |succ j ihj=>exact fun k s R h=>ihj k s R (HM _ _ _ h)
  have r0:∀B:Go.Vx.Rows,Go.Vx.rowAt (R++B) R.length=Go.Vx.rowAt B 0:=fun B=>cd om;have s0:∀(B:Go.Vx.Rows) (r:bd),setAt (R++B) R.length r=R++setAt B 0 r:=fun B r=>cf om;have v0:∀B:Go.Vx.Rows,Go.Vx.rowAt (R++B) hv=.live 1 [[.fn (.func fV) first cap]]:=fun B=>H1 _ _ _ (HJ _ _ _ B hJ);rw[Ex.bT]at hok hJ hle;rw[List.length_cons]at hJ hle;have hn:=hok e sm;have hA:e.args.length<=maxLen:=hO e hn;refine cc199.gi (AC.at (AC.look [false,false,true]) [1,1,0,1,2,2,1,1,0,2,1,0] (AC.at (AC.look [false,false,true]) [1,0,0] ac199)) rfl ?_;simp only[vq,seval,ac199,AC.at,AC.look,r0,s0,v0];refine⟨e.cN,by simp[fh],?_⟩;rw[al (by rw[an,e.cN];exact aq _)];refine dh (b6 (HV (k+(Ex.bX e.args).length) s e _ (HJ _ _ _ _ hJ) hn) ?_);rintro _ R1 ⟨rfl,hJ1,hK⟩;rw[Ex.bT];rw[gU];have hR:=hK.at (k:=R.length) (r:=.live 4 [e.d.map .d]) sm trivial;cases vQ:(vis s e).1 with
  |false=>simp only[vq,seval];exact⟨mono _ _ _ _ hJ1,hK.app⟩
  |true=>
   simp only[if_true];rw[Ex.jB]at hR;simp only[vq,seval,hR,List.map_cons,List.map_nil];refine bb (fun t:Nat×σ×Go.Vx.Rows=>⟨cC 23 [(1,.aY 1 hv 1 0 0),(2,.aY 1 hd 1 0 0),(12,.d (.sl 4 (e.args.map Ex.d))),(13,.d (.int .i64 e.args.length)),(14,.d (.int .i64 t.1))],t.2.2⟩) (fun t=>t.1<=e.args.length/\J (k+(Ex.bX (e.args.drop t.1)).length) t.2.1 t.2.2/\gU vis (Ex.bX e.args) (vis s e).2=gU vis (Ex.bX (e.args.drop t.1)) t.2.1/\kE R t.2.2) (fun t=>e.args.length-t.1) (0,(vis s e).2,R1) (a9 vt) ⟨om,hJ1,rfl,hK.app⟩ ?_;rintro⟨i,s1,R2⟩ ⟨h1,h2,h3,h4⟩;dsimp only at h1 h2 h3 h4;simp only[vq,seval];refine aZ (fun hc=>?_) (fun hc=>?_)
   ·simp only[aj]at hc;obtain⟨x,hx⟩:=bh (l:=e.args) (i:=i) om;have hmem:=af hx;rw[bt hx,Ex.bX]at h2 h3;have r1:∀B:Go.Vx.Rows,Go.Vx.rowAt (R2++B) R2.length=Go.Vx.rowAt B 0:=fun B=>cd om;have s1':∀(B:Go.Vx.Rows) (r:bd),setAt (R2++B) R2.length r=R2++setAt B 0 r:=fun B r=>cf om;have v1:∀B:Go.Vx.Rows,Go.Vx.rowAt (R2++B) hd=.live 1 [[.fn (.func 199) [] [.aY 1 hv 1 0 0,.aY 1 hd 1 0 0]]]:=fun B=>H2 _ _ _ (HJ _ _ _ B h2);simp only[vq,seval,r1,s1',v1];refine⟨om,om,bg hx ?_⟩;simp only[vq,seval];refine⟨by rw[x.cN];exact aq _,?_⟩;rw[al (by rw[x.cN];exact aq _)];simp only[vq,seval,r1,s1',v1];refine⟨x.cN,by simp[fh],?_⟩;simp only[vq,seval,x.cN,List.append_nil];rw[al (by rw[an,x.cN];exact aq _)];have hx1:x.nodes.length<=m:=by have:=eU hmem;omega
    refine dh (b6 (ih x hx1 (fun y hy=>hok y (by simp[eV hmem hy])) (k+(Ex.bX (e.args.drop (i+1))).length) s1 _ (HJ _ _ _ _ (by rw[az]at h2;rw[Nat.add_assoc,Nat.add_comm (Ex.bX _).length];exact h2))) ?_);rintro _ R3 ⟨rfl,hJ3,hK3⟩;rw[Cy]at h3;cases hv3:(gU vis x.nodes s1).1 with
    |false=>simp only[vq,seval];rw[hv3,if_neg sm]at h3;rw[h3];exact⟨rfl,mono _ _ _ _ hJ3,h4.trans hK3.app⟩
    |true=>rw[hv3,if_pos rfl]at h3;simp only[vq,seval];refine bL (i+1,(gU vis x.nodes s1).2,R3) (by simp only;omega) (a9 ?_) ⟨by simp only;omega,hJ3,h3,h4.trans hK3.app⟩;simp only[vq,seval];rw[a8 om om];trivial
   ·simp only[ak]at hc;rw[b4 om,Ex.bX]at h2 h3;rw[h3];simp only[vq,seval];exact⟨rfl,h2,h4⟩
end
section
variable{σ:Type}(J:Nat->σ->Go.Vx.Rows->Prop)(vis:σ->Ex->Bool×σ)(Fj:Ex->Prop)(fV:Nat)(first cap:List V)
theorem iy{R B:Go.Vx.Rows}{i:Nat}{r:bd}(h:R[i]? =some r):(R++B)[i]? =some r:=by rw[aH (ad.1 h).1];exact h
theorem iC{R:Go.Vx.Rows}{i:Nat}{r:bd}(h:R[i]? =some r):Go.Vx.rowAt R i=r:=by rw[dR,h];rfl
theorem yN(HJ:∀k s R B,J k s R->J k s (R++B))(HM:∀k s R,J (k+1) s R->J k s R) (HV:∀k s x R,J (k+1) s R->Fj x->dn Tryz.prog fV (first++[.agg (x.d.map .d)]++cap) R (fun v R'=>v=.d (.bool (vis s x).1)/\J k (vis s x).2 R'/\kE R R')) (hO:∀x,Fj x->QG x) (e:Ex) (hok:∀x∈e.nodes,Fj x) (k:Nat) (s:σ) (R:Go.Vx.Rows) (hJ:J (k+e.nodes.length) s R):dn Tryz.prog 151 [.agg (e.d.map .d),.fn (.func fV) first cap] R (fun _ R'=>J k (gU vis e.nodes s).2 R'/\kE R R'):=by
 obtain⟨a,ha⟩:∃a,R.length=a:=⟨_,rfl⟩;have DW:=KT (fun k s R=>J k s R/\R[a+1]? =some (.live 1 [[.fn (.func fV) first cap]])/\R[a+2]? =some (.live 1 [[.fn (.func 199) [] [.aY 1 (a+1) 1 0 0,.aY 1 (a+2) 1 0 0]]])) vis Fj (a+1) (a+2) fV first cap (fun k s R B h=>⟨HJ _ _ _ _ h.1,iy h.2.1,iy h.2.2⟩) (fun k s R h=>⟨HM _ _ _ h.1,h.2⟩) (fun k s R h=>iC h.2.1) (fun k s R h=>iC h.2.2) (fun k s x R h hx=>by refine b6 (HV k s x _ h.1 hx) ?_;rintro v R' ⟨rfl,h2,hK⟩;exact⟨rfl,⟨h2,hK _ _ h.2.1 trivial,hK _ _ h.2.2 trivial⟩,hK⟩) hO e.nodes.length e (aq _) hok k s
 have r0:∀B:Go.Vx.Rows,Go.Vx.rowAt (R++B) a=Go.Vx.rowAt B 0:=fun B=>cd (by rw[ha];rfl);have s0:∀(B:Go.Vx.Rows) (r:bd),setAt (R++B) a r=R++setAt B 0 r:=fun B r=>cf (by rw[ha];rfl);have r1:∀B:Go.Vx.Rows,Go.Vx.rowAt (R++B) (a+1)=Go.Vx.rowAt B 1:=fun B=>cd (by rw[ha]);have s1:∀(B:Go.Vx.Rows) (r:bd),setAt (R++B) (a+1) r=R++setAt B 1 r:=fun B r=>cf (by rw[ha]);have r2:∀B:Go.Vx.Rows,Go.Vx.rowAt (R++B) (a+2)=Go.Vx.rowAt B 2:=fun B=>cd (by rw[ha]);have s2:∀(B:Go.Vx.Rows) (r:bd),setAt (R++B) (a+2) r=R++setAt B 2 r:=fun B r=>cf (by rw[ha]);refine cc151.gi (AC.at (AC.look [false,false,true]) [1,1,1] ac151) rfl ?_;have ap:∀B C:Go.Vx.Rows,R++B++C=R++(B++C):=fun B C=>List.append_assoc _ _ _;simp only[vq,seval,ac151,AC.at,AC.look,ha,ap,r0,s0,r1,s1,r2,s2];refine⟨e.cN,by simp[fh],?_⟩;rw[al (by rw[an,e.cN];exact aq _)];refine dh (b6 (DW _ ⟨HJ _ _ _ _ hJ,by rw[aJ om,ha,Nat.add_sub_cancel_left];rfl,by rw[aJ om,ha,Nat.add_sub_cancel_left];rfl⟩) ?_);rintro _ R1 ⟨rfl,⟨h1,_⟩,hK⟩;simp only[vq,seval];exact⟨h1,hK.app⟩
end
def Ef(s:B):Bool:=(dH 91 s).2.2&&(k6 (dH 91 s).1&&iI (dH 91 s).2.1)
theorem HD(s:B):(Ef s||k6 s)=ef s:=by
 unfold Ef ef;cases h:(dH 91 s).2.2 with
 |false=>simp
 |true=>
  rw[if_pos rfl,Bool.true_and];have:k6 s=false:=by
   cases hn:k6 s with
   |false=>rfl
   |true=>have:=rm (oL hn);rw[this]at h;cases h
  rw[this,Bool.or_false]
theorem t232(s:B)(hl:s.length<=maxLen):CallP Tryz.prog 232 [.d (.str s)] (.cm [.any,.any,.d (.bool (Ef s))]):=by
 have hm:=hm;refine cc232.go ac232 rfl ?_;simp only[vq,seval,ac232];refine aW rfl (t176 s 91 hl) ?_;simp only[vq,seval];unfold Ef;obtain⟨h1,h2⟩:=uX 91 s;cases h:(dH 91 s).2.2 with
 |false=>simp only[vq,seval,Bool.false_and]
 |true=>
  simp only[vq,seval,Bool.true_and];refine aW rfl (t175 (dH 91 s).1 om) ?_;simp only[vq,seval];cases hn:k6 (dH 91 s).1 with
  |false=>simp only[vq,seval,Bool.false_and]
  |true=>
   simp only[vq,seval,Bool.true_and];generalize (dH 91 s).2.1=r at h2|-
   match r with
   |[]=>simp only[vq,seval,iI]
   |[a]=>simp only[vq,seval,iI]
   |a::b::c::r=>have w:decide (¬((r.length+1+1+1:Nat):Int)=2)=true:=decide_eq_true om;simp only[vq,seval,iI,w]
   |[a,b]=>
    have e93:UInt8.toNat 93=93:=rfl;have eb:decide (b=93)=decide ((b.toNat:Int)=93):=decide_eq_decide.2 ⟨fun h=>by rw[h];rfl,fun h=>UInt8.toNat.inj om⟩;have e1:decide (48<=a.toNat)= !decide ((a.toNat:Int)<48):=by rw[<-ah];exact decide_eq_decide.2 om
    have e2:decide (a.toNat<56)= !decide (56<=(a.toNat:Int)):=by rw[<-ah];exact decide_eq_decide.2 om
    have w1:IntKind.u8.wrap ((a.toNat:Int)-48)=IntKind.u8.wrap ((a.toNat:Int)-48):=rfl;simp only[vq,seval,iI,eb,e1,e2];by_cases hb:(b.toNat:Int)=93
    ·simp only[vq,seval,ah,bS,dt hb];by_cases h3:(a.toNat:Int)<48
     ·simp only[vq,seval,dt h3,Bool.false_and]
     ·simp only[vq,seval,df h3];by_cases h4:56<=(a.toNat:Int)
      ·simp only[vq,seval,dt h4,Bool.not_true,Bool.false_and,Bool.and_false]
      ·simp only[vq,seval,df h4];refine du rfl ?_;simp only[vq,seval]
    ·simp only[vq,seval,ah,bS,df hb,Bool.and_false]
theorem t201(s:B)(hl:s.length<=maxLen):CallP Tryz.prog 201 [.d (.str s)] (.d (.bool (ef s))):=by
 refine cc201.go ac201 rfl ?_;rw[<-HD];simp only[vq,seval,ac201];refine aW rfl (t232 s hl) ?_;simp only[vq,seval];cases h:Ef s with
 |true=>simp only[vq,seval,Bool.true_or]
 |false=>rw[Bool.false_or];simp only[vq,seval];refine aW rfl (t175 s hl) ?_;simp only[vq,seval]
def qE(op:Int):Int:=if op=1\/op=2\/op=24 then 0 else if op=3\/op=4\/op=5\/op=6\/op=25 then 1 else if op=22 then 3 else if op=23\/op<1\/25<op then-1 else 2
theorem t231(op:Int):CallP Tryz.prog 231 [.d (.int .i64 op)] (.d (.int .i64 (qE op))):=by
 refine cc231.go ac231 rfl ?_;by_cases h:1<=op/\op<=25
 ·have:op=1\/op=2\/op=3\/op=4\/op=5\/op=6\/op=22\/op=23\/op=24\/op=25\/(6<op/\op<22):=om;rcases this with rfl|rfl|rfl|rfl|rfl|rfl|rfl|rfl|rfl|rfl|h
  all_goals try(simp only[vq,seval,ac231];decide)
  have e:qE op=2:=by unfold qE;rw[if_neg om,if_neg om,if_neg om,if_neg om]
  simp only[vq,seval,ac231,e,df (show¬op=1 by omega),df (show¬op=2 by omega),df (show¬op=24 by omega),df (show¬op=3 by omega),df (show¬op=4 by omega),df (show¬op=5 by omega),df (show¬op=6 by omega),df (show¬op=25 by omega),df (show¬op=22 by omega),df (show¬op=23 by omega),df (show¬op<1 by omega),df (show¬25<op by omega)]
 ·have e:qE op= -1:=by unfold qE;rw[if_neg om,if_neg om,if_neg om,if_pos om]
  simp only[vq,seval,ac231,e,df (show¬op=1 by omega),df (show¬op=2 by omega),df (show¬op=24 by omega),df (show¬op=3 by omega),df (show¬op=4 by omega),df (show¬op=5 by omega),df (show¬op=6 by omega),df (show¬op=25 by omega),df (show¬op=22 by omega),df (show¬op=23 by omega)];by_cases h1:op<1
  ·simp only[vq,seval,dt h1]
  ·simp only[vq,seval,df h1,dt (show 25<op by omega)]
theorem t239(op:Int):CallP Tryz.prog 239 [.d (.int .i64 op)] (.d (.int .i64 (qE op))):=by
 refine cc239.go ac239 rfl ?_;by_cases h:1<=op/\op<=25
 ·have:op=1\/op=2\/op=3\/op=4\/op=5\/op=6\/op=7\/op=8\/op=9\/op=10\/op=11\/op=12\/op=13\/op=14\/op=15\/op=16\/op=17\/op=18\/op=19\/op=20\/op=21\/op=22\/op=23\/op=24\/op=25:=om;rcases this with rfl|rfl|rfl|rfl|rfl|rfl|rfl|rfl|rfl|rfl|rfl|rfl|rfl|rfl|rfl|rfl|rfl|rfl|rfl|rfl|rfl|rfl|rfl|rfl|rfl
  all_goals (simp only[vq,seval,ac239];decide)
 ·have e:qE op= -1:=by unfold qE;rw[if_neg om,if_neg om,if_neg om,if_pos om]
  have hn:∀k:Int,1<=k->k<=25->decide (op=k)=false:=fun k _ _=>decide_eq_false om;simp only[vq,seval,ac239,e,hn 1 dc dc,hn 2 dc dc,hn 3 dc dc,hn 4 dc dc,hn 5 dc dc,hn 6 dc dc,hn 7 dc dc,hn 8 dc dc,hn 9 dc dc,hn 10 dc dc,hn 11 dc dc,hn 12 dc dc,hn 13 dc dc,hn 14 dc dc,hn 15 dc dc,hn 16 dc dc,hn 17 dc dc,hn 18 dc dc,hn 19 dc dc,hn 20 dc dc,hn 21 dc dc,hn 22 dc dc,hn 23 dc dc,hn 24 dc dc,hn 25 dc dc];by_cases h1:op<1
  ·simp only[vq,seval,dt h1]
  ·simp only[vq,seval,df h1,dt (show 25<op by omega)]
def CD(x:Ex):Prop:=x.args.length<=maxLen/\x.nm.length+3<=maxLen
def iH(x:Ex):Bool:=if x.op=23 then decide (((x.args.length%2:Nat):Int)=1)&&(decide (3<=(x.args.length:Int))&&decide ((x.args.length:Int)<=33))else decide ((x.args.length:Int)=qE x.op)
theorem lD(n:Nat):((n:Int)).tmod 2=((n%2:Nat):Int):=by rw[Int.tmod_eq_emod_of_nonneg om];omega
theorem t200(x:Ex)(hx:CD x):CallP Tryz.prog 200 [.agg (x.d.map .d)] (.d (.bool (iH x))):=by
 have hm:=hm;have hl:=hx.1;rw[x.jB];refine cc200.go ac200 rfl ?_;unfold iH;simp only[vq,seval,ac200,List.map_cons,List.map_nil];by_cases h:x.op=23
 ·rw[if_pos h];simp only[vq,seval,dt h,lD];by_cases h1:((x.args.length%2:Nat):Int)=1
  ·simp only[vq,seval,dt h1,Bool.true_and];by_cases h2:3<=(x.args.length:Int)
   ·simp only[vq,seval,dt h2,Bool.true_and]
   ·simp only[vq,seval,df h2,Bool.false_and]
  ·simp only[vq,seval,df h1,Bool.false_and]
 ·rw[if_neg h];simp only[vq,seval,df h];refine aW rfl (t231 x.op) ?_;simp only[vq,seval]
def l7(op:Int):Bool:=decide (op=2)||(decide (op=3)||decide (op=24))
def sZ(x:Ex):Bool:=(decide (x.op=1)&&(decide (x.n<0)||decide (65535<x.n)))||(!decide (x.op=1)&& !decide (x.n=0))
def sG(x:Ex):Bool:=(!l7 x.op&& !decide (x.nm=[]))|| !iH x
def vg(x:Ex):Bool:=(decide (x.op=2)&& !ef x.nm)||((decide (x.op=3)||decide (x.op=24))&& !k6 x.nm)
def ei(x:Ex):Int:=if x.op<1\/25<x.op then 1 else if sZ x=true then 1 else if sG x=true then 1 else if vg x=true then 7 else 0
theorem CR(op:Int):(decide (op=1)=true/\decide (op=2)=false/\decide (op=3)=false/\decide (op=24)=false)\/(decide (op=1)=false/\decide (op=2)=true/\decide (op=3)=false/\decide (op=24)=false)\/(decide (op=1)=false/\decide (op=2)=false/\decide (op=3)=true/\decide (op=24)=false)\/(decide (op=1)=false/\decide (op=2)=false/\decide (op=3)=false/\decide (op=24)=true)\/(decide (op=1)=false/\decide (op=2)=false/\decide (op=3)=false/\decide (op=24)=false):=by simp only[aj,ak];omega
theorem t153(x:Ex)(hx:CD x):CallP Tryz.prog 153 [.agg (x.d.map .d)] (.d (.int .i64 (ei x))):=by
 have hm:=hm;have C1:=t200 x hx;rw[x.jB,List.map_cons,List.map_cons,List.map_cons,List.map_cons,List.map_nil]at C1;rw[x.jB];refine cc153.go ac153 rfl ?_;simp only[vq,seval,ah,bS,ac153,List.map_cons,List.map_nil];by_cases h1:x.op<1
 ·have e:ei x=1:=by unfold ei;rw[if_pos om]
  rcases CR x.op with⟨e1,e2,e3,e4⟩|⟨e1,e2,e3,e4⟩|⟨e1,e2,e3,e4⟩|⟨e1,e2,e3,e4⟩|⟨e1,e2,e3,e4⟩<;>simp only[vq,seval,ah,bS,e1,e2,e3,e4,dt h1,e]
 by_cases h2:25<x.op
 ·have e:ei x=1:=by unfold ei;rw[if_pos om]
  rcases CR x.op with⟨e1,e2,e3,e4⟩|⟨e1,e2,e3,e4⟩|⟨e1,e2,e3,e4⟩|⟨e1,e2,e3,e4⟩|⟨e1,e2,e3,e4⟩<;>simp only[vq,seval,ah,bS,e1,e2,e3,e4,df h1,dt h2,e]
 have e0:ei x=if sZ x=true then 1 else if sG x=true then 1 else if vg x=true then 7 else 0:=by unfold ei;rw[if_neg om]
 simp only[sZ,sG,vg,l7]at e0;rcases CR x.op with⟨e1,e2,e3,e4⟩|⟨e1,e2,e3,e4⟩|⟨e1,e2,e3,e4⟩|⟨e1,e2,e3,e4⟩|⟨e1,e2,e3,e4⟩
 ·simp only[e1,e2,e3,e4,bS]at e0;simp only[vq,seval,ah,bS,e1,e2,e3,e4,df h1,df h2];by_cases h3:x.n<0
  ·simp only[dt h3,bS]at e0;simp only[vq,seval,ah,bS,e1,e2,e3,e4,dt h3,e0]
  by_cases h4:65535<x.n
  ·simp only[df h3,dt h4,bS]at e0;simp only[vq,seval,ah,bS,e1,e2,e3,e4,df h3,dt h4,e0]
  simp only[df h3,df h4,bS]at e0;simp only[vq,seval,ah,bS,e1,e2,e3,e4,df h3,df h4];by_cases h5:x.nm=[]
  ·simp only[dt h5,bS]at e0;simp only[vq,seval,ah,bS,e1,e2,e3,e4,dt h5];refine aW rfl (C1) ?_;simp only[vq,seval];cases h6:iH x with
   |false=>simp only[h6,bS]at e0;simp only[vq,seval,ah,bS,e1,e2,e3,e4,e0]
   |true=>simp only[h6,bS]at e0;simp only[vq,seval,ah,bS,e1,e2,e3,e4,e0]
  ·simp only[df h5,bS]at e0;simp only[vq,seval,ah,bS,e1,e2,e3,e4,df h5,e0]
 ·simp only[e1,e2,e3,e4,bS]at e0;simp only[vq,seval,ah,bS,e1,e2,e3,e4,df h1,df h2];by_cases h3:x.n=0
  ·simp only[dt h3,bS]at e0;simp only[vq,seval,ah,bS,e1,e2,e3,e4,dt h3];refine aW rfl (C1) ?_;simp only[vq,seval];cases h6:iH x with
   |false=>simp only[h6,bS]at e0;simp only[vq,seval,ah,bS,e1,e2,e3,e4,e0]
   |true=>
    simp only[h6,bS]at e0;simp only[vq,seval,ah,bS,e1,e2,e3,e4];refine aW rfl (t201 x.nm (by have:=hx.2;omega)) ?_;simp only[vq,seval];cases h7:ef x.nm with
    |false=>simp only[h7,bS]at e0;simp only[vq,seval,ah,bS,e1,e2,e3,e4,e0]
    |true=>simp only[h7,bS]at e0;simp only[vq,seval,ah,bS,e1,e2,e3,e4,e0]
  ·simp only[df h3,bS]at e0;simp only[vq,seval,ah,bS,e1,e2,e3,e4,df h3,e0]
 ·simp only[e1,e2,e3,e4,bS]at e0;simp only[vq,seval,ah,bS,e1,e2,e3,e4,df h1,df h2];by_cases h3:x.n=0
  ·simp only[dt h3,bS]at e0;simp only[vq,seval,ah,bS,e1,e2,e3,e4,dt h3];refine aW rfl (C1) ?_;simp only[vq,seval];cases h6:iH x with
   |false=>simp only[h6,bS]at e0;simp only[vq,seval,ah,bS,e1,e2,e3,e4,e0]
   |true=>
    simp only[h6,bS]at e0;simp only[vq,seval,ah,bS,e1,e2,e3,e4];refine aW rfl (t175 x.nm (by have:=hx.2;omega)) ?_;simp only[vq,seval];cases h7:k6 x.nm with
    |false=>simp only[h7,bS]at e0;simp only[vq,seval,ah,bS,e1,e2,e3,e4,e0]
    |true=>simp only[h7,bS]at e0;simp only[vq,seval,ah,bS,e1,e2,e3,e4,e0]
  ·simp only[df h3,bS]at e0;simp only[vq,seval,ah,bS,e1,e2,e3,e4,df h3,e0]
 ·simp only[e1,e2,e3,e4,bS]at e0;simp only[vq,seval,ah,bS,e1,e2,e3,e4,df h1,df h2];by_cases h3:x.n=0
  ·simp only[dt h3,bS]at e0;simp only[vq,seval,ah,bS,e1,e2,e3,e4,dt h3];refine aW rfl (C1) ?_;simp only[vq,seval];cases h6:iH x with
   |false=>simp only[h6,bS]at e0;simp only[vq,seval,ah,bS,e1,e2,e3,e4,e0]
   |true=>
    simp only[h6,bS]at e0;simp only[vq,seval,ah,bS,e1,e2,e3,e4];refine aW rfl (t175 x.nm (by have:=hx.2;omega)) ?_;simp only[vq,seval];cases h7:k6 x.nm with
    |false=>simp only[h7,bS]at e0;simp only[vq,seval,ah,bS,e1,e2,e3,e4,e0]
    |true=>simp only[h7,bS]at e0;simp only[vq,seval,ah,bS,e1,e2,e3,e4,e0]
  ·simp only[df h3,bS]at e0;simp only[vq,seval,ah,bS,e1,e2,e3,e4,df h3,e0]
 ·simp only[e1,e2,e3,e4,bS]at e0;simp only[vq,seval,ah,bS,e1,e2,e3,e4,df h1,df h2];by_cases h3:x.n=0
  ·simp only[dt h3,bS]at e0;simp only[vq,seval,ah,bS,e1,e2,e3,e4,dt h3];by_cases h5:x.nm=[]
   ·simp only[dt h5,bS]at e0;simp only[vq,seval,ah,bS,e1,e2,e3,e4,dt h5];refine aW rfl (C1) ?_;simp only[vq,seval];cases h6:iH x with
    |false=>simp only[h6,bS]at e0;simp only[vq,seval,ah,bS,e1,e2,e3,e4,e0]
    |true=>simp only[h6,bS]at e0;simp only[vq,seval,ah,bS,e1,e2,e3,e4,e0]
   ·simp only[df h5,bS]at e0;simp only[vq,seval,ah,bS,e1,e2,e3,e4,df h5,e0]
  ·simp only[df h3,bS]at e0;simp only[vq,seval,ah,bS,e1,e2,e3,e4,df h3,e0]
end Go.Proofs.Tp
