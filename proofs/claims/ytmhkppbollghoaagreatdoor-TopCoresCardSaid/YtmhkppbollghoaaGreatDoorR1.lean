/- Proved: contracts of functions that the laws of Top reach, and plain facts for them. Conditions: those that each lemma states. -/
import Derived.Test.YtmhkppbollghoaaGreatDoorE1
import Derived.Test.YtmhkppbollghoaaGreatDoorXk
set_option linter.unusedSectionVars false
set_option linter.unusedSimpArgs false
set_option linter.unusedVariables false
namespace Go.Proofs.Tp
open Go.Vx
def cL:Code->Code
 | .seq a _=>a
 |c=>c
def cR:Code->Code
 | .seq _ b=>b
 |c=>c
def cT:Code->Code
 | .cond _ a _=>a
 |c=>c
def cF:Code->Code
 | .cond _ _ b=>b
 |c=>c
def cO:Code->Array Oper
 | .region _ o _=>o
 |_=> #[]
def cB(f:Func):Code:=f.body.getD .skip
def Io:List bn:=[aM 6 1,aO 7 0 (.xq 148 [(.int .i64 0)] (.t 6)),aM 5 7,aE 8 5 0,aE 9 5 1,aO 2 0 (.alloc [(.int .i64 0)]),aN 1 (.store 1 (.t 2) (.t 8)),aO 3 1 (.gC (.t 9))]
theorem Q2:∃o0 o1 o2 o3 o4 c5 p0,Tryz.f99.body=some (.seq (.region 0 o0 false) (.seq (.region 1 o1 false) (.seq (.region 2 o2 false) (.cond (.tmp 10) (.region 3 o3 false) (.seq (.region 4 o4 false) (.cond (.tmp 14) c5 .skip))))))/\(o0.size=2/\o1.size=8/\o2.size=1/\o3.size=3/\o4.size=2)/\Rm Tryz.prog o0 [1] 0=some [aM 1 4]/\Rm Tryz.prog o1 [0,1,2,3,4,5,6,7] 0=some Io/\Rm Tryz.prog o2 [0] 0=some [aM 10 3]/\Rm Tryz.prog o3 [0,1,2] 0=some [aF 11 0 2,aL 12 false 1 11,aS 1 0 12]/\Rm Tryz.prog o4 [0,1] 0=some [aM 13 1,aO 14 0 (.nu true (.t 13))]/\o0[0]? =some p0/\p0.guard=none/\p0.dst=some 4/\p0.op=.call {callee:=.builtin .recover,args:= #[],argTypes:= #[]}:=⟨cO (cL (cB Tryz.f99)),cO (cL (cR (cB Tryz.f99))),cO (cL (cR (cR (cB Tryz.f99)))),cO (cT (cR (cR (cR (cB Tryz.f99))))),cO (cL (cF (cR (cR (cR (cB Tryz.f99)))))),cT (cR (cF (cR (cR (cR (cB Tryz.f99)))))),(cO (cL (cB Tryz.f99)))[0]?.getD default,by kernel_rfl,⟨by kernel_rfl,by kernel_rfl,by kernel_rfl,by kernel_rfl,by kernel_rfl⟩,by kernel_rfl,by kernel_rfl,by kernel_rfl,by kernel_rfl,by kernel_rfl,by kernel_rfl,by kernel_rfl,by kernel_rfl,by kernel_rfl⟩
theorem Q0:∃o0 o1 o2 o3 p0 p1 p2 ty,Tryz.f53.body=some (.seq (.region 0 o0 false) (.seq (.region 1 o1 false) (.seq (.region 2 o2 false) (.seq (.region 3 o3 false) .ret))))/\(o0.size=1/\o1.size=2/\o2.size=2/\o3.size=1)/\Rm Tryz.prog o0 [0] 0=some [aO 2 0 (.alloc [(.int .i64 0)])]/\Rm Tryz.prog o1 [0] 0=some [aO 3 0 (.eG (.func 99) [] [(.t 2)])]/\Rm Tryz.prog o2 [0] 0=some [aM 4 0]/\Rm Tryz.prog o3 [0] 0=some [aN 0 (.store 1 (.t 2) (aI 0))]/\(o1[0]? =some p0/\p0.guard=none/\p0.dst=some 3/\p0.op=.makeFunc (.func 99) #[] #[.tmp 2])/\(o1[1]? =some p1/\p1.guard=none/\p1.dst=none/\p1.op=.defer {callee:=.value (.tmp 3),args:= #[],argTypes:=ty})/\(o2[1]? =some p2/\p2.guard=none/\p2.dst=some 5/\p2.op=.call {callee:=.value (.tmp 4),args:= #[],argTypes:=ty}):=⟨cO (cL (cB Tryz.f53)),cO (cL (cR (cB Tryz.f53))),cO (cL (cR (cR (cB Tryz.f53)))),cO (cL (cR (cR (cR (cB Tryz.f53))))),(cO (cL (cR (cB Tryz.f53))))[0]?.getD default,(cO (cL (cR (cB Tryz.f53))))[1]?.getD default,(cO (cL (cR (cR (cB Tryz.f53)))))[1]?.getD default,#[],by kernel_rfl,⟨by kernel_rfl,by kernel_rfl,by kernel_rfl,by kernel_rfl⟩,by kernel_rfl,by kernel_rfl,by kernel_rfl,by kernel_rfl,⟨by kernel_rfl,by kernel_rfl,by kernel_rfl,by kernel_rfl⟩,⟨by kernel_rfl,by kernel_rfl,by kernel_rfl,by kernel_rfl⟩,⟨by kernel_rfl,by kernel_rfl,by kernel_rfl,by kernel_rfl⟩⟩
theorem EE(l:Go.Vx.Rows)(k:Nat)(r:bd):setAt l k r=l.set k r:=by
 induction l generalizing k with
 |nil=>rfl
 |cons x l ih=>cases k with
  |zero=>rfl
  |succ k=>exact congrArg (x:: ·) (ih k)
theorem gw{c0:Cx}{S:St}{a:Act}{w:World}{fr':List V}(h:Rl c0 S a w)(hw:pX S.fr fr'):Rl c0 ⟨fr',S.rows⟩ a w:=by
 obtain⟨ρ,I,h1,h2,h3,h4⟩:=h;obtain⟨e1,e2⟩:=AA hw;refine⟨ρ,I,h1,h2,by simp only;omega,fun i=>?_⟩;rcases e2 i with h|h
 ·simp only;rw[h];exact .any _
 ·simp only;rw[<-h];exact h4 i
theorem qU{c0:Cx}{S:St}{a:Act}{w:World}(h:Rl c0 S a w){t:Nat}{b:Bool}(hb:nth S.fr t=.d (.bool b)):a.eval (.tmp t)=.bool b:=by
 obtain⟨ρ,I,h1,h2,h3,h4⟩:=h;have h:=h4 t;rw[hb]at h;show a.tmps.getD t undef=_;generalize a.tmps.getD t undef=z at h|-;cases h with|d _ _ h=>
 cases h;rfl
theorem CS{c:Cx}(ok:Ok c){args:Array Value}{vals:List V}(h:dX c args.toList vals)(n:Nat):Rl c ⟨vals++List.replicate n .any,c.rows⟩ {tmps:=args++Array.replicate n undef,defers:=[]} c.w:=by
 have hl:args.size=vals.length:=by simpa using h.1
 refine⟨c.ρ,c.I,ok,Ext.refl _,by simp;omega,fun i=>?_⟩;by_cases hi:i<vals.length
 ·have h1:nth (vals++List.replicate n .any) i=vals[i]:=by rw[ky,aH hi,ae hi];rfl
  simp only[h1];refine h.2 i _ _ (ae hi) ?_;rw[au,Array.getElem?_append_left om];simp[hl,hi]
 ·have h1:nth (vals++List.replicate n .any) i=.any:=by rw[ky,aJ om,List.getElem?_replicate];split<;>rfl
  simp only[h1];exact .any _
def MZ(c:Cx)(u':FrameMode)(J:Go.Vx.Rows->Prop)(e:Ending)(u2:FrameMode)(w':World):Prop:=(∃v,e=.returned v)/\u2=u'/\∃c',w'=c'.w/\Ok c'/\Ext c c'/\J c'.rows
theorem Qg{c:Cx}{k:Nat}{m:Int}(hrow:c.rows[k]? =some (.live 1 [[.d (.int .i64 m)]])){u':FrameMode}{T:TypeId}{y:Value} (J:Go.Vx.Rows->Prop) (hy:(y=.nilIface/\∀r,J (c.rows++[r]))\/∃n,T=148/\y=kq [n]/\∀r,J (c.rows.set k (.live 1 [[.d (.int .i64 n)]])++[r])) {o1 o2 o3 o4:Array Oper} {c5:Code} (n1:o1.size=8) (n2:o2.size=1) (n3:o3.size=3) (n4:o4.size=2) (k1:Rm Tryz.prog o1 [0,1,2,3,4,5,6,7] 0=some Io) (k2:Rm Tryz.prog o2 [0] 0=some [aM 10 3]) (k3:Rm Tryz.prog o3 [0,1,2] 0=some [aF 11 0 2,aL 12 false 1 11,aS 1 0 12]) (k4:Rm Tryz.prog o4 [0,1] 0=some [aM 13 1,aO 14 0 (.nu true (.t 13))]) {c0:Frame} {cs:List Frame} {a:Act} {w:World} (ha:a.defers=[]) (hs:Rl c ⟨cC 16 [(0,.aY 1 k 1 0 0),(1,.gV T y)],c.rows⟩ a w):(Code.seq (.region 1 o1 false) (.seq (.region 2 o2 false) (.cond (.tmp 10) (.region 3 o3 false) (.seq (.region 4 o4 false) (.cond (.tmp 14) c5 .skip))))).wpS Tryz.prog (bodyPostS Tryz.prog Tryz.f99 c0 cs (MZ c u' J)) a ({c0 with mode:=u'}::cs) w:=by
 have hk:=(ad.1 hrow).1;have hrk:Go.Vx.rowAt c.rows k=.live 1 [[.d (.int .i64 m)]]:=by rw[dR,hrow];rfl
 have v0:∀B:Go.Vx.Rows,Go.Vx.rowAt (c.rows++B) k=.live 1 [[.d (.int .i64 m)]]:=fun B=>by rw[dR,aH hk,hrow];rfl
 generalize hR:c.rows=R at*;have r0:∀B:Go.Vx.Rows,Go.Vx.rowAt (R++B) R.length=Go.Vx.rowAt B 0:=fun B=>cd om;have s0:∀(B:Go.Vx.Rows) (r:bd),setAt (R++B) R.length r=R++setAt B 0 r:=fun B r=>cf om;have hres:∀(t:Array Value) (w:World),(results Tryz.f99 t).run Tryz.prog w=.ok (.tuple #[]) w:=fun t w=>by
  have:Tryz.f99.results= #[]:=by kernel_rfl
  simp[results,this]
 have fin:∀(S':St) (a':Act) (w':World),Rl c S' a' w'->a'.defers=[]->J S'.rows->bodyPostS Tryz.prog Tryz.f99 c0 cs (MZ c u' J) .normal a' ({c0 with mode:=u'}::cs) w':=fun S' a' w' h1 h2 h3=>by obtain⟨ρ,I,e1,e2,_⟩:=h1;exact⟨h2,u',rfl,_,hres _ _,⟨_,rfl⟩,rfl,⟨ρ,I,S'.rows,w'⟩,rfl,e1,e2,h3⟩
 refine wpS_seq (wpS_region ?_);rw[n1];show wpOpsS Tryz.prog o1 _ ([0,1,2,3,4,5,6,7]++[]) _ _ _;rcases hy with⟨rfl,hJ⟩|⟨n,rfl,rfl,hJ⟩
 ·refine Rk (base:=R.length) [] _ _ 0 (fun S'=>pX S'.fr (cC 16 [(0,.aY 1 k 1 0 0),(1,.gV T .nilIface),(3,.d (.bool false))])/\S'.rows=R++[.live 1 [[.d (.int .i64 0)]]]) _ a w k1 ?_ (hs.grow 1) ?_
  ·simp only[vq,seval,Io,St.grow,r0,s0]
   try trivial
  rintro⟨fr1,rows1⟩ a1 w1 ⟨hf1,rfl⟩ hs1 hd1;refine wpS_seq (wpS_region ?_);rw[n2];show wpOpsS Tryz.prog o2 _ ([0]++[]) _ _ _;refine Rk (base:=R.length) [] _ _ 0 (fun S'=>pX S'.fr (cC 16 [(0,.aY 1 k 1 0 0),(1,.gV T .nilIface),(10,.d (.bool false))])/\S'.rows=R++[.live 1 [[.d (.int .i64 0)]]]) _ a1 w1 k2 ?_ (gw hs1 hf1) ?_
  ·simp only[vq,seval]
   try trivial
  rintro⟨fr2,rows2⟩ a2 w2 ⟨hf2,rfl⟩ hs2 hd2;have hs2:=gw hs2 hf2;refine wpS_cond (t:=false) (qU hs2 rfl) ?_;refine wpS_seq (wpS_region ?_);rw[n4];show wpOpsS Tryz.prog o4 _ ([0,1]++[]) _ _ _;refine Rk (base:=R.length) [] _ _ 0 (fun S'=>nth S'.fr 14=.d (.bool false)/\S'.rows=R++[.live 1 [[.d (.int .i64 0)]]]) _ a2 w2 k4 ?_ hs2 ?_
  ·simp only[vq,seval]
   try trivial
  rintro⟨fr3,rows3⟩ a3 w3 ⟨hf3,rfl⟩ hs3 hd3;refine wpS_cond (t:=false) (qU hs3 hf3) ?_;refine wpS_of_wp (wp_skip ?_);exact fin _ _ _ hs3 (hd3.trans (hd2.trans (hd1.trans ha))) (hJ _)
 ·refine Rk (base:=R.length) [] _ _ 0 (fun S'=>pX S'.fr (cC 16 [(0,.aY 1 k 1 0 0),(2,.aY 1 R.length 1 0 0),(3,.d (.bool true))])/\S'.rows=R++[.live 1 [[.d (.int .i64 n)]]]) _ a w k1 ?_ (hs.grow 1) ?_
  ·simp only[vq,seval,Io,St.grow,r0,s0]
   try trivial
  rintro⟨fr1,rows1⟩ a1 w1 ⟨hf1,rfl⟩ hs1 hd1;refine wpS_seq (wpS_region ?_);rw[n2];show wpOpsS Tryz.prog o2 _ ([0]++[]) _ _ _;refine Rk (base:=R.length) [] _ _ 0 (fun S'=>pX S'.fr (cC 16 [(0,.aY 1 k 1 0 0),(2,.aY 1 R.length 1 0 0),(10,.d (.bool true))])/\S'.rows=R++[.live 1 [[.d (.int .i64 n)]]]) _ a1 w1 k2 ?_ (gw hs1 hf1) ?_
  ·simp only[vq,seval]
   try trivial
  rintro⟨fr2,rows2⟩ a2 w2 ⟨hf2,rfl⟩ hs2 hd2;have hs2:=gw hs2 hf2;refine wpS_cond (t:=true) (qU hs2 rfl) ?_;refine wpS_region ?_;rw[n3];show wpOpsS Tryz.prog o3 _ ([0,1,2]++[]) _ _ _;refine Rk (base:=R.length) [] _ _ 0 (fun S'=>S'.rows=setAt (R++[.live 1 [[.d (.int .i64 n)]]]) k (.live 1 [[.d (.int .i64 n)]])) _ a2 w2 k3 ?_ hs2 ?_
  ·simp only[vq,seval,r0,v0]
   try trivial
  rintro⟨fr3,rows3⟩ a3 w3 rfl hs3 hd3;have he:setAt (R++[.live 1 [[.d (.int .i64 n)]]]) k (.live 1 [[.d (.int .i64 n)]])=R.set k (.live 1 [[.d (.int .i64 n)]])++[.live 1 [[.d (.int .i64 n)]]]:=by rw[EE,List.set_append_left _ _ hk]
  exact fin _ _ _ hs3 (hd3.trans (hd2.trans (hd1.trans ha))) (by simp only;rw[he];exact hJ _)
theorem t99{c:Cx}(ok:Ok c){p:Value}{k:Nat}{m:Int}(hp:b7 c p (.aY 1 k 1 0 0))(hrow:c.rows[k]? =some (.live 1 [[.d (.int .i64 m)]])){u u':FrameMode}{x:Value}{T:TypeId}{y:Value}(hx:x=CX T y) (hrec:∀(c0:Frame) (cs:List Frame),c0.mode=u->(recoverD (c0::cs)=none/\x=.nilIface/\u'=u)\/recoverD (c0::cs)=some (x,{c0 with mode:=u'}::cs)) (J:Go.Vx.Rows->Prop) (hy:(y=.nilIface/\∀r,J (c.rows++[r]))\/∃n,T=148/\y=kq [n]/\∀r,J (c.rows.set k (.live 1 [[.d (.int .i64 n)]])++[r])):CallsD Tryz.prog 99 #[p] u c.w (MZ c u' J):=by
 obtain⟨o0,o1,o2,o3,o4,c5,p0,hb,⟨n0,n1,n2,n3,n4⟩,k0,k1,k2,k3,k4,g0,gg,gd,go⟩:=Q2;refine callsD_of_wpS Tryz.func99 hb fun c0 cs hm=>?_;have hn:Tryz.f99.ntmps=16:=by kernel_rfl
 rw[hn];have hs0:=CS (vals:=[.aY 1 k 1 0 0]) ok (args:= #[p]) ⟨rfl,fun j v x h1 h2=>by
  match j with
  |0=>simp at h1 h2;subst h1 h2;exact hp
  |j+1=>simp at h1⟩ 15
 obtain⟨a0,ha0⟩:∃a0:Act,a0={tmps:= #[p]++Array.replicate (16- #[p].size) undef,defers:=[]}:=⟨_,rfl⟩;have hs1:Rl c ⟨eg ([.aY 1 k 1 0 0]++List.replicate 15 .any) (some 4) (.gV T y),c.rows⟩ (a0.put (some 4) x) c.w:=by obtain⟨ρ,I,h1,h2,h3,h4⟩:=hs0;rw[ha0];exact Rl.put (S:=⟨[.aY 1 k 1 0 0]++List.replicate 15 .any,c.rows⟩) h1 h2 h3 h4 (some 4) (.gV _ _ _ hx)
 rw[<-ha0];have hd0:(a0.put (some 4) x).defers=[]:=by rw[ha0];rfl
 obtain⟨a1,ha1⟩:∃a1,a1=a0.put (some 4) x:=⟨_,rfl⟩;rw[<-ha1]at hs1 hd0;refine wpS_seq (wpS_region ?_);rw[n0];show wpOpsS Tryz.prog o0 _ [0,1] _ _ _;have hw:∀f,Region.wanted p0 f=true:=fun f=>by simp[Region.wanted,gg]
 have hx0:∀ρ w,(execOp ρ p0).run Tryz.prog w=.ok .recover w:=fun ρ w=>by unfold execOp;rw[go];rfl
 unfold wpOpsS;simp only[g0,hw,if_true,hx0,gd];have step:∀cs1,cs1=({c0 with mode:=u'}::cs)->wpOpsS Tryz.prog o0 (Exit.thenS ((Code.seq (.region 1 o1 false) (.seq (.region 2 o2 false) (.cond (.tmp 10) (.region 3 o3 false) (.seq (.region 4 o4 false) (.cond (.tmp 14) c5 .skip))))).wpS Tryz.prog (bodyPostS Tryz.prog Tryz.f99 c0 cs (MZ c u' J))) (bodyPostS Tryz.prog Tryz.f99 c0 cs (MZ c u' J))) [1] a1 cs1 c.w:=fun cs1 hcs1=>by subst hcs1;refine Rk (base:=c.rows.length) [] _ _ 0 (fun S'=>pX S'.fr (cC 16 [(0,.aY 1 k 1 0 0),(1,.gV T y)])/\S'.rows=c.rows) _ a1 c.w k0 vt hs1 ?_;rintro⟨fr1,rows1⟩ a2 w2 ⟨hf1,rfl⟩ hs2 hd2;exact Qg hrow J hy n1 n2 n3 n4 k1 k2 k3 k4 (hd2.trans hd0) (gw hs2 hf1)
 rcases hrec c0 cs hm with⟨h1,rfl,rfl⟩|h1
 ·rw[h1];show wpOpsS _ _ _ _ (a0.put (some 4) .nilIface) _ _;rw[<-ha1];exact step _ (by subst hm;rfl)
 ·rw[h1];show wpOpsS _ _ _ _ (a0.put (some 4) x) _ _;rw[<-ha1];exact step _ rfl
theorem DL{c c4:Cx}(ok4:Ok c4)(hx4:Ext c c4){tmps:Array Value}{p:Value}{k:Nat}{m n:Int}(hp:b7 c4 p (.aY 1 k 1 0 0))(ht:b7 c4 (tmps.getD 2 undef) (.aY 1 k 1 0 0))(hrow:c4.rows[k]? =some (.live 1 [[.d (.int .i64 m)]])) {u u':FrameMode} {x:Value} {T:TypeId} {y:Value} (hu:u≠ .run) (hset:settle u'=.returning) (hx:x=CX T y) (hrec:∀(c0:Frame) (cs:List Frame),c0.mode=u->(recoverD (c0::cs)=none/\x=.nilIface/\u'=u)\/recoverD (c0::cs)=some (x,{c0 with mode:=u'}::cs)) (J:V->Go.Vx.Rows->Prop) (hy:(y=.nilIface/\m=n/\∀r,J (.d (.int .i64 n)) (c4.rows++[r]))\/(T=148/\y=kq [n]/\∀r,J (.d (.int .i64 n)) (c4.rows.set k (.live 1 [[.d (.int .i64 n)]])++[r]))):Leaves Tryz.prog Tryz.f53 tmps (fun e w'=>∃u c' v,e=.returned u/\w'=c'.w/\Ok c'/\Ext c c'/\b7 c' u v/\J v c'.rows) [{target:=.fn (.func 99) #[p],args:= #[]}] u c4.w:=by
 have hk:=(ad.1 hrow).1;have h:=t99 ok4 hp hrow hx hrec (fun R=>R[k]? =some (.live 1 [[.d (.int .i64 n)]])/\J (.d (.int .i64 n)) R) (by
  rcases hy with⟨h1,h2,h3⟩|⟨h1,h2,h3⟩
  ·refine .inl ⟨h1,fun r=>⟨?_,h3 r⟩⟩;rw[aH hk,hrow,h2]
  ·refine .inr ⟨n,h1,h2,fun r=>⟨?_,h3 r⟩⟩;rw[aH (by simpa using hk),List.getElem?_set_self hk])
 have hi:(invoke (.fn (.func 99) #[p]) #[]).run Tryz.prog c4.w=.ok (.enter 99 #[p]) c4.w:=by
  have h1:Tryz.f99.body.isNone=false:=by kernel_rfl
  have h2:(Tryz.f99.name== "runtime.NumGoroutine")=false:=by kernel_rfl
  have h1':¬Tryz.f99.body=none:=fun e=>by rw[e]at h1;simp at h1
  have h2':¬Tryz.f99.name= "runtime.NumGoroutine" :=by simpa using h2
  simp[invoke,callFunc,Tryz.func99,h1',h2']
 refine⟨hu,.func 99,#[p],99,#[p],rfl,hi,fun c0 cs hc0=>?_⟩;obtain⟨e,u2,w',fr,⟨⟨v,rfl⟩,rfl,c5,rfl,ok5,hx5,hrow5,hJ⟩,rest⟩:=h c0 cs hc0;refine⟨_,_,_,fr,?_,rest⟩;simp only[hset];have hrs:Tryz.f53.results.toList.mapM (fk Tryz.prog)=some [.cell 2 false 1]:=by kernel_rfl
 obtain⟨us,vs,e1,e2,e3⟩:=iT (P:=Tryz.prog) (S:=⟨[.any,.any,.aY 1 k 1 0 0],c5.rows⟩) (tmps:=tmps) (K:=fun vs=>vs=[.d (.int .i64 n)]) ok5 hrs rfl (fun i=>by
  match i with
  |0|1=>exact .any _
  |2=>exact ht.mono hx5 ok4
  |i+3=>exact .any _) (by
  show bU _ _ _ _ _;simp only[bU,bw.ev,nth];refine⟨⟨_,hrow5,rfl⟩,om,om,fun es e h1 h2=>?_⟩;rw[hrow5]at h1;injection h1 with h1;injection h1 with _ h1;subst h1
  simp at h2;subst h2;simp[gA])
 subst e2;obtain⟨e3,e4⟩:=e3
 match us,e3 with
 |[u3],_=>exact⟨u3,e1,u3,c5,_,rfl,rfl,ok5,hx4.trans hx5,e4 0 _ _ rfl rfl,hJ⟩
theorem t53[bf]{g:FuncId}{caps:List V}{rows:Go.Vx.Rows}{K:V->Go.Vx.Rows->Prop}{Kp:List PanicEntry->Go.Vx.Rows->Prop}(J:V->Go.Vx.Rows->Prop)(h:kS Tryz.prog g caps (rows++[.live 1 [[.d (.int .i64 0)]]]) K Kp) (h1:∀v R,K v R->R[rows.length]? =some (.live 1 [[.d (.int .i64 0)]])/\∀r,J (.d (.int .i64 0)) (R++[r])) (h2:∀ch R,Kp ch R->∃n,ch=[{v:=.iface 148 (kq [n]),recovered:=false}]/\R[rows.length]? =some (.live 1 [[.d (.int .i64 0)]])/\∀r,J (.d (.int .i64 n)) (R.set rows.length (.live 1 [[.d (.int .i64 n)]])++[r])):dn Tryz.prog 53 [.fn (.func g) [] caps] rows J:=by
 obtain⟨o0,o1,o2,o3,p0,p1,p2,ty,hb,⟨n0,n1,n2,n3⟩,k0,k1,k2,k3,-,⟨g1,gg1,gd1,go1⟩,⟨g2,gg2,gd2,go2⟩⟩:=Q0;refine⟨⟨Tryz.f53,Tryz.func53,by kernel_rfl,by rw[hb];rfl⟩,fun c args ok hG hr ha=>?_⟩;subst hr;have hn:Tryz.f53.ntmps=6:=by kernel_rfl
 have hsz:args.size=1:=by simpa using ha.1
 refine calls_of_wp_defers Tryz.func53 hb ?_;rw[hn,hsz];have hs0:=CS ok ha 5;have r0:∀B:Go.Vx.Rows,Go.Vx.rowAt (c.rows++B) c.rows.length=Go.Vx.rowAt B 0:=fun B=>cd om;have s0:∀(B:Go.Vx.Rows) (r:bd),setAt (c.rows++B) c.rows.length r=c.rows++setAt B 0 r:=fun B r=>cf om;refine wp_seq (wp_region ?_);rw[n0];show wpOps Tryz.prog o0 _ ([0]++[]) _ _;refine Rn (base:=c.rows.length) [] _ _ 0 (fun S'=>pX S'.fr (cC 6 [(0,.fn (.func g) [] caps),(2,.aY 1 c.rows.length 1 0 0)])/\S'.rows=c.rows++[.live 1 [[.d (.int .i64 0)]]]) _ _ _ k0 ?_ (hs0.grow 1) ?_
 ·simp only[vq,seval,St.grow,r0,s0]
  try trivial
 rintro⟨fr1,rows1⟩ a1 w1 ⟨hf1,rfl⟩ hs1 hd1;have hs1:=gw hs1 hf1;refine wp_seq (wp_region ?_);rw[n1];show wpOps Tryz.prog o1 _ ([0]++[1]) _ _;refine Rn (base:=c.rows.length) [1] _ _ 0 (fun S'=>pX S'.fr (cC 6 [(0,.fn (.func g) [] caps),(2,.aY 1 c.rows.length 1 0 0),(3,.fn (.func 99) [] [.aY 1 c.rows.length 1 0 0])])/\S'.rows=c.rows++[.live 1 [[.d (.int .i64 0)]]]) _ _ _ k1 ?_ hs1 ?_
 ·simp only[vq,seval]
  try trivial
 rintro⟨fr2,rows2⟩ a2 w2 ⟨hf2,rfl⟩ hs2 hd2;have hs2:=gw hs2 hf2;have key:∀{c:Cx} {S:St} {a:Act} {w:World} {t:Nat} {f:FuncId} {cs:List V},Rl c S a w->nth S.fr t=.fn (.func f) [] cs->∃cps:Array Value,a.eval (.tmp t)=.func (.func f) #[] cps/\∃ρ I,Ok ⟨ρ,I,S.rows,w⟩/\Ext c ⟨ρ,I,S.rows,w⟩/\dX ⟨ρ,I,S.rows,w⟩ cps.toList cs/\∀i,b7 ⟨ρ,I,S.rows,w⟩ (a.tmps.getD i undef) (nth S.fr i):=by
  rintro c S a w t f cs ⟨ρ,I,e1,e2,e3,e4⟩ hnt;have h:=e4 t;rw[hnt]at h;have he:a.eval (.tmp t)=a.tmps.getD t undef:=rfl;rw[he];generalize a.tmps.getD t undef=z at h|-;cases h with|fn _ fs cps _ _ q1 q2 q3 q4=>
  have:fs= #[]:=Array.eq_empty_of_size_eq_zero q1;subst this;exact⟨cps,rfl,ρ,I,e1,e2,⟨by simpa using q2,fun j v x h1 h2=>q4 j v x h1 (by simpa using h2)⟩,e4⟩
 obtain⟨cps,hv3,ρ2,I2,ok2,hx2,hc2,hf2'⟩:=key hs2 (t:=3) (f:=99) (cs:=[.aY 1 c.rows.length 1 0 0]) rfl;obtain⟨p,hcp,hp⟩:∃p,cps= #[p]/\b7 ⟨ρ2,I2,c.rows++[.live 1 [[.d (.int .i64 0)]]],w2⟩ p (.aY 1 c.rows.length 1 0 0):=by
  obtain⟨q1,q2⟩:=hc2
  match h:cps.toList,q1 with
  |[p],_=>exact⟨p,by rw[<-Array.toArray_toList (xs:=cps),h],q2 0 _ _ rfl (by rw[h];rfl)⟩
 subst hcp;have hw1:∀f,Region.wanted p1 f=true:=fun f=>by simp[Region.wanted,gg1]
 have hx1:(execOp a2.eval p1).run Tryz.prog w2=.ok (.defer {target:=.fn (.func 99) #[p],args:= #[]}) w2:=by unfold execOp;rw[go1];simp[resolve,hv3,Deferred.ofValue]
 unfold wpOps;simp only[g1,hw1,if_true];refine .inl ?_;unfold Oper.wp;rw[hx1,Oper.upon_defer,gd1];obtain⟨a3,ha3⟩:∃a3:Act,a3=({a2 with defers:={target:=.fn (.func 99) #[p],args:= #[]}::a2.defers}:Act).put none undef:=⟨_,rfl⟩;rw[<-ha3];have hd3:a3.defers=[{target:=.fn (.func 99) #[p],args:= #[]}]:=by rw[ha3];show _::a2.defers=_;rw[hd2,hd1]
 obtain⟨c2,hc2e⟩:∃c2:Cx,c2=⟨ρ2,I2,c.rows++[.live 1 [[.d (.int .i64 0)]]],w2⟩:=⟨_,rfl⟩;rw[<-hc2e]at hp ok2 hx2;have hs3:Rl c2 ⟨cC 6 [(0,.fn (.func g) [] caps),(2,.aY 1 c.rows.length 1 0 0),(3,.fn (.func 99) [] [.aY 1 c.rows.length 1 0 0])],c.rows++[.live 1 [[.d (.int .i64 0)]]]⟩ a3 w2:=by obtain⟨_,_,_,_,hl,_⟩:=hs2;rw[hc2e]at ok2;rw[ha3,hc2e];exact⟨ρ2,I2,ok2,Ext.refl _,hl,hf2'⟩
 refine wp_seq (wp_region ?_);rw[n2];show wpOps Tryz.prog o2 _ ([0]++[1]) _ _;refine Rn (base:=c.rows.length) [1] _ _ 0 (fun S'=>pX S'.fr (cC 6 [(2,.aY 1 c.rows.length 1 0 0),(4,.fn (.func g) [] caps)])/\S'.rows=c.rows++[.live 1 [[.d (.int .i64 0)]]]) _ _ _ k2 ?_ hs3 ?_
 ·simp only[vq,seval]
  try trivial
 rintro⟨fr4,rows4⟩ a4 w4 ⟨hf4,rfl⟩ hs4 hd4;have hs4:=gw hs4 hf4;obtain⟨cps,hv4,ρ4,I4,ok4,hx4,hc4,hf4'⟩:=key hs4 (t:=4) (f:=g) (cs:=caps) rfl;have hw2:∀f,Region.wanted p2 f=true:=fun f=>by simp[Region.wanted,gg2]
 have hx2e:(execOp a4.eval p2).run Tryz.prog w4=.ok (.enter g cps) w4:=by
  obtain⟨fn,hfn,hnm,hbd⟩:=h.1;have h1':¬fn.body=none:=fun e=>by rw[e]at hbd;simp at hbd
  have h2':¬fn.name= "runtime.NumGoroutine" :=by simpa using hnm
  unfold execOp;rw[go2];simp[resolve,hv4,Deferred.ofValue,invoke,callFunc,hfn,h1',h2']
 unfold wpOps;simp only[g2,hw2,if_true];refine .inl ?_;unfold Oper.wp;rw[hx2e,Oper.upon_enter,gd2];have hlen:a4.tmps.size>=6:=by obtain⟨_,_,_,_,e,_⟩:=hs4;exact e
 refine(h.2 ⟨ρ4,I4,c.rows++[.live 1 [[.d (.int .i64 0)]]],w4⟩ cps ok4 (bf.pD (hx2.trans hx4) hG) rfl hc4).mono ?_;rintro e w5 (⟨u5,c5,v5,rfl,rfl,ok5,hx5,hr5,hK⟩|⟨ch,c5,rfl,rfl,ok5,hx5,hK⟩)
 ·obtain⟨hrow5,hJ5⟩:=h1 _ _ hK;have hk5:=(ad.1 hrow5).1;have hv5:Go.Vx.rowAt c5.rows c.rows.length=.live 1 [[.d (.int .i64 0)]]:=by rw[dR,hrow5];rfl
  have hs5:Rl c2 ⟨eg (cC 6 [(2,.aY 1 c.rows.length 1 0 0),(4,.fn (.func g) [] caps)]) (some 5) v5,c5.rows⟩ (a4.put (some 5) u5) c5.w:=Rl.put (S:=⟨cC 6 [(2,.aY 1 c.rows.length 1 0 0),(4,.fn (.func g) [] caps)],c.rows⟩) (ρ:=c5.ρ) (I:=c5.I) ok5 (hx4.trans hx5) hlen (fun i=>(hf4' i).mono hx5 ok4) (some 5) hr5;have hd5:(a4.put (some 5) u5).defers=[{target:=.fn (.func 99) #[p],args:= #[]}]:=hd4.trans hd3;show wpOps _ _ _ [] (a4.put (some 5) u5) c5.w;generalize (a4.put (some 5) u5)=a5 at hs5 hd5;refine wp_seq (wp_region ?_);rw[n3];show wpOps Tryz.prog o3 _ ([0]++[]) _ _;refine Rn (base:=c.rows.length) [] _ _ 0 (fun S'=>nth S'.fr 2=.aY 1 c.rows.length 1 0 0/\S'.rows=setAt c5.rows c.rows.length (.live 1 [[.d (.int .i64 0)]])) _ _ _ k3 ?_ hs5 ?_
  ·simp only[vq,seval,hv5]
   try trivial
  rintro⟨fr6,rows6⟩ a6 w6 ⟨hf6,rfl⟩ hs6 hd6;refine wp_ret ?_;have hset:setAt c5.rows c.rows.length (.live 1 [[.d (.int .i64 0)]])=c5.rows:=by
   rw[EE];refine List.ext_getElem? fun j=>?_;by_cases hj:c.rows.length=j
   ·subst hj;rw[List.getElem?_set_self hk5,hrow5]
   ·rw[List.getElem?_set_ne hj]
  rw[hset]at hs6;obtain⟨ρ6,I6,ok6,hx6,_,hf6'⟩:=hs6;have h2':=hf6' 2;simp only[hf6]at h2';show Leaves _ _ _ _ a6.defers _ _;rw[hd6,hd5];exact DL (c4:=⟨ρ6,I6,c5.rows,w6⟩) ok6 (hx2.trans hx6) (hp.mono hx6 ok2) h2' hrow5 (u':=.returning) sm rfl (x:=.nilIface) (T:=0) (y:=.nilIface) rfl (fun c0 cs hm=>.inl ⟨by simp[recoverD,hm],rfl,rfl⟩) J (.inl ⟨rfl,rfl,hJ5⟩)
 ·obtain⟨n,rfl,hrow5,hJ5⟩:=h2 _ _ hK;show Leaves _ _ a4.tmps _ a4.defers (.panicking _) c5.w;rw[hd4,hd3];exact DL (c4:=c5) ok5 ((hx2.trans hx4).trans hx5) (hp.mono (hx4.trans hx5) ok2) ((hf4' 2).mono hx5 ok4) hrow5 (u':=.panicking [{v:=.iface 148 (kq [n]),recovered:=true}]) sm rfl (x:=.iface 148 (kq [n])) (T:=148) (y:=kq [n]) rfl (fun c0 cs hm=>.inr (by simp[recoverD,hm])) J (.inr ⟨rfl,rfl,hJ5⟩)
end Go.Proofs.Tp
