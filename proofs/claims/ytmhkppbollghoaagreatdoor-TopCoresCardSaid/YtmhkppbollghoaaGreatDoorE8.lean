/- Proved: contracts of functions that the laws of Top reach, and plain facts for them. Conditions: those that each lemma states. -/
import Derived.Test.YtmhkppbollghoaaGreatDoorE5
set_option linter.unusedSectionVars false
set_option linter.unusedSimpArgs false
set_option linter.unusedVariables false
namespace Go.Proofs.Tp
open Go.Vx
theorem t214(l:List B)(s:B)(hl:l.length<=maxLen):CallP Tryz.prog 214 [.d (.sl 1 (l.map sD)),.d (.str s)] (.d (.bool (l.contains s))):=by
 have hm:=hm;refine cc214.go ac214 rfl ?_;simp only[vq,seval,ac214];refine bb (fun i:Nat=>⟨cC 18 [(0,.d (.sl 1 (l.map sD))),(1,.d (.str s)),(5,.d (.int .i64 i))],[]⟩) (fun i=>i<=l.length/\l.contains s=(l.drop i).contains s) (fun i=>l.length-i) 0 (a9 vt) sm (fun i hi=>?_);obtain⟨h1,h2⟩:=hi;simp only[vq,seval];refine aZ (fun hc=>?_) (fun hc=>?_)
 ·simp only[aj]at hc;obtain⟨x,hx⟩:=bh (l:=l) (i:=i) om;rw[bt hx,List.contains_cons]at h2;simp only[vq,seval];refine⟨om,om,bg hx ?_⟩;simp only[vq,seval];simp only[vq,seval,sD];by_cases he:x=s
  ·subst he;rw[BEq.rfl,Bool.true_or]at h2;simp only[vq,seval,dt (rfl:x=x),h2]
  ·rw[show(s==x)=false from beq_false_of_ne (fun h=>he h.symm),Bool.false_or]at h2;simp only[vq,seval,df he];refine bL (i+1) om (a9 ?_) ⟨om,h2⟩;simp only[vq,seval];rw[a8 om om];trivial
 ·simp only[ak]at hc;rw[b4 om]at h2;simp only[vq,seval,h2]
def F9:AC->AC
 | .seq a b=>.cut a b
 |a=>a
def Oj(b0:Nat)(M:St->Prop)(Q:AX->St->Prop):AX->St->Prop:=fun e S'=>match e with
 | .normal=>∃S'',fb b0 S' S''/\M S''
 | .exit i=>Q (.exit i) S'
 | .ret=>Q .ret S'
 | .fL ch=>Q (.fL ch) S'
theorem px[bf]{P:Program}{b0:Nat}{a b:AC}{Q:AX->St->Prop}{S:St}(M:St->Prop)(h1:dW P b0 a (Oj b0 M Q) S)(h2:∀S',M S'->dW P b0 b Q S'):dW P b0 (.cut a b) Q S:=⟨M,h1,h2⟩
theorem jN{b0:Nat}{M:St->Prop}{Q:AX->St->Prop}{S:St}(S'':St)(h1:fb b0 S S'')(h2:M S''):Oj b0 M Q .normal S:=⟨S'',h1,h2⟩
theorem vr{f:FuncId}{R:Go.Vx.Rows}{h:Nat}{l:List B}{s:B}{b:Bool}{κ:KV}(hr:R[h]? =some (rS l))(hc:CallP Tryz.prog f [.d (.sl 1 (l.map sD)),.d (.str s)] (.d (.bool b)))(hk:κ (.d (.bool b)) []):nB Tryz.prog (.fn (.func f) [] []) [.cl 1 h l.length 0 l.length,.d (.str s)] R κ:=by
 have hs:=QJ hr;refine fw (v:=.d (.bool b)) (fun v hv=>?_) rfl ?_ hk
 ·simp only[List.nil_append,List.append_nil,aP,List.not_mem_nil,or_false]at hv;rcases hv with rfl|rfl
  ·exact hs.1
  ·rfl
 ·simp only[List.nil_append,List.append_nil,List.map_cons,List.map_nil,hs.2];exact hc
abbrev wR(n dp f:Int)(vs ws:List B):bd:=.live 5 [[.d (.int .i64 n),.d (.int .i64 dp),.d (.int .i64 f),.cl 1 3 vs.length 0 vs.length,.cl 1 4 ws.length 0 ws.length]]
abbrev vE(r0 r1:bd)(n dp f:Int)(vs ws:List B)(T:Go.Vx.Rows):Go.Vx.Rows:=r0::r1::wR n dp f vs ws::rS vs::rS ws::T
def jZ(f:Int)(x:Ex):Int:=if f=0 then ei x else f
theorem Hg{l:List Ex}{x:Ex}(h:x∈l):x.dep<=Ex.gS l:=by
 induction l with
 |nil=>cases h
 |cons y l ih=>
  rw[Ex.gS];rcases aP.1 h with rfl|h
  ·omega
  ·have:=ih h;omega
set_option maxHeartbeats 2000000 in
theorem t174(r0 r1:bd):∀(m:Nat) (e:Ex),e.nodes.length<=m->nA e->∀(n dp dep:Nat) (f:Int) (vs ws:List B) (T:Go.Vx.Rows),n+e.nodes.length<=4294967296->vs.length<=n->ws.length<=n->dep+e.dep<=4294967300->dn Tryz.prog 174 [.aY 5 2 1 0 0,.agg (e.d.map .d),.d (.int .i64 dep)] (vE r0 r1 n dp f vs ws T) (fun _ R'=>∃vs' ws' T',vs'.length<=n+e.nodes.length/\ws'.length<=n+e.nodes.length/\R'=vE r0 r1 ((n+e.nodes.length:Nat):Int) ((max dp (dep+Ex.gS e.args):Nat):Int) (e.nodes.foldl jZ f) vs' ws' (T++T'))
 |0,e,h,_,_,_,_,_,_,_,_,_,_,_,_=>by have:=cZ e;omega
 |m+1,e,hle,he,n,dp,dep,f,vs,ws,T,hn,hvs,qg,hdp=>by
  have hm:=hm;have hmL:=dx;have hok:=he.2 e (by rw[Ex.bT];simp);have hsub:∀x∈e.args,x.nodes.length<=m/\nA x:=fun x hx=>by have:=eU hx;have h1:=he.1;rw[Ex.bT,List.length_cons]at hle h1;exact⟨om,om,fun y hy=>he.2 y (by rw[Ex.bT];exact List.mem_cons_of_mem _ (eV hx hy))⟩
  have q0:∀B:Go.Vx.Rows,Go.Vx.rowAt (T++B) T.length=Go.Vx.rowAt B 0:=fun B=>cd om;have q1:∀(B:Go.Vx.Rows) (r:bd),setAt (T++B) T.length r=T++setAt B 0 r:=fun B r=>cf om;obtain⟨bx,hbx⟩:∃bx,bd.live 4 [e.d.map .d]=bx:=⟨_,rfl⟩;obtain⟨M,hM⟩:∃M:Nat->Int->Nat->Nat->St->Prop,M=fun dp f a b S=>∃vs ws Tc,vs.length<=a/\ws.length<=b/\Tc[T.length]? =some bx/\(∃X,Tc=T++X)/\S=⟨cC 104 [(0,.aY 5 2 1 0 0),(2,.d (.int .i64 dep)),(4,.aY 4 (T.length+5) 1 0 0)],vE r0 r1 ((n+1:Nat):Int) dp f vs ws Tc⟩:=⟨_,rfl⟩;have hM1:∀{dp f vs ws Tc a b},vs.length<=a->ws.length<=b->Tc[T.length]? =some bx->(∃X,Tc=T++X)->M dp f a b ⟨cC 104 [(0,.aY 5 2 1 0 0),(2,.d (.int .i64 dep)),(4,.aY 4 (T.length+5) 1 0 0)],vE r0 r1 ((n+1:Nat):Int) dp f vs ws Tc⟩:=fun h1 h2 h3 h4=>by rw[hM];exact⟨_,_,_,h1,h2,h3,h4,rfl⟩
  refine cc174.gi (AC.at F9 [1,1] (AC.at F9 [1,1,1] (AC.at F9 [1,1,1,1] (AC.at F9 [1,1,1,1,1] (AC.at (AC.look [false,false,false,false,false,false,false,false,true]) [1,1,1,1,1,1,1,2,2,1,0,2] ac174))))) rfl ?_;simp only[vq,seval,ac174,AC.at,AC.look,F9,q0,q1,dI];have hnl:e.nodes.length=1+(Ex.bX e.args).length:=by rw[Ex.bT,List.length_cons];omega
  have w1:IntKind.i64.wrap ((n:Int)+1)=((n+1:Nat):Int):=by rw[a8 om om];omega
  have hA:=hok.1;refine px (M (max dp dep) f n n) ?_ (fun S' h=>?_)
  ·have h3:(T++[bd.live 4 [e.d.map .d]])[T.length]? =some bx:=by rw[<-hbx];simp
   simp only[vq,seval,w1];by_cases hc:(dp:Int)<dep
   ·simp only[vq,seval,dt hc];have:=hM1 (dp:=max dp dep) (f:=f) (vs:=vs) (ws:=ws) (a:=n) (b:=n) om om h3 ⟨_,rfl⟩;rw[show max dp dep=dep by omega]at this|-;exact jN _ (a9 vt) this
   ·simp only[vq,seval,df hc];have:=hM1 (dp:=max dp dep) (f:=f) (vs:=vs) (ws:=ws) (a:=n) (b:=n) om om h3 ⟨_,rfl⟩;rw[show max dp dep=dp by omega]at this|-;exact jN _ (a9 vt) this
  rw[hM]at h;obtain⟨vs,ws,Tc,hvs,qg,hx,hX,rfl⟩:=h;have Qx:Go.Vx.rowAt Tc T.length=bd.live 4 [e.d.map .d]:=by rw[hbx];exact iC hx
  refine px (M (max dp dep) (jZ f e) n n) ?_ (fun S' h=>?_)
  ·simp only[vq,seval];by_cases hc:f=0
   ·simp only[vq,seval,dt hc,Qx,dI];refine aW (p9 _) (t213 e hok) ?_;simp only[vq,seval];rw[show jZ f e=ei e by rw[jZ,if_pos hc]];exact jN _ (a9 vt) (hM1 hvs qg hx hX)
   ·simp only[vq,seval,df hc];rw[show jZ f e=f by rw[jZ,if_neg hc]];exact jN _ (a9 vt) (hM1 hvs qg hx hX)
  rw[hM]at h;obtain⟨vs,ws,Tc,hvs,qg,hx,hX,rfl⟩:=h;have Qx:Go.Vx.rowAt Tc T.length=bd.live 4 [e.d.map .d]:=by rw[hbx];exact iC hx
  have Qy:∀B,Go.Vx.rowAt (Tc++B) T.length=bd.live 4 [e.d.map .d]:=fun B=>by rw[hbx];exact iC (iy hx)
  refine px (M (max dp dep) (jZ f e) (n+1) n) ?_ (fun S' h=>?_)
  ·simp only[vq,seval];refine du rfl ?_;rw[e.jB]at Qx Qy;simp only[vq,seval,Qx,List.map_cons,List.map_nil];by_cases h2:e.op=2
   ·simp only[vq,seval,dt h2,Qx,List.map_cons,List.map_nil];refine vr (l:=vs) rfl (t214 vs e.nm om) ?_;have q0:∀B:Go.Vx.Rows,Go.Vx.rowAt (Tc++B) Tc.length=Go.Vx.rowAt B 0:=fun B=>cd om;have q1:∀(B:Go.Vx.Rows) (r:bd),setAt (Tc++B) Tc.length r=Tc++setAt B 0 r:=fun B r=>cf om;have q2:∀B:Go.Vx.Rows,Go.Vx.rowAt (Tc++B) (Tc.length+1)=Go.Vx.rowAt B 1:=fun B=>cd om;have q3:∀(B:Go.Vx.Rows) (r:bd),setAt (Tc++B) (Tc.length+1) r=Tc++setAt B 1 r:=fun B r=>cf om;cases hv:vs.contains e.nm with
    |true=>simp only[vq,seval];exact jN _ (a9 vt) (hM1 (Nat.le_succ_of_le hvs) qg hx hX)
    |false=>
     simp only[vq,seval];refine bW ?_;simp only[vq,seval,q0,q1,q2,q3,Qy,rS]
     repeat((first|refine cc rfl rfl ?_|refine cc ck ck ?_);simp only[vq,seval,q0,q1,q2,q3,Qy,rS])
     refine⟨by simp only[bM];omega,?_⟩
     repeat((first|refine cc rfl rfl ?_|refine cc ck ck ?_);simp only[vq,seval,q0,q1,q2,q3,Qy,rS])
     have hh:=hM1 (dp:=max dp dep) (f:=jZ f e) (vs:=vs++[e.nm]) (ws:=ws) (Tc:=Tc++[.live 1 [[.d (.str e.nm)]],.un]) (by rw[az];exact Nat.add_le_add_right hvs 1) qg (iy hx) (by obtain⟨X,rfl⟩:=hX;exact⟨_,List.append_assoc _ _ _⟩);simp only[vE,wR,rS,List.map_append,List.map_cons,List.map_nil,sD,az,List.length_cons,List.length_nil,Nat.zero_add]at hh;exact jN _ (a9 vt) hh
   ·simp only[vq,seval,df h2];exact jN _ (a9 vt) (hM1 (Nat.le_succ_of_le hvs) qg hx hX)
  rw[hM]at h;obtain⟨vs,ws,Tc,hvs,qg,hx,hX,rfl⟩:=h;have Qx:Go.Vx.rowAt Tc T.length=bd.live 4 [e.d.map .d]:=by rw[hbx];exact iC hx
  have Qy:∀B,Go.Vx.rowAt (Tc++B) T.length=bd.live 4 [e.d.map .d]:=fun B=>by rw[hbx];exact iC (iy hx)
  refine px (M (max dp dep) (jZ f e) (n+1) (n+1)) ?_ (fun S' h=>?_)
  ·simp only[vq,seval];refine du rfl ?_;rw[e.jB]at Qx Qy;simp only[vq,seval,Qx,List.map_cons,List.map_nil];have q0:∀B:Go.Vx.Rows,Go.Vx.rowAt (Tc++B) Tc.length=Go.Vx.rowAt B 0:=fun B=>cd om;have q1:∀(B:Go.Vx.Rows) (r:bd),setAt (Tc++B) Tc.length r=Tc++setAt B 0 r:=fun B r=>cf om;have q2:∀B:Go.Vx.Rows,Go.Vx.rowAt (Tc++B) (Tc.length+1)=Go.Vx.rowAt B 1:=fun B=>cd om;have q3:∀(B:Go.Vx.Rows) (r:bd),setAt (Tc++B) (Tc.length+1) r=Tc++setAt B 1 r:=fun B r=>cf om;by_cases h3:e.op=3
   ·simp only[vq,seval,dt h3,Qx,List.map_cons,List.map_nil];refine vr (l:=ws) rfl (t214 ws e.nm om) ?_;cases hv:ws.contains e.nm with
    |true=>simp only[vq,seval];exact jN _ (a9 vt) (hM1 hvs (Nat.le_succ_of_le qg) hx hX)
    |false=>
     simp only[vq,seval];refine bW ?_;simp only[vq,seval,q0,q1,q2,q3,Qy,rS]
     repeat((first|refine cc rfl rfl ?_|refine cc ck ck ?_);simp only[vq,seval,q0,q1,q2,q3,Qy,rS])
     refine⟨by simp only[bM];omega,?_⟩
     repeat((first|refine cc rfl rfl ?_|refine cc ck ck ?_);simp only[vq,seval,q0,q1,q2,q3,Qy,rS])
     have hh:=hM1 (dp:=max dp dep) (f:=jZ f e) (vs:=vs) (ws:=ws++[e.nm]) (Tc:=Tc++[.live 1 [[.d (.str e.nm)]],.un]) hvs (by rw[az];exact Nat.add_le_add_right qg 1) (iy hx) (by obtain⟨X,rfl⟩:=hX;exact⟨_,List.append_assoc _ _ _⟩);simp only[vE,wR,rS,List.map_append,List.map_cons,List.map_nil,sD,az,List.length_cons,List.length_nil,Nat.zero_add]at hh;exact jN _ (a9 vt) hh
   ·simp only[vq,seval,df h3,Qx,List.map_cons,List.map_nil];by_cases h24:e.op=24
    ·simp only[vq,seval,dt h24,Qx,List.map_cons,List.map_nil];refine vr (l:=ws) rfl (t214 ws e.nm om) ?_;cases hv:ws.contains e.nm with
     |true=>simp only[vq,seval];exact jN _ (a9 vt) (hM1 hvs (Nat.le_succ_of_le qg) hx hX)
     |false=>
      simp only[vq,seval];refine bW ?_;simp only[vq,seval,q0,q1,q2,q3,Qy,rS]
      repeat((first|refine cc rfl rfl ?_|refine cc ck ck ?_);simp only[vq,seval,q0,q1,q2,q3,Qy,rS])
      refine⟨by simp only[bM];omega,?_⟩
      repeat((first|refine cc rfl rfl ?_|refine cc ck ck ?_);simp only[vq,seval,q0,q1,q2,q3,Qy,rS])
      have hh:=hM1 (dp:=max dp dep) (f:=jZ f e) (vs:=vs) (ws:=ws++[e.nm]) (Tc:=Tc++[.live 1 [[.d (.str e.nm)]],.un]) hvs (by rw[az];exact Nat.add_le_add_right qg 1) (iy hx) (by obtain⟨X,rfl⟩:=hX;exact⟨_,List.append_assoc _ _ _⟩);simp only[vE,wR,rS,List.map_append,List.map_cons,List.map_nil,sD,az,List.length_cons,List.length_nil,Nat.zero_add]at hh;exact jN _ (a9 vt) hh
    ·simp only[vq,seval,df h24];exact jN _ (a9 vt) (hM1 hvs (Nat.le_succ_of_le qg) hx hX)
  rw[hM]at h;obtain⟨vs,ws,Tc,hvs,qg,hx,hX,rfl⟩:=h;simp only[vq,seval];refine bb (fun t:(Nat×Nat×Nat×Int)×(List B×List B×Go.Vx.Rows)=>⟨cC 104 [(0,.aY 5 2 1 0 0),(2,.d (.int .i64 dep)),(4,.aY 4 (T.length+5) 1 0 0),(6,.d (.int .i64 t.1.1))],vE r0 r1 (t.1.2.1:Nat) (t.1.2.2.1:Nat) t.1.2.2.2 t.2.1 t.2.2.1 t.2.2.2⟩) (fun t=>t.1.1<=e.args.length/\t.1.2.1+(Ex.bX (e.args.drop t.1.1)).length=n+e.nodes.length/\max t.1.2.2.1 (dep+Ex.gS (e.args.drop t.1.1))=max dp (dep+Ex.gS e.args)/\(Ex.bX (e.args.drop t.1.1)).foldl jZ t.1.2.2.2=e.nodes.foldl jZ f/\t.2.1.length<=t.1.2.1/\t.2.2.1.length<=t.1.2.1/\t.2.2.2[T.length]? =some bx/\dep<=t.1.2.2.1/\∃X,t.2.2.2=T++X) (fun t=>e.args.length-t.1.1) ((0,n+1,max dp dep,jZ f e),vs,ws,Tc) (a9 vt) ⟨Nat.zero_le _,by dsimp only;rw[List.drop_zero];omega,by dsimp only;rw[List.drop_zero];omega,by dsimp only;rw[List.drop_zero,Ex.bT];rfl,hvs,qg,hx,by dsimp only;omega,hX⟩ ?_;rintro⟨⟨i,n',dp',f'⟩,vs,ws,Tc⟩ ⟨h1,h2,h3,h4,h5,h6,h7,h9,h8⟩;dsimp only at h1 h2 h3 h4 h5 h6 h7 h9 h8;have Qx:Go.Vx.rowAt Tc T.length=bd.live 4 [e.d.map .d]:=by rw[hbx];exact iC h7
  rw[e.jB]at Qx;simp only[vq,seval,Qx,List.map_cons,List.map_nil];refine aZ (fun hc=>?_) (fun hc=>?_)
  ·simp only[aj]at hc;obtain⟨x,hx⟩:=bh (l:=e.args) (i:=i) om;have hmem:=af hx;rw[bt hx]at h2 h3 h4;rw[Ex.bX]at h2 h4;rw[Ex.gS]at h3;rw[az]at h2;rw[List.foldl_append]at h4;simp only[vq,seval,Qx,List.map_cons,List.map_nil];refine⟨om,om,bg hx ?_⟩;simp only[vq,seval];simp only[vq,seval,dI,Qx];have hxd:=Hg hmem;rw[Ex.jL]at hdp;rw[a8 om om,show((dep:Int)+1)=((dep+1:Nat):Int) by omega];refine dh (b6 (t174 r0 r1 m x (hsub x hmem).1 (hsub x hmem).2 n' dp' (dep+1) f' vs ws Tc om h5 h6 om) ?_);rintro _ _ ⟨vs',ws',T',g1,g2,rfl⟩;simp only[vq,seval];refine bL ((i+1,n'+x.nodes.length,max dp' (dep+1+Ex.gS x.args),x.nodes.foldl jZ f'),vs',ws',Tc++T') (by dsimp only;omega) (a9 ?_) ⟨by dsimp only;omega,by dsimp only;omega,by dsimp only;rw[Ex.jL]at h3;omega,h4,g1,g2,iy h7,by dsimp only;omega,by obtain⟨X,rfl⟩:=h8;exact⟨_,List.append_assoc _ _ _⟩⟩;simp only[vq,seval];rw[a8 om om];trivial
  ·simp only[ak]at hc;rw[b4 om]at h2 h3 h4;rw[Ex.bX]at h2 h4;rw[Ex.gS]at h3;obtain⟨X,rfl⟩:=h8;simp only[vq,seval];refine⟨vs,ws,X,om,om,?_⟩;rw[<-h4,<-h3,show n+e.nodes.length=n' by rw[<-h2];rfl];rw[show max dp' (dep+0)=dp' by omega];rfl
end Go.Proofs.Tp
