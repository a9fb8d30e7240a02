/- Proved: rules of a compiled form of the code, sound for the model. Conditions: none but those that each lemma states. -/
import Derived.Test.YtmhkppbollghoaaGreatDoorXe
import Derived.Orders
import Derived.Tactics
import Derived.OrdersIn
import Derived.TacticsIn
set_option linter.unusedSectionVars false
set_option linter.unusedSimpArgs false
set_option linter.unusedVariables false
namespace Go.Vx
section
variable[bf]{P:Program}
def gO(P:Program)(base:Nat)(s:bn)(S:St)(v:V)(ups:List (Nat×bd)):Prop:=match s.guard with
 |none=>iU P base s S fun v' u'=>v'=v/\u'=ups
 |some (t,want)=>
  match nth S.fr t with
  | .d (.bool b)=>(b=want/\iU P base s S fun v' u'=>v'=v/\u'=ups)\/(b≠want/\v=.cm []/\ups=[])
  | .cm []=>v=.cm []/\ups=[]
  |_=>False
theorem zC{base:Nat}{s:bn}{S:St}{K:V->List (Nat×bd)->Prop}(h:iU P base s S K):∃v ups,(iU P base s S fun v' u'=>v'=v/\u'=ups)/\K v ups:=by
 unfold iU at h|-;split at h
 ·rename_i o e;obtain⟨hm,h⟩:=h;obtain⟨⟨v,u⟩,h1,h2⟩:=(yT o (bw.ev S.fr) S.rows (base+s.hi)).JW (fun p=>K p.1 p.2) h;refine⟨v,u,⟨hm,?_⟩,h2⟩;exact(yT o (bw.ev S.fr) S.rows (base+s.hi)).mono (fun p=>p=(v,u)) (fun p=>p.1=v/\p.2=u) (by rintro p rfl;exact⟨rfl,rfl⟩) h1
 ·unfold pW at h|-;split at h
  ·obtain⟨v,ups,h1,h2⟩:=h;exact⟨v,ups,⟨v,ups,h1,rfl,rfl⟩,h2⟩
  ·obtain⟨v,ups,h1,h2⟩:=h;exact⟨v,ups,⟨v,ups,h1,rfl,rfl⟩,h2⟩
  ·exact h.elim
 ·exact h.elim
theorem oK{base:Nat}{s:bn}{S:St}{K:V->List (Nat×bd)->Prop}(h:bP P base s S K):∃v ups,gO P base s S v ups/\K v ups:=by
 unfold bP at h;cases hg:s.guard with
 |none=>simp only[hg]at h;simp only[gO,hg];exact zC h
 |some tw=>
  obtain⟨t,want⟩:=tw;simp only[hg]at h;simp only[gO,hg];split at h
  ·rename_i b e;simp only[e];by_cases hb:b=want
   ·obtain⟨v,u,h1,h2⟩:=zC (h.1 hb);exact⟨v,u,.inl ⟨hb,h1⟩,h2⟩
   ·exact⟨.cm [],[],.inr ⟨hb,rfl,rfl⟩,h.2 hb⟩
  ·rename_i e;simp only[e];exact⟨.cm [],[],⟨rfl,rfl⟩,h⟩
  ·exact h.elim
def pd(ops:Array Oper):Option (Nat×Bool)->Option (Option (Nat×Bool))
 |none=>some none
 |some (j,w)=>((ops[j]?).bind (·.dst)).map fun t=>some (t,w)
def Mf(P:Program):Operand->Bool
 | .func f=>zT P f
 |_=>false
def qw(P:Program)(o:Oper):Option ep:=match o.op with
 | .call {callee:=.value f,args,argTypes:=_}=>if Mf P f=true then some (.op (iz P o.op o.type))else(bu f).bind fun f=>(args.toList.mapM bu).map fun a=>.call f a
 | .panic x=>(bu x).map .fL
 |op=>some (.op (iz P op o.type))
def jk(P:Program)(ops:Array Oper)(o:Oper)(hi:Nat):Option bn:=(pd ops o.guard).bind fun g=>(qw P o).map fun a=>⟨o.dst,hi,g,a⟩
theorem n9{c:Cx}(ok:Ok c){a:Act}{fr:List V}(hf:∀i,b7 c (a.tmps.getD i undef) (nth fr i)):∀x o,bu x=some o->b7 c (a.eval x) (o.ev fr):=by
 intro x o h;cases x with
 |tmp t=>injection h with h;subst h;exact hf t
 |const v=>
  injection h with h;subst h
  cases hv:Hn v with
  |none=>exact .any _
  |some y=>exact CM hv
 |global g=>
  simp only[bu]at h;split at h
  ·rename_i hg;subst hg;injection h with h;subst h
   exact .d _ _ ok.g.pz
  ·cases h
 |func f=>
  injection h with h;subst h
  exact .fn _ _ _ _ _ rfl rfl (fun j v x h=>by simp at h) (fun j v x h=>by simp at h)
theorem wV{ops:Array Oper}{a:Act}{j t:Nat}{w:Bool}(h:pd ops (some (j,w))=some (some (t,w))):yielded ops a.tmps j=(match a.tmps[t]? with|some (.bool b)=>some b|_=>none):=by
 obtain⟨t',ht,h⟩:=aa.1 h;injection h with h;injection h with h;subst h
 unfold yielded;rw[ht];rfl
def jY(ro:Option Nat):Fence:={fn:=fun _=>True,depth:=none,alive:=false,round:=ro}
theorem pf{ro:Option Nat}{n:Nat}{f:FuncId}{args:Array Value}{w:World}{R:Ending->World->Prop}(h:Calls P f args w R):CallsIn (jY ro) n P f args w R:=callsIn_wide.2 h
theorem mP{ro:Option Nat}{ops:Array Oper}{o:Oper}{hi base:Nat}{s:bn}{S:St}{v:V}{ups:List (Nat×bd)}{c0:Cx}{a:Act}{w:World}{K':Act->World->Prop}{Q:Exit->Act->World->Prop} (hc:jk P ops o hi=some s) (hst:gO P base s S v ups) (hsat:Sat c0 S a w) (hG:bf.G c0) (hK:∀a' w',Sat c0 (S.after s v ups) a' w'->K' a' w'):if Region.wanted o (yielded ops a.tmps)then o.wpIn (jY ro) 0 P a w K' Q else(∀f,o.about P w a.eval=some f->(jY ro).fn f)/\K' (a.put o.dst undef) w:=by
 obtain⟨g,hg,hc⟩:=ab.1 hc;obtain⟨ac,hac,rfl⟩:=aa.1 hc;obtain⟨ρ,I,ok,hx,hd,hl,hf⟩:=hsat;have hopd:=n9 ok hf;have opcase:(iU P base ⟨o.dst,hi,g,.op (iz P o.op o.type)⟩ S fun v' u'=>v'=v/\u'=ups)->(∀a' w',Sat c0 (S.after ⟨o.dst,hi,g,.op (iz P o.op o.type)⟩ v ups) a' w'->K' a' w')->o.wpIn (jY ro) 0 P a w K' Q:=by
  intro hact hK;simp only[iU]at hact;obtain⟨hm,hact⟩:=hact;have hnd:∀c,o.op≠ .defer c:=fun c ho=>by rw[ho]at hact;simp[iz,rf,bU]at hact
  refine⟨fun _ _=>trivial,?_⟩;rw[Oper.semAt_eq _ _ _ hnd];obtain⟨v',ups',n,c',⟨rfl,rfl⟩,hrun,ok',hx',hrows,hn⟩:=wh (o:=o) ok (fun _=>rfl) rfl hopd hm hact;rw[hrun];have hfr':∀i,b7 c' (a.tmps.getD i undef) (nth S.fr i):=fun i=>(hf i).mono hx' ok;have hc':c'=⟨c'.ρ,c'.I,bq S.rows ups',c'.w⟩:=by cases c';simp only at hrows;subst hrows;rfl
  have hput:∀u,b7 c' u v'->Sat c0 (S.after ⟨o.dst,hi,g,.op (iz P o.op o.type)⟩ v' ups') (a.put o.dst u) c'.w:=fun u hu=>Sat.put (c0:=c0) (S:=S) (a:=a) (w:=c'.w) (ρ:=c'.ρ) (I:=c'.I) (rows:=bq S.rows ups') (by rw[<-hc'];exact ok') (by rw[<-hc'];exact hx.trans hx') (by rw[<-hc'];exact hd.mono hx') hl (fun i=>by rw[<-hc'];exact hfr' i) o.dst (u:=u) (v:=v') (by rw[<-hc'];exact hu);rcases hn with⟨u,rfl,hu⟩|⟨rfl,rfl⟩
  ·exact hK _ _ (hput u hu)
  ·exact hK _ _ (hput undef (.any _))
 have take:(iU P base ⟨o.dst,hi,g,ac⟩ S fun v' u'=>v'=v/\u'=ups)->o.wpIn (jY ro) 0 P a w K' Q:=by
  intro hact;unfold qw at hac;split at hac
  ·rename_i f args argTypes hop;split at hac
   ·injection hac with hac;subst hac
    exact opcase hact hK
   refine⟨fun _ _=>trivial,?_⟩;rw[Oper.semAt_eq _ _ _ (fun c ho=>by rw[hop]at ho;cases ho)];obtain⟨f',hf',hac⟩:=ab.1 hac;obtain⟨args',ha',rfl⟩:=aa.1 hac;simp only[iU,pW]at hact;have hfr:=hopd f f' hf';split at hact
   ·rename_i n first cap e1
    rw[e1]at hfr;obtain⟨v',ups',hcd,rfl,rfl⟩:=hact;obtain⟨hal,har⟩:=mG (c:=⟨ρ,I,S.rows,w⟩) hopd ha';generalize hfv:a.eval f=fv at hfr;cases hfr with|fn _ fs cps _ _ h1 h2 h3 h4=>
    have hent:lH P n:=sY hcd;obtain⟨fn,hfn,hnm,hbd⟩:=hent;have hrun:(execOp a.eval o).run P w=.ok (.enter n (fs++args.map a.eval++cps)) w:=by
     have hnm':¬fn.name= "runtime.NumGoroutine" :=by simpa using hnm
     have hbd':¬fn.body=none:=fun e=>by rw[e]at hbd;simp at hbd
     unfold execOp;rw[hop];simp[resolve,hfv,Deferred.ofValue,invoke,callFunc,hfn,hnm',hbd']
    rw[hrun,Oper.uponIn_enter];have hargs:dX ⟨ρ,I,S.rows,w⟩ (fs++args.map a.eval++cps).toList (first++args'.map (bw.ev S.fr)++cap):=by
     refine⟨by simp at hal|-;omega,fun j v x hv hx=>?_⟩;simp only[Array.toList_append]at hx;rw[List.getElem?_append]at hv hx;simp only[az,Array.length_toList]at hv hx;by_cases c1:j<fs.size+(args.map a.eval).size
     ·have c2:j<first.length+(args'.map (bw.ev S.fr)).length:=om
      rw[if_pos c2]at hv;rw[if_pos c1,List.getElem?_append]at hx;rw[List.getElem?_append]at hv;simp only[Array.length_toList]at hx;by_cases c3:j<fs.size
      ·rw[if_pos c3]at hx;rw[if_pos om]at hv;exact h3 j v x hv (by simpa using hx)
      ·rw[if_neg c3]at hx;rw[if_neg om]at hv;rw[<-h1]at hv;exact har _ v x hv (by simpa using hx)
     ·have c2:¬j<first.length+(args'.map (bw.ev S.fr)).length:=om
      rw[if_neg c2]at hv;rw[if_neg c1]at hx;have c3:j-(first.length+(args'.map (bw.ev S.fr)).length)=j-(fs.size+(args.map a.eval).size):=om;rw[c3]at hv;exact h4 _ v x hv (by simpa using hx)
    refine⟨fun h=>by simp[jY]at h,pf ((vJ ok (bf.pD hx hG) hargs hcd).mono ?_)⟩;rintro e w' ⟨u,c',rfl,rfl,ok',hx',hrows,hrep⟩;refine hK _ _ ?_;have hfr':∀i,b7 c' (a.tmps.getD i undef) (nth S.fr i):=fun i=>(hf i).mono hx' ok;have hc':c'=⟨c'.ρ,c'.I,bq S.rows ups',c'.w⟩:=by cases c';simp only at hrows;subst hrows;rfl
    have hsat:=Sat.put (c0:=c0) (S:=S) (a:=a) (w:=c'.w) (ρ:=c'.ρ) (I:=c'.I) (rows:=bq S.rows ups') (by rw[<-hc'];exact ok') (by rw[<-hc'];exact hx.trans hx') (by rw[<-hc'];exact hd.mono hx') hl (fun i=>by rw[<-hc'];exact hfr' i) o.dst (u:=u) (v:=v') (by rw[<-hc'];exact hrep);exact hsat
   ·rename_i l first cap e1
    rw[e1]at hfr;obtain⟨v',ups',hcd,rfl,rfl⟩:=hact;obtain⟨hal,har⟩:=mG (c:=⟨ρ,I,S.rows,w⟩) hopd ha';generalize hfv:a.eval f=fv at hfr;cases hfr with|fn _ fs cps _ _ h1 h2 h3 h4=>
    have hrun:(execOp a.eval o).run P w=(Instr.yield l (fs++args.map a.eval)).run P w:=by unfold execOp;rw[hop];simp[resolve,hfv,Deferred.ofValue,invoke]
    have hargs:dX ⟨ρ,I,S.rows,w⟩ (fs++args.map a.eval).toList (first++args'.map (bw.ev S.fr)):=by
     refine⟨by simp at hal|-;omega,fun j v x hv hx=>?_⟩;simp only[Array.toList_append]at hx;rw[List.getElem?_append]at hv hx;simp only[Array.length_toList]at hx;by_cases c3:j<fs.size
     ·rw[if_pos c3]at hx;rw[if_pos om]at hv;exact h3 j v x hv (by simpa using hx)
     ·rw[if_neg c3]at hx;rw[if_neg om]at hv;rw[<-h1]at hv;exact har _ v x hv (by simpa using hx)
    obtain⟨fn,tm,asg,body,hy,hR⟩:=hcd.2.2 ⟨ρ,I,S.rows,w⟩ _ ok (bf.pD hx hG) rfl hargs;rw[hrun,hy,Oper.uponIn_round];refine⟨fun h=>by simp[jY]at h,RoundIn.mono hR ?_⟩;rintro e w' ⟨u,c',rfl,rfl,ok',hx',hrows,hrep⟩;refine hK _ _ ?_;have hfr':∀i,b7 c' (a.tmps.getD i undef) (nth S.fr i):=fun i=>(hf i).mono hx' ok;have hc':c'=⟨c'.ρ,c'.I,bq S.rows ups',c'.w⟩:=by cases c';simp only at hrows;subst hrows;rfl
    have hsat:=Sat.put (c0:=c0) (S:=S) (a:=a) (w:=c'.w) (ρ:=c'.ρ) (I:=c'.I) (rows:=bq S.rows ups') (by rw[<-hc'];exact ok') (by rw[<-hc'];exact hx.trans hx') (by rw[<-hc'];exact hd.mono hx') hl (fun i=>by rw[<-hc'];exact hfr' i) o.dst (u:=u) (v:=v') (by rw[<-hc'];exact hrep);exact hsat
   ·exact hact.elim
  ·obtain⟨x,_,rfl⟩:=aa.1 hac;exact hact.elim
  ·injection hac with hac;subst hac
   exact opcase hact hK
 have skip:v=.cm []->ups=[]->K' (a.put o.dst undef) w:=by rintro rfl rfl;exact hK _ _ (Sat.put ok hx hd hl hf o.dst (.cm #[] [] rfl (fun j v x h=>by simp at h)))
 unfold gO at hst;cases hog:o.guard with
 |none=>
  rw[hog]at hg;injection hg with hg;subst hg
  rw[if_pos (by simp[Region.wanted,hog])];exact take hst
 |some jw=>
  obtain⟨j,want⟩:=jw;rw[hog]at hg;have hg':=hg;obtain⟨t,ht,hg2⟩:=aa.1 hg;subst hg2;simp only at hst;have hy:=wV (a:=a) hg';have hrt:=hf t;split at hst
  ·rename_i b e1;rw[e1]at hrt;have hb:=gH hrt;have hlt:t<a.tmps.size:=by
    rcases Nat.lt_or_ge t a.tmps.size with h|h
    ·exact h
    ·rw[au,Array.getElem?_eq_none h]at hb;simp[undef]at hb
   have hget:a.tmps[t]? =some (.bool b):=by rw[au,Array.getElem?_eq_getElem hlt]at hb;rw[Array.getElem?_eq_getElem hlt];simpa using hb
   rw[hget]at hy;simp only at hy;rcases hst with⟨rfl,hst⟩|⟨hne,h1,h2⟩
   ·rw[if_pos (by simp[Region.wanted,hog,hy])];exact take hst
   ·rw[if_neg (by simp[Region.wanted,hog,hy,hne])];exact⟨fun _ _=>trivial,skip h1 h2⟩
  ·rename_i e1;rw[e1]at hrt;have hyn:yielded ops a.tmps j=none:=by
    rw[hy];generalize hu:a.tmps.getD t undef=u at hrt;cases hrt with|cm vs _ hlen hrep=>
    rw[au]at hu;cases hgt:a.tmps[t]? with
    |none=>rfl
    |some x=>rw[hgt]at hu;simp at hu;subst hu;rfl
   rw[if_neg (by simp[Region.wanted,hog,hyn])];exact⟨fun _ _=>trivial,skip hst.1 hst.2⟩
  ·exact hst.elim
theorem tl{ops:Array Oper}{o:Oper}{g:Option (Nat×Bool)}{S:St}{c:Cx}{a:Act}(hg:pd ops o.guard=some g)(hgo:ki g S.fr)(hf:∀i,b7 c (a.tmps.getD i undef) (nth S.fr i)):Region.wanted o (yielded ops a.tmps)=true:=by
 cases hog:o.guard with
 |none=>simp[Region.wanted,hog]
 |some jw=>
  obtain⟨j,want⟩:=jw;rw[hog]at hg;have hg':=hg;obtain⟨t,ht,hg2⟩:=aa.1 hg;subst hg2;have hy:=wV (a:=a) hg';have hrt:=hf t;have e1:nth S.fr t=.d (.bool want):=hgo;rw[e1]at hrt;have hb:=gH hrt;have hlt:t<a.tmps.size:=by
   rcases Nat.lt_or_ge t a.tmps.size with h|h
   ·exact h
   ·rw[au,Array.getElem?_eq_none h]at hb;simp[undef]at hb
  have hget:a.tmps[t]? =some (.bool want):=by rw[au,Array.getElem?_eq_getElem hlt]at hb;rw[Array.getElem?_eq_getElem hlt];simpa using hb
  rw[hget]at hy;simp only at hy;simp[Region.wanted,hog,hy]
theorem lB{ro:Option Nat}{ops:Array Oper}{o:Oper}{hi:Nat}{s:bn}{S:St}{K:V->Rows->Prop}{Kp:List PanicEntry->Rows->Prop}{c0:Cx}{a:Act}{w:World}{K':Act->World->Prop}{Q:Exit->Act->World->Prop} (hc:jk P ops o hi=some s) (hst:qt P s S K Kp) (hsat:Sat c0 S a w) (hG:bf.G c0) (hK:∀v rows' a' w',K v rows'->Sat c0 ⟨eg S.fr s.dst v,rows'⟩ a' w'->K' a' w') (hKp:∀ch rows' w',Kp ch rows'->Sat c0 ⟨S.fr,rows'⟩ a w'->Q (.panic ch) a w'):if Region.wanted o (yielded ops a.tmps)then o.wpIn (jY ro) 0 P a w K' Q else(∀f,o.about P w a.eval=some f->(jY ro).fn f)/\K' (a.put o.dst undef) w:=by
 obtain⟨g,hg,hc⟩:=ab.1 hc;obtain⟨ac,hac,rfl⟩:=aa.1 hc;obtain⟨ρ,I,ok,hx,hd,hl,hf⟩:=hsat;have hopd:=n9 ok hf;have hg0:∃f args,ac=.call f args:=by
  unfold qt at hst;cases ac with
  |op o=>exact hst.elim
  |call f args=>exact⟨f,args,rfl⟩
  |fL x=>exact hst.elim
 obtain⟨f',args',rfl⟩:=hg0;have hgo:ki g S.fr:=hst.1;replace hst:(match f'.ev S.fr with| .fn (.func g) first cap=>kS P g (first++args'.map (bw.ev S.fr)++cap) S.rows K Kp|_=>False):=hst.2;have hwant:=tl hg hgo hf;rw[if_pos hwant];refine⟨fun _ _=>trivial,?_⟩;unfold qw at hac;split at hac
 ·rename_i f args argTypes hop;split at hac
  ·injection hac with h;cases h
  obtain⟨f2,hf',hac⟩:=ab.1 hac;obtain⟨args2,ha',hac⟩:=aa.1 hac;injection hac with e1 e2;subst e1 e2
  have hfr:=hopd f f2 hf';rw[Oper.semAt_eq _ _ _ (fun c ho=>by rw[hop]at ho;cases ho)];split at hst
  ·rename_i n first cap e1
   rw[e1]at hfr;obtain⟨hent,hinl⟩:=hst;obtain⟨hal,har⟩:=mG (c:=⟨ρ,I,S.rows,w⟩) hopd ha';generalize hfv:a.eval f=fv at hfr;cases hfr with|fn _ fs cps _ _ h1 h2 h3 h4=>
   obtain⟨fn,hfn,hnm,hbd⟩:=hent;have hrun:(execOp a.eval o).run P w=.ok (.enter n (fs++args.map a.eval++cps)) w:=by
    have hnm':¬fn.name= "runtime.NumGoroutine" :=by simpa using hnm
    have hbd':¬fn.body=none:=fun e=>by rw[e]at hbd;simp at hbd
    unfold execOp;rw[hop];simp[resolve,hfv,Deferred.ofValue,invoke,callFunc,hfn,hnm',hbd']
   rw[hrun,Oper.uponIn_enter];have hargs:dX ⟨ρ,I,S.rows,w⟩ (fs++args.map a.eval++cps).toList (first++args2.map (bw.ev S.fr)++cap):=by
    refine⟨by simp at hal|-;omega,fun j v x hv hx=>?_⟩;simp only[Array.toList_append]at hx;rw[List.getElem?_append]at hv hx;simp only[az,Array.length_toList]at hv hx;by_cases c1:j<fs.size+(args.map a.eval).size
    ·have c2:j<first.length+(args2.map (bw.ev S.fr)).length:=om
     rw[if_pos c2]at hv;rw[if_pos c1,List.getElem?_append]at hx;rw[List.getElem?_append]at hv;simp only[Array.length_toList]at hx;by_cases c3:j<fs.size
     ·rw[if_pos c3]at hx;rw[if_pos om]at hv;exact h3 j v x hv (by simpa using hx)
     ·rw[if_neg c3]at hx;rw[if_neg om]at hv;rw[<-h1]at hv;exact har _ v x hv (by simpa using hx)
    ·have c2:¬j<first.length+(args2.map (bw.ev S.fr)).length:=om
     rw[if_neg c2]at hv;rw[if_neg c1]at hx;have c3:j-(first.length+(args2.map (bw.ev S.fr)).length)=j-(fs.size+(args.map a.eval).size):=om;rw[c3]at hv;exact h4 _ v x hv (by simpa using hx)
   refine⟨fun h=>by simp[jY]at h,pf ((hinl ⟨ρ,I,S.rows,w⟩ _ ok (bf.pD hx hG) rfl hargs).mono ?_)⟩;rintro e w' (⟨u,c',v,rfl,rfl,ok',hx',hrep,hk⟩|⟨ch,c',rfl,rfl,ok',hx',hk⟩)
   rotate_left
   ·exact hKp ch c'.rows _ hk ⟨c'.ρ,c'.I,ok',hx.trans hx',hd.mono hx',hl,fun i=>(hf i).mono hx' ok⟩
   refine hK v c'.rows _ _ hk ?_;have hfr':∀i,b7 c' (a.tmps.getD i undef) (nth S.fr i):=fun i=>(hf i).mono hx' ok;exact Sat.put (c0:=c0) (S:=⟨S.fr,c'.rows⟩) (a:=a) (w:=c'.w) (ρ:=c'.ρ) (I:=c'.I) (rows:=c'.rows) ok' (hx.trans hx') (hd.mono hx') hl hfr' o.dst (u:=u) (v:=v) hrep
  ·exact hst.elim
 ·obtain⟨_,_,h⟩:=aa.1 hac;cases h
 ·injection hac with h;cases h
theorem A0{ro:Option Nat}{ops:Array Oper}{o:Oper}{hi:Nat}{s:bn}{S:St}{K:V->Rows->Prop}{c0:Cx}{a:Act}{w:World}{K':Act->World->Prop}{Q:Exit->Act->World->Prop} (hc:jk P ops o hi=some s) (hst:KL P s S K) (hsat:Sat c0 S a w) (hG:bf.G c0) (hK:∀v rows' a' w',K v rows'->Sat c0 ⟨eg S.fr s.dst v,rows'⟩ a' w'->K' a' w'):if Region.wanted o (yielded ops a.tmps)then o.wpIn (jY ro) 0 P a w K' Q else(∀f,o.about P w a.eval=some f->(jY ro).fn f)/\K' (a.put o.dst undef) w:=by
 refine lB (Kp:=fun _ _=>False) hc ?_ hsat hG hK (fun _ _ _ h=>h.elim);unfold KL at hst;unfold qt;split at hst
 ·refine⟨hst.1,?_⟩;have h2:=hst.2;split at h2
  ·exact kS.of h2
  ·exact h2.elim
 ·exact hst.elim
theorem tt{ro:Option Nat}{ops:Array Oper}{o:Oper}{hi:Nat}{s:bn}{S:St}{Kp:List PanicEntry->List (Nat×bd)->Prop}{c0:Cx}{a:Act}{w:World}{K':Act->World->Prop}{Q:Exit->Act->World->Prop} (hc:jk P ops o hi=some s) (hst:oM P s S Kp) (hsat:Sat c0 S a w) (hG:bf.G c0) (hKp:∀ch ups w',Kp ch ups->Sat c0 ⟨S.fr,bq S.rows ups⟩ a w'->Q (.panic ch) a w'):if Region.wanted o (yielded ops a.tmps)then o.wpIn (jY ro) 0 P a w K' Q else(∀f,o.about P w a.eval=some f->(jY ro).fn f)/\K' (a.put o.dst undef) w:=by
 cases hs:s.act with
 |op x=>unfold oM at hst;rw[hs]at hst;exact hst.2.elim
 |call f args=>
  unfold oM at hst;rw[hs]at hst;obtain⟨hg,hst⟩:=hst;refine lB (K:=fun _ _=>False) (Kp:=fun ch rows'=>∃ups,Kp ch ups/\rows'=bq S.rows ups) hc ?_ hsat hG (fun _ _ _ _ h=>h.elim) ?_
  ·unfold qt;rw[hs];refine⟨hg,?_⟩;simp only at hst;split at hst
   ·obtain⟨ch,ups,h1,h2⟩:=hst;rcases h1 with h1|⟨_,_,h1⟩
    rotate_left
    ·refine⟨h1.1,fun c args' ok' hG' hr ha=>(h1.2 c args' ok' hG' hr ha).mono ?_⟩;rintro e w' (⟨_,_,_,_,_,_,_,_,hf⟩|⟨ch',c',e1,e2,e3,e4,rfl,e5⟩)
     ·exact hf.elim
     ·exact .inr ⟨ch',c',e1,e2,e3,e4,ups,h2,e5⟩
    refine⟨h1.enters,fun c args' ok' _ hr ha=>?_⟩;rw[<-hr]at h1;refine(uI ok' ha h1).mono ?_;rintro e w' ⟨c',e1,e2,e3,e4,e5⟩;rw[hr]at e5;exact .inr ⟨ch,c',e1,e2,e3,e4,ups,h2,e5⟩
   ·exact hst.elim
  ·rintro ch rows' w' ⟨ups,h1,rfl⟩ hs';exact hKp ch ups w' h1 hs'
 |fL x=>
  unfold oM at hst;rw[hs]at hst;obtain⟨hgo,hst⟩:=hst;obtain⟨g,hg,hc⟩:=ab.1 hc;obtain⟨ac,hac,rfl⟩:=aa.1 hc;simp only at hs hgo;subst hs;have hsat0:=hsat;obtain⟨ρ,I,ok,hx,hd,hl,hf⟩:=hsat;have hopd:=n9 ok hf;have hwant:=tl hg hgo hf;rw[if_pos hwant];refine⟨fun _ _=>trivial,?_⟩;unfold qw at hac;split at hac
  ·split at hac
   ·injection hac with h;cases h
   ·obtain⟨_,_,h⟩:=ab.1 hac;obtain⟨_,_,h⟩:=aa.1 h;cases h
  ·rename_i y hop;obtain⟨x2,hx2,h⟩:=aa.1 hac;injection h with h;subst h
   rw[Oper.semAt_eq _ _ _ (fun c ho=>by rw[hop]at ho;cases ho)];have hr:=hopd y x2 hx2;simp only at hst;split at hst
   ·rename_i T u e1;rw[e1]at hr;generalize hfv:a.eval y=fv at hr;cases hr with|gV _ _ _ he=>
    have he:fv=.iface T (.agg u):=he;subst he;have hrun:(execOp a.eval o).run P w=.halt (.panic (.iface T (.agg u))) w:=by unfold execOp;rw[hop];simp[hfv,Instr.panic]
    rw[hrun,Oper.uponIn_panic];exact hKp _ _ w hst hsat0
   ·exact hst.elim
  ·injection hac with h;cases h
end
def Gh:Option bw->List bw
 |none=>[]
 |some x=>[x]
def iE.dY:iE->List bw
 | .gC x=>[x]| .pick c a b=>[c,a,b]| .g7 x=>[x]| .bin _ x y=>[x,y]| .Ft _ x y=>[x,y]| .FK _ _ x y=>[x,y]| .isNil _ x y=>[x,y]| .un _ x=>[x]| .conv _ x=>[x]| .same x=>[x]| .HI x=>[x]| .BW x=>[x]
 | .alloc _=>[]| .box _ x=>[x]| .build _ ps=>ps.map (·.2.2)| .b5 _ _ _ ps=>ps.map (·.2)| .load _ _ a=>[a]| .store _ a x=>[a,x]| .jH _ _ _ l c=>[l,c]
 | .slice _ x lo hi=>x::(Gh lo++Gh hi)| .nf _ x=>[x]| .H8 _ _ _ x=>[x]| .fD _ _ x i=>[x,i]| .idx _ _ _ x i=>[x,i]| .iL x i=>[x,i]| .ext x _=>[x]
 | .eG _ a b=>a++b| .len _ x=>[x]| .append _ _ s x=>[s,x]| .copy _ d s=>[d,s]| .Gf _ _ x=>[x]| .mn x y=>[x,y]| .mx x y=>[x,y]
 | .Jo x y z=>[x,y,z]| .JI x y z=>[x,y,z]| .cap x=>[x]| .clip _ x h m=>[x,h,m]| .sM _ _ _ s x=>[s,x]| .qi _ x=>[x]| .xq _ _ x=>[x]| .nu _ x=>[x]| .q7 _=>[]| .DK _ _ _ m k=>[m,k]| .B9 _ m k v=>[m,k,v]
 | .bad=>[]| .iI x y=>[x,y]| .qB x=>[x]| .FO x=>[x]| .mz=>[]| .BV _ _ m k=>[m,k]| .DC m k v=>[m,k,v]
section
variable{ev ev':bw->V}{rows rows':Rows}
theorem pb:∀(ps:List (Nat×Nat×bw)) (cells:List V) (K:List V->Prop),(∀x∈ps.map (·.2.2),ev x=ev' x)->(iW ev ps cells K↔iW ev' ps cells K)
 |[],_,_,_=>Iff.rfl
 |(off,sz,x)::ps,cells,K,h=>by simp only[iW];rw[h x sm];refine and_congr Iff.rfl ⟨fun hh=>(eH _ _).mono _ _ (fun cs hc=>(pb ps _ K (fun y hy=>h y (by simp at hy|-;exact .inr hy))).1 hc) hh,fun hh=>(eH _ _).mono _ _ (fun cs hc=>(pb ps _ K (fun y hy=>h y (by simp at hy|-;exact .inr hy))).2 hc) hh⟩
theorem nV(sz:Nat):∀(ps:List (Nat×bw)) (es:List (List V)) (K:List (List V)->Prop),(∀x∈ps.map (·.2),ev x=ev' x)->(gl ev sz ps es K↔gl ev' sz ps es K)
 |[],_,_,_=>Iff.rfl
 |(i,x)::ps,es,K,h=>by simp only[gl];rw[h x sm];refine and_congr Iff.rfl ⟨fun hh=>(eH _ _).mono _ _ (fun cs hc=>(nV sz ps _ K (fun y hy=>h y (by simp at hy|-;exact .inr hy))).1 hc) hh,fun hh=>(eH _ _).mono _ _ (fun cs hc=>(nV sz ps _ K (fun y hy=>h y (by simp at hy|-;exact .inr hy))).2 hc) hh⟩
theorem z5{o:Option bw}(h:∀x∈Gh o,ev x=ev' x)(d:Int)(K:Int->Prop):jT ev o d K=jT ev' o d K:=by
 cases o with
 |none=>rfl
 |some x=>simp only[jT,h x (by simp[Gh])]
theorem Fu(o:iE)(h:∀x∈o.dY,ev x=ev' x)(hf:Nat)(K:V->List (Nat×bd)->Prop):bU o ev rows hf K↔bU o ev' rows hf K:=by
 cases o with
 |build z ps=>simp only[bU];exact pb ps _ _ h
 |b5 sz len z ps=>simp only[bU];exact nV sz ps _ _ h
 |eG f a b=>simp only[bU];rw[List.map_congr_left (fun x hx=>h x (by simp[iE.dY,hx])),List.map_congr_left (l:=b) (fun x hx=>h x (by simp[iE.dY,hx]))]
 |slice sz x lo hi=>simp only[bU];rw[h x (by simp[iE.dY])];have h1:∀d K,jT ev lo d K=jT ev' lo d K:=z5 (fun y hy=>h y (by simp[iE.dY,hy]));have h2:∀d K,jT ev hi d K=jT ev' hi d K:=z5 (fun y hy=>h y (by simp[iE.dY,hy]));simp only[h1,h2]
 |_=>simp only[iE.dY,aP,List.not_mem_nil,or_false,forall_eq_or_imp,forall_eq]at h;simp only[bU,h]
theorem fc{h sz n:Nat}(e:rows[h]? =rows'[h]?)(hl:fA rows h sz n):fA rows' h sz n:=by obtain⟨es,h1,h2⟩:=hl;exact⟨es,e.symm.trans h1,h2⟩
theorem nQ{sz:Nat}{v:V}{K:List (List V)->Prop}(e:∀h∈fe v,rows[h]? =rows'[h]?)(hw:eF rows sz v K):eF rows' sz v K:=by
 unfold eF at hw|-;split at hw
 ·exact hw
 ·exact hw
 ·exact hw
 ·rename_i s h n off len;have e':=e h (by simp[fe]);refine⟨hw.1,?_,fun es he=>hw.2.2 es (e'.trans he)⟩;obtain⟨es,h1,h2⟩:=hw.2.1;exact⟨es,e'.symm.trans h1,h2⟩
 ·exact hw
theorem DE(o:iE)(h:∀x∈o.dY,∀g∈fe (ev x),rows[g]? =rows'[g]?)(hf:Nat)(K:V->List (Nat×bd)->Prop)(hw:bU o ev rows hf K):bU o ev rows' hf K:=by
 cases o with
 |g7 x=>
  simp only[bU]at hw|-;split at hw
  ·exact hw
  ·rename_i e;exact⟨fc (h x (by simp[iE.dY]) _ (by rw[e];simp[fe])) hw.1,hw.2⟩
  ·exact hw
  ·exact hw
 |isNil neg x y=>
  simp only[bU]at hw|-;split at hw
  ·exact hw
  ·exact hw
  ·exact hw
  ·rename_i e _;exact⟨fc (h x (by simp[iE.dY]) _ (by rw[e];simp[fe])) hw.1,hw.2⟩
  ·exact hw
 |BW x=>exact⟨hw.1,nQ (h x (by simp[iE.dY])) hw.2⟩
 |load agg sz a=>
  simp only[bU]at hw|-;split at hw
  ·exact hw
  ·rename_i e;have e':=h a (by simp[iE.dY]) _ (by rw[e];simp[fe];rfl);exact⟨fc e' hw.1,hw.2.1,hw.2.2.1,fun es e1 h1 h2=>hw.2.2.2 es e1 (e'.trans h1) h2⟩
  ·exact hw
 |store sz a x=>
  simp only[bU]at hw|-;split at hw
  ·rename_i e;have e':=h a (by simp[iE.dY]) _ (by rw[e];simp[fe];rfl);exact⟨fc e' hw.1,hw.2.1,hw.2.2.1,(eH _ _).mono _ _ (fun cs hc es e1 h1 h2=>hc es e1 (e'.trans h1) h2) hw.2.2.2⟩
  ·exact hw
 |slice sz x lo hi=>
  simp only[bU]at hw|-;split at hw
  ·exact hw
  ·exact hw
  ·exact hw
  ·rename_i e;exact⟨hw.1,hw.2.1,fc (h x (by simp[iE.dY]) _ (by rw[e];simp[fe])) hw.2.2.1,hw.2.2.2⟩
  ·exact hw
 |nf off x=>
  simp only[bU]at hw|-;split at hw
  ·exact hw
  ·rename_i e;exact⟨fc (h x (by simp[iE.dY]) _ (by rw[e];simp[fe])) hw.1,hw.2⟩
  ·exact hw
 |fD sz arr x i=>
  simp only[bU]at hw|-;refine(fp _).mono _ _ (fun j hj=>?_) hw;split at hj
  ·exact hj
  ·rename_i e;exact⟨hj.1,fc (h x (by simp[iE.dY]) _ (by rw[e];simp[fe])) hj.2.1,hj.2.2⟩
  ·exact hj
  ·rename_i e;exact⟨fc (h x (by simp[iE.dY]) _ (by rw[e];simp[fe])) hj.1,hj.2⟩
  ·exact hj
 |len str x=>
  simp only[bU]at hw|-;split at hw
  ·exact hw
  ·exact hw
  ·exact hw
  ·rename_i e;exact⟨fc (h x (by simp[iE.dY]) _ (by rw[e];simp[fe])) hw.1,hw.2⟩
  ·exact hw
 |append sz bytes s x=>
  simp only[bU]at hw|-;refine(jq _ _ _).mono _ _ (fun xs hx=>?_) (nQ (h x (by simp[iE.dY])) hw);split at hx
  ·exact hx
  ·exact hx
  ·rename_i e;have e':=h s (by simp[iE.dY]) _ (by rw[e];simp[fe];rfl);obtain⟨a1,a2,a3,a4,a5,a6⟩:=hx;exact⟨a1,a2,a3,fc e' a4,a5,fun es he=>a6 es (e'.trans he)⟩
  ·exact hx
 |copy sz d s=>
  simp only[bU]at hw|-;refine(jq _ _ _).mono _ _ (fun xs hx=>?_) (nQ (h s (by simp[iE.dY])) hw);split at hx
  ·exact hx
  ·rename_i e;have e':=h d (by simp[iE.dY]) _ (by rw[e];simp[fe];rfl);exact⟨hx.1,fc e' hx.2.1,fun es he=>hx.2.2 es (e'.trans he)⟩
  ·exact hx
 |Gf sz z x=>
  simp only[bU]at hw|-;split at hw
  ·rename_i e;have e':=h x (by simp[iE.dY]) _ (by rw[e];simp[fe];rfl);exact⟨hw.1,fc e' hw.2.1,hw.2.2.1,fun es he=>hw.2.2.2 es (e'.trans he)⟩
  ·exact hw
 |FO x=>
  simp only[bU]at hw|-;split at hw
  ·rename_i e;rw[<-h x (by simp[iE.dY]) _ (by rw[e];simp[fe])];exact hw
  ·exact hw
 |BV ok z m k=>
  simp only[bU]at hw|-;split at hw
  ·rename_i e _;rw[<-h m (by simp[iE.dY]) _ (by rw[e];simp[fe])];exact hw
  ·exact hw
  ·exact hw
 |DK n ok z m k=>
  simp only[bU]at hw|-;split at hw
  ·rename_i e _;rw[<-h m (by simp[iE.dY]) _ (by rw[e];simp[fe])];exact hw
  ·exact hw
 |B9 n m k v=>
  simp only[bU]at hw|-;split at hw
  ·rename_i e _ _;rw[<-h m (by simp[iE.dY]) _ (by rw[e];simp[fe])];exact hw
  ·exact hw
 |DC m k v=>
  simp only[bU]at hw|-;split at hw
  ·rename_i e _ _;rw[<-h m (by simp[iE.dY]) _ (by rw[e];simp[fe])];exact hw
  ·exact hw
 |_=>exact hw
theorem ij{v:V}(e:∀h∈fe v,rows[h]? =rows'[h]?):eR rows v=eR rows' v:=by
 unfold eR;split
 ·rename_i h n off len;rw[e h (by simp[fe])]
 ·rename_i h n off len;rw[e h (by simp[fe])]
 ·rfl
theorem tK{v:V}(e:∀h∈fi v,rows[h]? =rows'[h]?):dJ rows v=dJ rows' v:=by
 cases v with
 |agg cs=>simp only[dJ];rw[List.map_congr_left fun x hx=>ij fun h hh=>e h (by simp only[fi,List.mem_flatMap];exact⟨x,hx,hh⟩)]
 |any=>exact ij (v:=.any) e
 |d x=>exact ij (v:=.d x) e
 |cl a b c d f=>exact ij (v:=.cl a b c d f) e
 |aY a b c d f=>exact ij (v:=.aY a b c d f) e
 |cm a=>rfl
 |gV T u=>rfl
 |fn f a b=>simp only[dJ];rw[List.map_congr_left fun x hx=>ij fun h hh=>e h (by simp only[fi,List.mem_flatMap,aU];exact⟨x,.inl hx,hh⟩),List.map_congr_left (l:=b) fun x hx=>ij fun h hh=>e h (by simp only[fi,List.mem_flatMap,aU];exact⟨x,.inr hx,hh⟩)]
theorem iR{v:V}(e:∀h∈fe v,rows[h]? =rows'[h]?)(h:eu rows v):eu rows' v:=by
 cases v with
 |cl sz g n off len=>obtain⟨h1,es,h2,h3⟩:=h;exact⟨h1,es,(e g (by simp[fe])).symm.trans h2,h3⟩
 |aY sz g n i off=>obtain⟨es,e',h2,h3⟩:=h;exact⟨es,e',(e g (by simp[fe])).symm.trans h2,h3⟩
 |_=>exact h
theorem sk{v:V}(e:∀h∈fi v,rows[h]? =rows'[h]?)(h:dN rows v):dN rows' v:=by
 cases v with
 |agg cs=>exact fun x hx=>iR (fun g hg=>e g (by simp only[fi,List.mem_flatMap];exact⟨x,hx,hg⟩)) (h x hx)
 |cl a b c d f=>exact iR (v:=.cl a b c d f) e h
 |aY a b c d f=>exact iR (v:=.aY a b c d f) e h
 |fn f a b=>exact⟨fun x hx=>iR (fun g hg=>e g (by simp only[fi,List.mem_flatMap,aU];exact⟨x,.inl hx,hg⟩)) (h.1 x hx),fun x hx=>iR (fun g hg=>e g (by simp only[fi,List.mem_flatMap,aU];exact⟨x,.inr hx,hg⟩)) (h.2 x hx)⟩
 |_=>exact h
theorem BJ{P:Program}{f:FuncId}{vals:List V}{v:V}(e:∀x∈vals,∀h∈fi x,rows[h]? =rows'[h]?)(h:zR P f vals rows v):zR P f vals rows' v:=by
 rcases h with h|⟨h1,h2,h3⟩
 ·exact .inl h
 ·refine .inr ⟨fun x hx=>sk (e x hx) (h1 x hx),h2,?_⟩;rw[<-List.map_congr_left fun x hx=>tK (e x hx)];exact h3
theorem tj{P:Program}{f:FuncId}{vals:List V}{v:V}{ups:List (Nat×bd)}(e:∀x∈vals,∀h∈fi x,rows[h]? =rows'[h]?)(h:nr P f vals rows v ups):nr P f vals rows' v ups:=by
 rcases h with⟨h,rfl⟩|⟨⟨h1,h2⟩,rfl⟩|⟨h0,sz,es,es',vals0,v0,hrow,hd,hd',hl,hv,hz,hin,hm,hv2,hu⟩
 ·exact .inl ⟨BJ e h,rfl⟩
 rotate_left
 ·obtain⟨x,hx1,hx2⟩:=List.mem_flatMap.1 hin;exact .inr (.inr ⟨h0,sz,es,es',vals0,v0,(e x hx1 h0 hx2).symm.trans hrow,hd,hd',hl,hv,hz,hin,hm,hv2,hu⟩)
 ·refine .inr (.inl ⟨⟨fun x hx=>sk (e x hx) (h1 x hx),?_⟩,rfl⟩);rw[<-List.map_congr_left fun x hx=>tK (e x hx)];exact h2
end
theorem rE{rows rows':Rows}{P:Program}{f:FuncId}{vals:List V}{ch:List PanicEntry}{ups:List (Nat×bd)}(e:∀x∈vals,∀h∈fi x,rows[h]? =rows'[h]?)(h:lh P f vals rows ch ups):lh P f vals rows' ch ups:=by obtain⟨h0,sz,es,vals0,hrow,hd,hv,hz,hin,hm,hu⟩:=h;obtain⟨x,hx1,hx2⟩:=List.mem_flatMap.1 hin;exact⟨h0,sz,es,vals0,(e x hx1 h0 hx2).symm.trans hrow,hd,hv,hz,hin,hm,hu⟩
def ep.dY:ep->List bw
 | .op o=>o.dY
 | .call f args=>f::args
 | .fL x=>[x]
def bn.reads(s:bn):List Nat:=(s.act.dY.filterMap fun x=>match x with| .t i=>some i| .k _=>none)++(match s.guard with|none=>[]|some (t,_)=>[t])
def bn.makes(s:bn):Bool:=match s.act with| .op o=>o.makes| .call _ _=>false| .fL _=>false
def iE.bare:iE->Bool
 | .gC _=>true
 |_=>false
def xJ(l:List Nat):List Nat:=if l.isEmpty then[]else l++List.range 64
theorem tD{l:List Nat}{g:Nat}(h:g∈l):g∈xJ l:=by
 unfold xJ;cases l with
 |nil=>simp at h
 |cons x l=>simp at h|-;rcases h with h|h<;>simp[h]
theorem mZ{l:List Nat}{g:Nat}(h:l.isEmpty=false)(hg:g<64):g∈xJ l:=by unfold xJ;rw[h];simp[hg]
def bn.ng(s:bn)(base:Nat)(fr:List V):List Nat:=match s.act with
 | .op o=>if o.bare then[]else(if o.makes then[base+s.hi]else[])++(o.dY.map (bw.ev fr)).flatMap fe
 | .call f args=>match f.ev fr with
  | .fn (.yield _) _ _=>List.range 64
  | .fn _ first cap=>xJ ((first++args.map (bw.ev fr)++cap).flatMap fi)
  |_=>[]
 | .fL _=>[]
section
variable[bf]{P:Program}{base:Nat}{s:bn}{S S':St}
theorem uN(h:∀t∈s.reads,nth S'.fr t=nth S.fr t):∀x∈s.act.dY,bw.ev S.fr x=bw.ev S'.fr x:=by
 intro x hx;cases x with
 |t i=>exact(h i (by unfold bn.reads;exact List.mem_append_left _ (List.mem_filterMap.2 ⟨.t i,hx,rfl⟩))).symm
 |k v=>rfl
theorem zq{K:V->List (Nat×bd)->Prop}(h:∀t∈s.reads,nth S'.fr t=nth S.fr t)(hr:∀g∈s.ng base S.fr,S'.rows[g]? =S.rows[g]?)(hw:iU P base s S K):iU P base s S' K:=by
 have he:=uN h;unfold bn.ng at hr;unfold iU at hw|-;cases hact:s.act with
 |op o=>
  simp only[hact]at hw hr|-;rw[hact]at he;cases hb:o.bare with
  |true=>
   obtain⟨x,rfl⟩:∃x,o=.gC x:=by cases o<;>first|exact⟨_,rfl⟩|exact Bool.noConfusion hb
   refine⟨fun hm=>Bool.noConfusion hm,?_⟩;rw[<-Fu (.gC x) he];exact hw.2
  |false=>
  rw[hb]at hr;simp only[Bool.false_eq_true,if_false]at hr;refine⟨fun hm=>?_,?_⟩
  ·rw[hr _ (by simp[hm])];exact hw.1 hm
  ·rw[<-Fu o he];refine DE o (fun x hx g hg=>(hr g ?_).symm) _ _ hw.2;exact List.mem_append_right _ (List.mem_flatMap.2 ⟨_,List.mem_map_of_mem hx,hg⟩)
 |call f args=>
  simp only[hact]at hw hr|-;rw[hact]at he;simp only[ep.dY]at he;rw[<-he f sm,<-List.map_congr_left (fun x hx=>he x (by simp[hx]))];unfold pW at hw|-;split at hw
  ·rename_i n first cap e1
   simp only[e1]at hr;obtain⟨v,ups,h1,h2⟩:=hw;rcases h1 with h1|h1
   ·exact⟨v,ups,.inl (tj (fun x hx g hg=>(hr g (tD (List.mem_flatMap.2 ⟨x,hx,hg⟩))).symm) h1),h2⟩
   have he:S'.rows=S.rows:=by
    have hl:=h1.1;have hn:=hr S.rows.length (mZ h1.2.2.1 hl);rw[aA (aq _)]at hn;have hlen:=List.getElem?_eq_none_iff.1 hn;refine List.ext_getElem? fun g=>?_;by_cases hg:g<64
    ·exact hr g (mZ h1.2.2.1 hg)
    ·rw[aA om,aA om]
   rw[he];exact⟨v,ups,.inr h1,h2⟩
  ·rename_i l first cap e1
   simp only[e1]at hr;obtain⟨v,ups,h1,h2⟩:=hw;have he:S'.rows=S.rows:=by
    have hl:=h1.1;have hn:=hr S.rows.length (List.mem_range.2 hl);rw[aA (aq _)]at hn;have hlen:=List.getElem?_eq_none_iff.1 hn;refine List.ext_getElem? fun g=>?_;by_cases hg:g<64
    ·exact hr g (List.mem_range.2 hg)
    ·rw[aA om,aA om]
   rw[he];exact⟨v,ups,h1,h2⟩
  ·exact hw
 |fL x=>simp only[hact]at hw
theorem EO{v:V}{ups:List (Nat×bd)}(h:∀t∈s.reads,nth S'.fr t=nth S.fr t)(hr:∀g∈s.ng base S.fr,S'.rows[g]? =S.rows[g]?)(hw:gO P base s S v ups):gO P base s S' v ups:=by
 unfold gO at hw|-;cases hg:s.guard with
 |none=>simp only[hg]at hw|-;exact zq h hr hw
 |some tw=>
  obtain⟨t,want⟩:=tw;simp only[hg]at hw|-;rw[h t (by unfold bn.reads;rw[hg];simp)];split at hw
  ·rename_i b e;rcases hw with⟨h1,h2⟩|h2
   ·exact .inl ⟨h1,zq h hr h2⟩
   ·exact .inr h2
  ·exact hw
  ·exact hw.elim
theorem zK{Kp:List PanicEntry->List (Nat×bd)->Prop}(h:∀t∈s.reads,nth S'.fr t=nth S.fr t)(hr:∀g∈s.ng base S.fr,S'.rows[g]? =S.rows[g]?)(hw:oM P s S Kp):oM P s S' Kp:=by
 have he:=uN h;unfold oM at hw|-;obtain⟨hg,hw⟩:=hw;refine⟨?_,?_⟩
 ·unfold ki at hg|-;split at hg
  ·trivial
  ·rename_i t want e;rw[h t (by unfold bn.reads;rw[e];simp)];exact hg
 ·unfold bn.ng at hr;cases hact:s.act with
  |op o=>rw[hact]at hw;exact hw
  |call f args=>
   simp only[hact]at hw hr|-;rw[hact]at he;simp only[ep.dY]at he;rw[<-he f sm,<-List.map_congr_left (fun x hx=>he x (by simp[hx]))];split at hw
   ·rename_i g first cap e1
    simp only[e1]at hr|-;obtain⟨ch,ups,h1,h2⟩:=hw;rcases h1 with h1|h1
    ·exact⟨ch,ups,.inl (rE (fun x hx g hg=>(hr g (tD (List.mem_flatMap.2 ⟨x,hx,hg⟩))).symm) h1),h2⟩
    have he:S'.rows=S.rows:=by
     have hl:=h1.1;have hn:=hr S.rows.length (mZ h1.2.1 hl);rw[aA (aq _)]at hn;have hlen:=List.getElem?_eq_none_iff.1 hn;refine List.ext_getElem? fun g=>?_;by_cases hg:g<64
     ·exact hr g (mZ h1.2.1 hg)
     ·rw[aA om,aA om]
    rw[he];exact⟨ch,ups,.inr h1,h2⟩
   ·exact hw.elim
  |fL x=>simp only[hact]at hw|-;rw[hact]at he;rw[<-he x (by simp[ep.dY])];exact hw
end
def Ck[bf](P:Program)(g:Option (Nat×Bool))(act:ep)(fr:List V)(rows:Rows)(v:V)(ups:List (Nat×bd))(F:List Nat):Prop:=g=none/\match act with
 | .call f args=>match f.ev fr with
  | .fn (.func n) first cap=>nr P n (first++args.map (bw.ev fr)++cap) rows v ups/\F=(first++args.map (bw.ev fr)++cap).flatMap fi
  |_=>False
 |_=>False
def AL[bf](P:Program)(act:ep)(fr:List V)(rows:Rows)(ch:List PanicEntry)(ups:List (Nat×bd))(F:List Nat):Prop:=match act with
 | .call f args=>match f.ev fr with
  | .fn (.func n) first cap=>lh P n (first++args.map (bw.ev fr)++cap) rows ch ups/\F=(first++args.map (bw.ev fr)++cap).flatMap fi
  |_=>False
 |_=>False
section
variable[bf]{P:Program}{base:Nat}{s:bn}{S S':St}
def xD(P:Program)(base:Nat)(s:bn)(S:St)(v:V)(ups:List (Nat×bd))(F:List Nat):Prop:=gO P base s S v ups/\(F=s.ng base S.fr\/Ck P s.guard s.act S.fr S.rows v ups F)
theorem A5{v:V}{ups:List (Nat×bd)}{F:List Nat}(h:∀t∈s.reads,nth S'.fr t=nth S.fr t)(hr:∀g∈F,S'.rows[g]? =S.rows[g]?)(hw:xD P base s S v ups F):gO P base s S' v ups:=by
 obtain⟨h1,rfl|⟨h2,h3⟩⟩:=hw
 ·exact EO h hr h1
 have he:=uN h;unfold gO;rw[h2];unfold iU;cases hact:s.act with
 |op o=>rw[hact]at h3;exact h3.elim
 |fL x=>rw[hact]at h3;exact h3.elim
 |call f args=>
  rw[hact]at h3 he;simp only[ep.dY]at he;simp only at h3|-;rw[<-he f sm,<-List.map_congr_left (fun x hx=>he x (by simp[hx]))];unfold pW;split at h3
  ·rename_i n first cap e1
   obtain⟨h4,rfl⟩:=h3;simp only[e1];exact⟨v,ups,.inl (tj (fun x hx g hg=>(hr g (List.mem_flatMap.2 ⟨x,hx,hg⟩)).symm) h4),rfl,rfl⟩
  ·exact h3.elim
theorem Fe{ch:List PanicEntry}{ups:List (Nat×bd)}{F:List Nat}{Kp:List PanicEntry->List (Nat×bd)->Prop}(h:∀t∈s.reads,nth S'.fr t=nth S.fr t)(hr:∀g∈F,S'.rows[g]? =S.rows[g]?)(hg:ki s.guard S.fr)(hw:AL P s.act S.fr S.rows ch ups F)(hk:Kp ch ups):oM P s S' Kp:=by
 have he:=uN h;unfold oM;refine⟨?_,?_⟩
 ·unfold ki at hg|-;split at hg
  ·trivial
  ·rename_i t want e;rw[h t (by unfold bn.reads;rw[e];simp)];exact hg
 ·unfold AL at hw;cases hact:s.act with
  |op o=>rw[hact]at hw;exact hw.elim
  |fL x=>rw[hact]at hw;exact hw.elim
  |call f args=>
   rw[hact]at hw he;simp only[ep.dY]at he;simp only at hw|-;rw[<-he f sm,<-List.map_congr_left (fun x hx=>he x (by simp[hx]))];split at hw
   ·rename_i e1;obtain⟨h4,rfl⟩:=hw;simp only[e1];exact⟨ch,ups,.inl (rE (fun x hx g hg=>(hr g (List.mem_flatMap.2 ⟨x,hx,hg⟩)).symm) h4),hk⟩
   ·exact hw.elim
end
def dP(P:Program)(ops:Array Oper):List Oper->Nat->Option (List bn)
 |[],_=>some []
 |o::l,n=>(jk P ops o n).bind fun s=>(dP P ops l (if s.makes then n+1 else n)).map fun r=>s::r
def yV:List bn->Nat
 |[]=>0
 |s::l=>(if s.makes then 1 else 0)+yV l
section
variable[bf]{P:Program}{ops:Array Oper}{Q:Exit->Act->World->Prop}{c0:Cx}{base:Nat}{ro:Option Nat}
theorem mM:∀(l:List Oper) (n:Nat) (sl:List bn) (K:St->Prop) (S:St) (a:Act) (w:World),dP P ops l n=some sl->jG P base sl K S->Sat c0 S a w->bf.G c0->(∀S' a' w',K S'->Sat c0 S' a' w'->Q .normal a' w')->wpListIn (jY ro) 0 P ops Q l a w
 |[],n,sl,K,S,a,w,hc,hw,hs,hG,hk=>by
  injection hc with hc;subst hc
  exact hk S a w hw hs
 |o::l,n,sl,K,S,a,w,hc,hw,hs,hG,hk=>by
  obtain⟨s,h1,hc⟩:=ab.1 hc;obtain⟨r,h2,rfl⟩:=aa.1 hc;obtain⟨v,ups,hst,hrest⟩:=oK hw;have:=mP (ro:=ro) (K':=wpListIn (jY ro) 0 P ops Q l) (Q:=Q) h1 hst hs hG (fun a' w' hs'=>mM l _ r K _ a' w' h2 hrest hs' hG hk);unfold wpListIn;split
  ·rename_i hw';rw[if_pos hw']at this;exact this
  ·rename_i hw';rw[if_neg hw']at this;exact this
theorem nU:∀(l:List Oper) (n:Nat) (fl:List Bool) (sl:List bn) (K:St->Prop) (S:St) (a:Act) (w:World),dP P ops l n=some sl->jf P base fl sl K S->Sat c0 S a w->bf.G c0->(∀S' a' w',K S'->Sat c0 S' a' w'->Q .normal a' w')->wpListIn (jY ro) 0 P ops Q l a w
 |[],n,fl,sl,K,S,a,w,hc,hw,hs,hG,hk=>by
  injection hc with hc;subst hc
  exact hk S a w (by cases fl<;>simpa[jf]using hw) hs
 |o::l,n,fl,sl,K,S,a,w,hc,hw,hs,hG,hk=>by
  obtain⟨s,h1,hc⟩:=ab.1 hc;obtain⟨r,h2,rfl⟩:=aa.1 hc;have plain:∀fl',(bP P base s S fun v ups=>jf P base fl' r K (S.after s v ups))->wpListIn (jY ro) 0 P ops Q (o::l) a w:=fun fl' hw=>by
   obtain⟨v,ups,hst,hrest⟩:=oK hw;have:=mP (ro:=ro) (K':=wpListIn (jY ro) 0 P ops Q l) (Q:=Q) h1 hst hs hG (fun a' w' hs'=>nU l _ fl' r K _ a' w' h2 hrest hs' hG hk);unfold wpListIn;split
   ·rename_i hw';rw[if_pos hw']at this;exact this
   ·rename_i hw';rw[if_neg hw']at this;exact this
  match fl,hw with
  |[],hw=>exact plain [] hw
  |false::fl,hw=>exact plain fl hw
  |true::fl,hw=>
   have:=A0 (ro:=ro) (K':=wpListIn (jY ro) 0 P ops Q l) (Q:=Q) h1 hw hs hG (fun v rows' a' w' hkk hs'=>nU l _ fl r K _ a' w' h2 hkk hs' hG hk);unfold wpListIn;split
   ·rename_i hw';rw[if_pos hw']at this;exact this
   ·rename_i hw';rw[if_neg hw']at this;exact this
theorem fI:∀(l:List Oper) (n:Nat) (sl:List bn),dP P ops l n=some sl->sl.length=l.length/\∀(i:Nat) (o:Oper),l[i]? =some o->∃s n',sl[i]? =some s/\jk P ops o n'=some s
 |[],n,sl,hc=>by
  injection hc with hc;subst hc
  exact⟨rfl,fun i o h=>by simp at h⟩
 |o::l,n,sl,hc=>by
  obtain⟨s,h1,hc⟩:=ab.1 hc;obtain⟨r,h2,rfl⟩:=aa.1 hc;obtain⟨h3,h4⟩:=fI l _ r h2;refine⟨by simp[h3],fun i o' h=>?_⟩;cases i with
  |zero=>simp at h;subst h;exact⟨s,n,rfl,h1⟩
  |succ i=>exact h4 i o' (by simpa using h)
def yW(a b:List Nat):Bool:=a.all fun x=> !b.contains x
def eM(acc:List (List Nat×List Nat))(pre:List Nat)(F W:List Nat):Bool:=acc.zipIdx.all fun(p,j)=>pre.contains j||(yW p.2 F&&yW W p.1)
def fU[bf](P:Program)(base:Nat):List (bn×List Nat)->List (List Nat×List Nat)->(St->Prop)->St->Prop
 |[],_,K,S=>K S
 |(s,pre)::l,acc,K,S=>bP P base s S fun v ups=>∃F,(F=s.ng base S.fr\/Ck P s.guard s.act S.fr S.rows v ups F)/\eM acc pre F (ups.map (·.1))=true/\(ups.map (·.1)).all F.contains=true/\fU P base l (acc++[(F,ups.map (·.1))]) K (S.after s v ups)
abbrev Tr:=List (V×List (Nat×bd))
def eK(S:St)(sl:List (bn×List Nat))(tr:Tr):Nat->St
 |0=>S
 |k+1=>match sl[k]?,tr[k]? with
  |some s,some p=>(eK S sl tr k).after s.1 p.1 p.2
  |_,_=>eK S sl tr k
theorem mX(S:St)(x:bn×List Nat)(sl:List (bn×List Nat))(p:V×List (Nat×bd))(tr:Tr)(k:Nat):eK S (x::sl) (p::tr) (k+1)=eK (S.after x.1 p.1 p.2) sl tr k:=by
 induction k with
 |zero=>rfl
 |succ k ih=>rw[eK,ih];simp[eK]
theorem ml{acc:List (List Nat×List Nat)}{pre F W:List Nat}(h:eM acc pre F W=true){j:Nat}{p:List Nat×List Nat}(hj:acc[j]? =some p)(hp:j∉pre):(∀x∈p.2,x∉F)/\∀x∈W,x∉p.1:=by unfold eM at h;rw[aG]at h;have hm:(p,j)∈acc.zipIdx:=List.mk_mem_zipIdx_iff_getElem?.2 hj;have:=h _ hm;simp only[Bool.or_eq_true,av,List.contains_iff_mem,hp,false_or]at this;obtain⟨h1,h2⟩:=this;simp only[yW,aG,Bool.not_eq_true',List.contains_eq_mem,ak]at h1 h2;exact⟨h1,h2⟩
theorem lK:∀(sl:List (bn×List Nat)) (acc:List (List Nat×List Nat)) (K:St->Prop) (S:St),fU P base sl acc K S->∃(tr:Tr) (A:List (List Nat×List Nat)),tr.length=sl.length/\A.length=sl.length/\K (eK S sl tr sl.length)/\∀(k:Nat) (x:bn×List Nat),sl[k]? =some x->∃p F,tr[k]? =some p/\xD P base x.1 (eK S sl tr k) p.1 p.2 F/\A[k]? =some (F,p.2.map (·.1))/\(∀g∈p.2.map (·.1),g∈F)/\∀(j:Nat) (q:List Nat×List Nat),j<acc.length+k->(acc++A)[j]? =some q->j∉x.2->(∀g∈q.2,g∉F)/\∀g∈p.2.map (·.1),g∉q.1
 |[],acc,K,S,h=>⟨[],[],rfl,rfl,h,fun k x hx=>by simp at hx⟩
 |(s,pre)::sl,acc,K,S,h=>by
  obtain⟨v,ups,hst,F,hF,hcm,hsub,hrest⟩:=oK h;obtain⟨tr,A,h1,h2,h3,h4⟩:=lK sl _ K _ hrest;refine⟨(v,ups)::tr,(F,ups.map (·.1))::A,by simp[h1],by simp[h2],?_,fun k x hx=>?_⟩
  ·simp only[List.length_cons];rw[mX];exact h3
  ·cases k with
   |zero=>simp at hx;subst hx;refine⟨(v,ups),F,rfl,⟨hst,hF⟩,rfl,fun g hg=>by have:=aG.1 hsub g hg;simpa[eK]using this,fun j q hj hq hp=>?_⟩;rw[aH (by simpa using hj)]at hq;exact ml hcm hq hp
   |succ k=>obtain⟨p,F2,e1,e2,e3,e4,e5⟩:=h4 k x (by simpa using hx);refine⟨p,F2,by simpa using e1,by rw[mX];exact e2,by simpa using e3,e4,fun j q hj hq hp=>?_⟩;exact e5 j q so (by simpa using hq) hp
def lR[bf](P:Program)(base:Nat):List (bn×List Nat)->List (List Nat×List Nat)->(List (List Nat×List Nat)->St->Prop)->St->Prop
 |[],acc,K,S=>K acc S
 |(s,pre)::l,acc,K,S=>bP P base s S fun v ups=>∃F,(F=s.ng base S.fr\/Ck P s.guard s.act S.fr S.rows v ups F)/\eM acc pre F (ups.map (·.1))=true/\(ups.map (·.1)).all F.contains=true/\lR P base l (acc++[(F,ups.map (·.1))]) K (S.after s v ups)
theorem pT:∀(sl:List (bn×List Nat)) (acc:List (List Nat×List Nat)) (K:List (List Nat×List Nat)->St->Prop) (S:St),lR P base sl acc K S->∃(tr:Tr) (A:List (List Nat×List Nat)),tr.length=sl.length/\A.length=sl.length/\K (acc++A) (eK S sl tr sl.length)/\∀(k:Nat) (x:bn×List Nat),sl[k]? =some x->∃p F,tr[k]? =some p/\xD P base x.1 (eK S sl tr k) p.1 p.2 F/\A[k]? =some (F,p.2.map (·.1))/\(∀g∈p.2.map (·.1),g∈F)/\∀(j:Nat) (q:List Nat×List Nat),j<acc.length+k->(acc++A)[j]? =some q->j∉x.2->(∀g∈q.2,g∉F)/\∀g∈p.2.map (·.1),g∉q.1
 |[],acc,K,S,h=>⟨[],[],rfl,rfl,by rw[List.append_nil];exact h,fun k x hx=>by simp at hx⟩
 |(s,pre)::sl,acc,K,S,h=>by
  obtain⟨v,ups,hst,F,hF,hcm,hsub,hrest⟩:=oK h;obtain⟨tr,A,h1,h2,h3,h4⟩:=pT sl _ K _ hrest;refine⟨(v,ups)::tr,(F,ups.map (·.1))::A,by simp[h1],by simp[h2],?_,fun k x hx=>?_⟩
  ·simp only[List.length_cons];rw[mX];simpa using h3
  ·cases k with
   |zero=>simp at hx;subst hx;refine⟨(v,ups),F,rfl,⟨hst,hF⟩,rfl,fun g hg=>by have:=aG.1 hsub g hg;simpa[eK]using this,fun j q hj hq hp=>?_⟩;rw[aH (by simpa using hj)]at hq;exact ml hcm hq hp
   |succ k=>obtain⟨p,F2,e1,e2,e3,e4,e5⟩:=h4 k x (by simpa using hx);refine⟨p,F2,by simpa using e1,by rw[mX];exact e2,by simpa using e3,e4,fun j q hj hq hp=>?_⟩;exact e5 j q so (by simpa using hq) hp
def kD:bn:=⟨none,0,none,.op (.gC (.k .any))⟩
def dr(B:Nat->Bool)(sl:List (bn×List Nat)):List (bn×List Nat):=sl.zipIdx.map fun p=>if B p.2 then(kD,p.1.2)else p.1
theorem eP{B:Nat->Bool}{sl:List (bn×List Nat)}{j:Nat}{x:bn×List Nat}(h:sl[j]? =some x):(dr B sl)[j]? =some (if B j then(kD,x.2)else x):=by unfold dr;rw[ar,List.getElem?_zipIdx,h];simp
theorem eQ{B:Nat->Bool}{sl:List (bn×List Nat)}:(dr B sl).length=sl.length:=by simp[dr]
theorem rK{S:St}{v:V}{ups:List (Nat×bd)}(h:gO P base kD S v ups):ups=[]:=by simp only[gO,kD,iU,bU]at h;exact h.2.2.symm
theorem sw:∀(l:List Oper) (n:Nat) (sl:List bn) (k:Nat) (s:bn) (K:St->Prop) (S:St) (a:Act) (w:World),dP P ops l n=some sl->sl[k]? =some s->jG P base (sl.take k) K S->Sat c0 S a w->bf.G c0->(∀(o:Oper) (l':List Oper) (n' n'':Nat) (S':St) (a':Act) (w':World),K S'->Sat c0 S' a' w'->jk P ops o n'=some s->dP P ops l' n''=some (sl.drop (k+1))->wpListIn (jY ro) 0 P ops Q (o::l') a' w')->wpListIn (jY ro) 0 P ops Q l a w
 |[],n,sl,k,s,K,S,a,w,hc,hk,hw,hs,hG,hp=>by
  injection hc with hc;subst hc
  simp at hk
 |o::l,n,sl,k,s,K,S,a,w,hc,hk,hw,hs,hG,hp=>by
  obtain⟨s0,h1,hc⟩:=ab.1 hc;obtain⟨r,h2,rfl⟩:=aa.1 hc;cases k with
  |zero=>simp at hk;subst hk;exact hp o l _ _ S a w hw hs h1 h2
  |succ k=>
   simp only[List.getElem?_cons_succ]at hk;simp only[List.take_succ_cons,jG]at hw;obtain⟨v,ups,hst,hrest⟩:=oK hw;have:=mP (ro:=ro) (K':=wpListIn (jY ro) 0 P ops Q l) (Q:=Q) h1 hst hs hG (fun a' w' hs'=>sw l _ r k s K _ a' w' h2 hk hrest hs' hG (fun o l' n' n'' S' a'' w'' e1 e2 e3 e4=>hp o l' n' n'' S' a'' w'' e1 e2 e3 (by simpa using e4)));unfold wpListIn;split
   ·rename_i hw';rw[if_pos hw']at this;exact this
   ·rename_i hw';rw[if_neg hw']at this;exact this
def indep(x y:bn):Bool:=(match x.dst with|some d=> !y.reads.contains d&&y.dst !=some d|none=>true)&&(match y.dst with|some d=> !x.reads.contains d|none=>true)
def ix(sl:List (bn×List Nat)):Bool:=sl.zipIdx.all fun(y,j)=>sl.zipIdx.all fun(x,i)=> !(decide (i<j))||y.2.contains i||indep x.1 y.1
def Nt(pres:List (List Nat))(o:Oper):List Nat:=(o.after.toList.filter (Region.binds .any)).flatMap fun e=>e.on::(pres[e.on]?.getD [])
def rN:List Oper->List (List Nat)->List (List Nat)
 |[],acc=>acc
 |o::l,acc=>rN l (acc++[(Nt acc o).eraseDups])
def qW(l:List Oper)(pres:List (List Nat)):Bool:=l.zipIdx.all fun(o,j)=>(pres[j]?.getD []).all fun i=>o.after.toList.any fun e=>Region.binds .any e&&(e.on==i||(pres[e.on]?.getD []).contains i)
def il(l:List Oper):Bool:=l.zipIdx.all fun(o,i)=>o.after.toList.all fun e=> !(Region.binds .any e)||decide (e.on<i)
theorem j9{α:Type}{l:List α}{f:α×Nat->Bool}(h:l.zipIdx.all f=true){i:Nat}{x:α}(hx:l[i]? =some x):f (x,i)=true:=aG.1 h _ (List.mk_mem_zipIdx_iff_getElem?.2 hx)
theorem rh{l:List Oper}{pres:List (List Nat)}(h:qW l pres=true){j:Nat}{o:Oper}(hj:l[j]? =some o){i:Nat}(hi:i∈pres[j]?.getD []):∃e∈o.after.toList,Region.binds .any e=true/\(e.on=i\/i∈pres[e.on]?.getD []):=by have h1:=j9 h hj;have h2:=aG.1 h1 i hi;obtain⟨e,h3,h4⟩:=List.any_eq_true.1 h2;simp only[av,Bool.or_eq_true,beq_iff_eq,List.contains_iff_mem]at h4;exact⟨e,h3,h4.1,h4.2⟩
theorem nH{l:List Oper}(h:il l=true){j:Nat}{o:Oper}(hj:l[j]? =some o){e:Edge}(he:e∈o.after.toList)(hb:Region.binds .any e=true):e.on<j:=by have h2:=aG.1 (j9 h hj) e he;simpa[hb]using h2
theorem jx{sl:List (bn×List Nat)}(h:ix sl=true){i j:Nat}{x y:bn×List Nat}(hx:sl[i]? =some x)(hy:sl[j]? =some y)(hij:i<j)(hp:i∉y.2):(∀d,x.1.dst=some d->d∉y.1.reads/\y.1.dst≠some d)/\∀d,y.1.dst=some d->d∉x.1.reads:=by
 have h1:=j9 (j9 h hy) hx;simp only[Bool.or_eq_true,Bool.not_eq_true',ak,List.contains_iff_mem,hp,hij,not_true,or_false,false_or,indep,av]at h1;obtain⟨h2,h3⟩:=h1;refine⟨fun d hd=>?_,fun d hd=>?_⟩
 ·rw[hd]at h2;simpa using h2
 ·rw[hd]at h3;simpa using h3
def MF(n:Nat)(L:Array Bool):Nat:=(List.range n).countP fun i=> !L.getD i true
theorem rq{p q:Nat->Bool}:∀(l:List Nat) (i:Nat),l.Nodup->i∈l->p i=true->q i=false->(∀j,j≠i->p j=q j)->l.countP p=l.countP q+1
 |[],i,_,hi,_,_,_=>by simp at hi
 |x::l,i,hn,hi,hp,hq,hj=>by
  have hn':=List.nodup_cons.1 hn;by_cases hx:x=i
  ·subst hx;have:l.countP p=l.countP q:=List.countP_congr fun y hy=>by rw[hj y (fun e=>hn'.1 (e▸hy))]
   simp[hp,hq,this]
  ·have hi':i∈l:=by
    rcases aP.1 hi with h|h
    ·exact absurd h.symm hx
    ·exact h
   have ih:=rq l i hn'.2 hi' hp hq hj;simp only[List.countP_cons,hj x hx,ih];omega
theorem zY{n i:Nat}{L:Array Bool}(hi:i<n)(hs:L.size=n)(hl:L.getD i true=false):MF n L=MF n (L.setIfInBounds i true)+1:=by
 refine rq _ i List.nodup_range (List.mem_range.2 hi) (by simp[hl]) ?_ fun j hj=>?_
 ·simp[au,hs,hi]
 ·simp[au,Ne.symm hj]
theorem ov(l:List V)(i:Nat)(h:i<l.length):l[i]? =some (nth l i):=by
 induction l generalizing i with
 |nil=>simp at h
 |cons x l ih=>
  cases i with
  |zero=>rfl
  |succ i=>simpa[nth]using ih i (by simpa using h)
theorem CN{a b:List V}(hl:a.length=b.length)(h:∀i,nth a i=nth b i):a=b:=by
 apply List.ext_getElem?;intro i;by_cases hi:i<a.length
 ·rw[ov a i hi,ov b i om,h]
 ·rw[aA om,aA om]
theorem sc(fr:List V)(dst:Option Nat)(v:V)(t:Nat):nth (eg fr dst v) t=if dst=some t/\t<fr.length then v else nth fr t:=by
 cases dst with
 |none=>simp[eg]
 |some d=>simp[eg,ox]
theorem pO(fr:List V)(dst:Option Nat)(v:V):(eg fr dst v).length=fr.length:=by cases dst<;>simp[eg,iM]
theorem jD:∀(ups:List (Nat×bd)) (rows:Rows),(bq rows ups).length=rows.length
 |[],_=>rfl
 |(h,r)::ups,rows=>by simp[bq,jD ups]
theorem fZ:∀(ups:List (Nat×bd)) (rows:Rows) (g:Nat),g∉ups.map (·.1)->(bq rows ups)[g]? =rows[g]?
 |[],_,_,_=>rfl
 |(h,r)::ups,rows,g,hg=>by simp only[List.map_cons,aP,not_or]at hg;rw[bq,fZ ups _ g hg.2,List.getElem?_set_ne (Ne.symm hg.1)]
theorem od:∀(ups:List (Nat×bd)) (rows rows':Rows) (g:Nat),rows.length=rows'.length->g∈ups.map (·.1)->(bq rows ups)[g]? =(bq rows' ups)[g]?
 |[],_,_,_,_,hg=>by simp at hg
 |(h,r)::ups,rows,rows',g,hl,hg=>by
  by_cases h2:g∈ups.map (·.1)
  ·exact od ups _ _ g (by simp[hl]) h2
  ·have:g=h:=by simpa[h2]using hg
   subst this;simp only[bq];rw[fZ ups _ g h2,fZ ups _ g h2];simp[List.getElem?_set,hl]
end
end Go.Vx
