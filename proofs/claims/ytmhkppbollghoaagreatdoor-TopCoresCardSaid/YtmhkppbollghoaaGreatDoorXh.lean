/- Proved: rules of a compiled form of the code, sound for the model. Conditions: none but those that each lemma states. -/
import Derived.Test.YtmhkppbollghoaaGreatDoorXg
import Derived.Scope
set_option linter.unusedSectionVars false
set_option linter.unusedSimpArgs false
set_option linter.unusedVariables false
namespace Go.Vx
inductive AC where
 |skip
 |bV (m:Nat) (l:List bn)
 |iK (m:Nat) (l:List (bn×List Nat))
 |seq (a b:AC)
 |cond (c:bw) (a b:AC)
 |block (id:Nat) (a:AC)
 |loop (a:AC)
 |exit (id:Nat)
 |ret
  |wk (a:AC)
 |cut (a b:AC)
  |AY (m:Nat) (fl:List Bool) (l:List bn)
 |scope (a:AC)
 |label
  |qB (g:bw) (ps:Array Tmp) (a b:AC)
  |AR (m:Nat) (l:List bn)
 |ri (m:Nat) (l:List (bn×List Nat))
 deriving Inhabited
def AC.erase:AC->AC
 | .seq a b=>.seq a.erase b.erase
 | .cond c a b=>.cond c a.erase b.erase
 | .block id a=>.block id a.erase
 | .loop a=>.loop a.erase
 | .wk a=>a.erase
 | .cut a b=>.seq a.erase b.erase
 | .AY m _ l=>.bV m l
 | .AR m l=>.bV m l
 | .ri m l=>.iK m l
 | .scope a=>.scope a.erase
 | .qB g ps a b=>.qB g ps a.erase b.erase
 |c=>c
def AC.j8:AC->Bool
 | .seq a b=>a.j8&&b.j8
 | .cond _ a b=>a.j8&&b.j8
 | .block _ a=>a.j8
 | .loop a=>a.j8
 | .wk a=>a.j8
 | .cut a b=>a.j8&&b.j8
 | .scope a=>a.j8
 | .qB _ _ _ _=>false
 |_=>true
inductive AX where
 |normal
 |exit (id:Nat)
 |ret
 |fL (ch:List PanicEntry)
def cV(P:Program):Code->Option AC
 | .skip=>some .skip
 | .region _ ops false=>(dP P ops ops.toList 0).map fun l=>.bV (yV l) l
 | .region _ ops true=>(dP P ops ops.toList 0).bind fun l=>if P.follows .mixedOrders=true/\qW ops.toList (rN ops.toList [])=true/\(rN ops.toList []).length=l.length/\ix (l.zip (rN ops.toList []))=true/\il ops.toList=true then some (.iK (yV l) (l.zip (rN ops.toList [])))else none
 | .seq a b=>(cV P a).bind fun a=>(cV P b).map fun b=>.seq a b
 | .cond c a b=>(bu c).bind fun c=>(cV P a).bind fun a=>(cV P b).map fun b=>.cond c a b
 | .block id a=>(cV P a).map fun a=>.block id a
 | .loop a=>(cV P a).map fun a=>.loop a
 | .exit id=>some (.exit id)
 | .ret=>some .ret
 | .scope a=>(cV P a).map fun a=>.scope a
 | .label _=>some .label
 | .rangeFunc g ps a b=>(bu g).bind fun g=>(cV P a).bind fun a=>(cV P b).map fun b=>.qB g ps a b
 |_=>none
def St.grow(S:St)(m:Nat):St:=⟨S.fr,S.rows++List.replicate m .un⟩
def fb(b0:Nat)(S S':St):Prop:=∀c0 a w,c0.rows.length=b0->Sat c0 S a w->Sat c0 S' a w
def vT(v:V)(A B:Prop):Prop:=match v with
 | .d (.bool t)=>(t=true->A)/\(t=false->B)
 | .d .ke=>A/\B
 |_=>False
def NO(b0:Nat)(body:(AX->St->Prop)->St->Prop)(Q:AX->St->Prop)(S:St):Prop:=∃(I:Nat->St->Prop) (n:Nat) (S':St),fb b0 S S'/\I n S'/\∀n S,I n S->body (fun e S'=>match e with
  | .normal=>∃n' S'',n'<n/\fb b0 S' S''/\I n' S''
  | .exit i=>Q (.exit i) S'
  | .ret=>Q .ret S'
  | .fL ch=>Q (.fL ch) S') S
def PO[bf](P:Program)(base:Nat)(s:bn)(r:List bn)(Q:AX->St->Prop)(S:St):Prop:=(oM P s S fun ch ups=>Q (.fL ch) ⟨S.fr,bq S.rows ups⟩)\/qt P s S (fun v rows'=>jG P base r (Q .normal) ⟨eg S.fr s.dst v,rows'⟩) (fun ch rows'=>Q (.fL ch) ⟨S.fr,rows'⟩)
def Nm[bf](P:Program)(base:Nat)(l:List bn)(Q:AX->St->Prop)(S:St):Prop:=jG P base l (Q .normal) S\/∃k s,l[k]? =some s/\jG P base (l.take k) (PO P base s (l.drop (k+1)) Q) S
def J3[bf](P:Program)(base:Nat)(l:List (bn×List Nat))(Q:AX->St->Prop)(S:St):Prop:=fU P base l [] (Q .normal) S\/(∃k x,l[k]? =some x/\lR P base (dr (gq l k) l) [] (fun acc S'=>DZ P base x acc S' fun ch=>Q (.fL ch)) S)\/∃k x,l[k]? =some x/\FC l k=true/\fU P base (dr (fun j=>decide (k<=j)) l) [] (fun S'=>qt P x.1 S' (fun v rows'=>fU P base (dr (fun j=>decide (j<=k)) l) [] (Q .normal) ⟨eg S'.fr x.1.dst v,rows'⟩) (fun ch rows'=>Q (.fL ch) ⟨S'.fr,rows'⟩)) S
def DF(ps:List Nat)(wA wB:Nat->(AX->St->Prop)->St->Prop)(fr:List V)(l:Nat)(L:Loop)(h:Nat)(rows:Rows)(vals:List V)(ups:List (Nat×bd)):Prop:=rows[h]? =some (.obj (.loop l L))/\ps.length=vals.length/\rows.length<64/\(∀p∈ups,p.1<64)/\wA rows.length (fun e S1=>match e with
  | .normal=>S1.rows[h]? =some (.obj (.loop l L))/\wB rows.length (fun e S2=>match e with
   | .normal=>S2.rows[h]? =some (.obj (.loop l {L with state:=.busy}))/\∃S3,fb rows.length ⟨S2.fr,S2.rows.set h (.obj (.loop l L))⟩ S3/\S3.rows=bq rows ups
   |_=>False) ⟨S1.fr,S1.rows.set h (.obj (.loop l {L with state:=.busy}))⟩
  |_=>False) ⟨rC ps vals fr,rows⟩
def Pf(P:Program)(ok:Bool)(ps:List Nat)(wA wB:Nat->(AX->St->Prop)->St->Prop)(gv:V)(Q:AX->St->Prop)(S:St):Prop:=ok=true/\∃(f:FuncId) (cap:List V) (K:Nat->Loop->V->Rows->Prop),gv=.fn (.func f) [] cap/\(∀(l:Nat) (L:Loop) (cp:bf),L.state=.ready->L.pending=none->(∀rows vals ups,DF ps wA wB S.fr l L S.rows.length rows vals ups-> @My cp P l vals rows (.d (.bool true)) ups)-> @dn cp P f (.fn (.yield l) [] []::cap) (S.rows++[.obj (.loop l L)]) (K l L))/\∀l L v rows,K l L v rows->rows[S.rows.length]? =some (.obj (.loop l L))/\Q .normal ⟨S.fr,rows.set S.rows.length (.obj (.loop l {L with state:=.exhausted}))⟩
def dW[bf](P:Program)(b0:Nat):AC->(AX->St->Prop)->St->Prop
 | .skip,Q,S=>Q .normal S
 | .bV m l,Q,S=>jG P S.rows.length l (Q .normal) (S.grow m)
 | .iK m l,Q,S=>fU P S.rows.length l [] (Q .normal) (S.grow m)
 | .AY m fl l,Q,S=>jf P S.rows.length fl l (Q .normal) (S.grow m)
 | .seq a b,Q,S=>dW P b0 a (fun e S'=>match e with| .normal=>dW P b0 b Q S'| .exit i=>Q (.exit i) S'| .ret=>Q .ret S'| .fL ch=>Q (.fL ch) S') S
 | .cond c a b,Q,S=>vT (c.ev S.fr) (dW P b0 a Q S) (dW P b0 b Q S)
 | .block id a,Q,S=>dW P b0 a (fun e S'=>match e with| .normal=>Q .normal S'| .exit i=>if i=id then Q .normal S' else Q (.exit i) S'| .ret=>Q .ret S'| .fL ch=>Q (.fL ch) S') S
 | .loop a,Q,S=>NO b0 (dW P b0 a) Q S
 | .exit id,Q,S=>Q (.exit id) S
 | .ret,Q,S=>Q .ret S
 | .scope a,Q,S=>dW P b0 a Q S
 | .label,Q,S=>Q .normal S
 | .qB g ps a b,Q,S=>Pf P (a.j8&&b.j8) ps.toList (fun b0=>dW P b0 a) (fun b0=>dW P b0 b) (g.ev S.fr) Q S
 | .AR m l,Q,S=>Nm P S.rows.length l Q (S.grow m)
 | .ri m l,Q,S=>J3 P S.rows.length l Q (S.grow m)
 | .wk a,Q,S=>∃S',fb b0 S S'/\dW P b0 a Q S'
 | .cut a b,Q,S=>∃M:St->Prop,dW P b0 a (fun e S'=>match e with| .normal=>∃S'',fb b0 S' S''/\M S''| .exit i=>Q (.exit i) S'| .ret=>Q .ret S'| .fL ch=>Q (.fL ch) S') S/\∀S',M S'->dW P b0 b Q S'
section
variable{P:Program}
theorem Sat.grow{c0:Cx}{S:St}{a:Act}{w:World}(h:Sat c0 S a w)(m:Nat):Sat c0 (S.grow m) a w:=by
 obtain⟨ρ,I,ok,hx,hd,hl,hf⟩:=h;have hold:∀(g:Nat) (r:bd),S.rows[g]? =some r->(S.rows++List.replicate m bd.un)[g]? =some r:=fun g r h=>by rw[aH (ad.1 h).1];exact h
 have hlive:∀(g sz:Nat) (es:List (List V)),(S.rows++List.replicate m bd.un)[g]? =some (.live sz es)->S.rows[g]? =some (.live sz es):=fun g sz es h=>by
  rw[List.getElem?_append]at h;split at h
  ·exact h
  ·rw[List.getElem?_replicate]at h;split at h
   ·cases h
   ·cases h
 have hstep:Ext ⟨ρ,I,S.rows,w⟩ ⟨ρ,I,S.rows++List.replicate m bd.un,w⟩:=by
  refine⟨rfl,rfl,rfl,aq _,fun _ _ _=>rfl,fun _ h=>h,fun _ h=>.inl h,fun _ _ h=>.inl h,fun g=>?_⟩;cases hg:S.rows[g]? with
  |none=>unfold bK;simp only[hg]
  |some r=>exact bK.of_eq (by simp only[hold g r hg,hg]) rfl (fun _ _=>rfl)
 have hob:∀(g:Nat) (o:GO),(S.rows++List.replicate m bd.un)[g]? =some (bd.obj o)->S.rows[g]? =some (bd.obj o):=fun g o h=>by
  rw[List.getElem?_append]at h;split at h
  ·exact h
  ·rw[List.getElem?_replicate]at h;split at h
   ·cases h
   ·cases h
 refine⟨ρ,I,⟨ok.inj,fun g b hb=>?_,fun g b sz es hb hr=>?_,fun g sz es hn hr=>ok.je g sz es hn (hlive g sz es hr),ok.jP,.step ok hstep fun h o hr=>⟨hob h o hr,rfl,fun _ _=>rfl⟩⟩,hx.trans hstep,hd.mono hstep,hl,fun i=>(hf i).mono hstep ok⟩
 ·obtain⟨h1,h2,r,h3,h4⟩:=ok.own g b hb;exact⟨h1,h2,r,hold g _ h3,h4⟩
 ·obtain⟨arr,ty,fz,h1,h2,h3⟩:=ok.cont g b sz es hb (hlive g sz es hr);exact⟨arr,ty,fz,h1,h2,h3.mono hstep ok⟩
def my(c0:Cx)(Q:AX->St->Prop):Exit->Act->World->Prop
 | .normal,a,w=>∃S,Sat c0 S a w/\Q .normal S
 | .exit i,a,w=>∃S,Sat c0 S a w/\Q (.exit i) S
 | .ret,a,w=>∃S,Sat c0 S a w/\Q .ret S
 | .panic ch,a,w=>∃S,Sat c0 S a w/\Q (.fL ch) S
 |_,_,_=>False
section
variable{b:Frame}{k:List Item}{cs:List Frame}{a:Act}{w:World}{n:Nat}{F:Fence}
theorem gu{c:Code}:step P (lone (b.atR a (.code (.scope c)::k)) cs w)=.next (lone (b.atR a (.code c:: .inScope c::k)) cs w):=step_lone_go (by simp[stepG,stepG.exec,Frame.atR])
theorem sN{c:Code}:step P (lone (b.atR a (.inScope c::k)) cs w)=.next (lone (b.atR a k) cs w):=step_lone_go (by simp[stepG,stepG.exec,Frame.atR])
theorem na{Q:Exit->Act->World->Prop}{c:Code}(h:c.wpIn F n P (Exit.noGoto Q) a w):(Code.scope c).wpIn F n P Q a w:=by
 intro b k cs hro hb hr;obtain⟨e,a₁,w₁,hq,harr⟩:=h b (.inScope c::k) cs hro hb hr;cases e with
 |normal=>exact⟨.normal,a₁,w₁,hq,.head (fenced_calm hb hr rfl) gu (StepsIn.trans harr (.one (fenced_calm hb hr rfl) sN))⟩
 |exit id=>
  have hx:exitTo id (.inScope c::k)=exitTo id k:=by simp[exitTo]
  exact⟨.exit id,a₁,w₁,hq,fun k' hk=>.head (fenced_calm hb hr rfl) gu (harr.1 k' (by rw[hx];exact hk)),fun hr' hk=>let ⟨k₁,h1,h2⟩:=harr.2 hr' (by rw[hx];exact hk);⟨k₁,h1,.head (fenced_calm hb hr rfl) gu h2⟩⟩
 |goto l=>exact hq.elim
 |ret=>exact⟨_,a₁,w₁,hq,.of_steps (.one (fenced_calm hb hr rfl) gu) harr⟩
 |panic ch=>exact⟨_,a₁,w₁,hq,.of_steps (.one (fenced_calm hb hr rfl) gu) harr⟩
 |outgrown=>exact⟨_,a₁,w₁,hq,.of_steps (.one (fenced_calm hb hr rfl) gu) harr⟩
end
theorem yp{F:Fence}{m:Nat}{Q:Exit->Act->World->Prop}{c:Code}(I:Nat->Act->World->Prop) (round:∀n a w,I n a w->c.wpIn F m P (Exit.then (fun a' w'=>∃n',n'<n/\I n' a' w') Q) a w):∀n a w,I n a w->(Code.loop c).wpIn F m P Q a w:=by
 intro n a w h b k cs hro hb hr;have key:∀n a w,I n a w->∃e a' w',Q e a' w'/\ArrivesIn (Machine.fenced P F) P (lone (b.atR a (.code c:: .inLoop c::k)) cs w) b k cs e a' w':=by
  intro n;induction n using Nat.strongRecOn with
  |_ n ih=>
   intro a w hI;obtain⟨e,a₁,w₁,hq,harr⟩:=round n a w hI b (.inLoop c::k) cs hro hb hr;cases e with
   |normal=>obtain⟨n',hlt,hI₁⟩:=hq;obtain⟨e₂,a₂,w₂,hq₂,harr₂⟩:=ih n' hlt a₁ w₁ hI₁;exact⟨e₂,a₂,w₂,hq₂,.of_steps (StepsIn.trans harr (.one (fenced_calm hb hr rfl) stepR_inLoop)) harr₂⟩
   |exit id=>exact⟨_,a₁,w₁,hq,.pass (x:=.inLoop c) rfl (fun _ _=>.inl sm) harr⟩
   |goto l=>exact⟨_,a₁,w₁,hq,.pass (x:=.inLoop c) rfl (fun _ _=>.inl sm) harr⟩
   |ret=>exact⟨_,a₁,w₁,hq,.pass (x:=.inLoop c) rfl (fun _ _=>.inl sm) harr⟩
   |panic ch=>exact⟨_,a₁,w₁,hq,.pass (x:=.inLoop c) rfl (fun _ _=>.inl sm) harr⟩
   |outgrown=>exact⟨_,a₁,w₁,hq,.pass (x:=.inLoop c) rfl (fun _ _=>.inl sm) harr⟩
 obtain⟨e,a',w',hq,harr⟩:=key n a w h;exact⟨e,a',w',hq,.of_steps (.one (fenced_calm hb hr rfl) stepR_loop) harr⟩
theorem mC{code:Code}{a b:AC}(h:cV P code=some (.seq a b)):∃x y,code=.seq x y/\cV P x=some a/\cV P y=some b:=by
 cases code with
 |seq x y=>
  obtain⟨a',h1,h⟩:=ab.1 h;obtain⟨b',h2,h3⟩:=aa.1 h;injection h3 with e1 e2;subst e1 e2
  exact⟨x,y,rfl,h1,h2⟩
 |region id ops draw=>
  cases draw
  ·obtain⟨l,_,h⟩:=aa.1 h;cases h
  ·obtain⟨l,_,h⟩:=ab.1 h;split at h<;>cases h
 |cond c x y=>obtain⟨_,_,h⟩:=ab.1 h;obtain⟨_,_,h⟩:=ab.1 h;obtain⟨_,_,h⟩:=aa.1 h;cases h
 |block id x=>obtain⟨_,_,h⟩:=aa.1 h;cases h
 |loop x=>obtain⟨_,_,h⟩:=aa.1 h;cases h
 |scope x=>obtain⟨_,_,h⟩:=aa.1 h;cases h
 |rangeFunc g ps x y=>obtain⟨_,_,h⟩:=ab.1 h;obtain⟨_,_,h⟩:=ab.1 h;obtain⟨_,_,h⟩:=aa.1 h;cases h
 |_=>cases h
theorem A6{code:Code}{c:bw}{a b:AC}(h:cV P code=some (.cond c a b)):∃o x y,code=.cond o x y/\bu o=some c/\cV P x=some a/\cV P y=some b:=by
 cases code with
 |cond o x y=>
  obtain⟨c',h0,h⟩:=ab.1 h;obtain⟨a',h1,h⟩:=ab.1 h;obtain⟨b',h2,h3⟩:=aa.1 h;injection h3 with e0 e1 e2;subst e0 e1 e2
  exact⟨o,x,y,rfl,h0,h1,h2⟩
 |seq x y=>obtain⟨a',h1,h⟩:=ab.1 h;obtain⟨b',h2,h3⟩:=aa.1 h;cases h3
 |region id ops draw=>
  cases draw
  ·obtain⟨l,_,h⟩:=aa.1 h;cases h
  ·obtain⟨l,_,h⟩:=ab.1 h;split at h<;>cases h
 |block id x=>obtain⟨_,_,h⟩:=aa.1 h;cases h
 |loop x=>obtain⟨_,_,h⟩:=aa.1 h;cases h
 |scope x=>obtain⟨_,_,h⟩:=aa.1 h;cases h
 |rangeFunc g ps x y=>obtain⟨_,_,h⟩:=ab.1 h;obtain⟨_,_,h⟩:=ab.1 h;obtain⟨_,_,h⟩:=aa.1 h;cases h
 |_=>cases h
theorem yo{code:Code}{id:Nat}{a:AC}(h:cV P code=some (.block id a)):∃x,code=.block id x/\cV P x=some a:=by
 cases code with
 |block id x=>
  obtain⟨a',h1,h⟩:=aa.1 h;injection h with e1 e2;subst e1 e2
  exact⟨x,rfl,h1⟩
 |cond o x y=>obtain⟨c',h0,h⟩:=ab.1 h;obtain⟨a',h1,h⟩:=ab.1 h;obtain⟨b',h2,h3⟩:=aa.1 h;cases h3
 |seq x y=>obtain⟨a',h1,h⟩:=ab.1 h;obtain⟨b',h2,h3⟩:=aa.1 h;cases h3
 |region id ops draw=>
  cases draw
  ·obtain⟨l,_,h⟩:=aa.1 h;cases h
  ·obtain⟨l,_,h⟩:=ab.1 h;split at h<;>cases h
 |loop x=>obtain⟨_,_,h⟩:=aa.1 h;cases h
 |scope x=>obtain⟨_,_,h⟩:=aa.1 h;cases h
 |rangeFunc g ps x y=>obtain⟨_,_,h⟩:=ab.1 h;obtain⟨_,_,h⟩:=ab.1 h;obtain⟨_,_,h⟩:=aa.1 h;cases h
 |_=>cases h
theorem BK{code:Code}{a:AC}(h:cV P code=some (.loop a)):∃x,code=.loop x/\cV P x=some a:=by
 cases code with
 |loop x=>
  obtain⟨a',h1,h⟩:=aa.1 h;injection h with e1;subst e1
  exact⟨x,rfl,h1⟩
 |block id x=>obtain⟨_,_,h⟩:=aa.1 h;cases h
 |cond o x y=>obtain⟨c',h0,h⟩:=ab.1 h;obtain⟨a',h1,h⟩:=ab.1 h;obtain⟨b',h2,h3⟩:=aa.1 h;cases h3
 |seq x y=>obtain⟨a',h1,h⟩:=ab.1 h;obtain⟨b',h2,h3⟩:=aa.1 h;cases h3
 |region id ops draw=>
  cases draw
  ·obtain⟨l,_,h⟩:=aa.1 h;cases h
  ·obtain⟨l,_,h⟩:=ab.1 h;split at h<;>cases h
 |scope x=>obtain⟨_,_,h⟩:=aa.1 h;cases h
 |rangeFunc g ps x y=>obtain⟨_,_,h⟩:=ab.1 h;obtain⟨_,_,h⟩:=ab.1 h;obtain⟨_,_,h⟩:=aa.1 h;cases h
 |_=>cases h
theorem sa{code:Code}{m:Nat}{l:List bn}(h:cV P code=some (.bV m l)):∃id ops,code=.region id ops false/\dP P ops ops.toList 0=some l:=by
 cases code with
 |region id ops draw=>
  cases draw
  ·obtain⟨l',h1,h⟩:=aa.1 h;injection h with e1 e2;subst e2
   exact⟨id,ops,rfl,h1⟩
  ·obtain⟨l,_,h⟩:=ab.1 h;split at h<;>cases h
 |loop x=>obtain⟨_,_,h⟩:=aa.1 h;cases h
 |block id x=>obtain⟨_,_,h⟩:=aa.1 h;cases h
 |cond o x y=>obtain⟨c',h0,h⟩:=ab.1 h;obtain⟨a',h1,h⟩:=ab.1 h;obtain⟨b',h2,h3⟩:=aa.1 h;cases h3
 |seq x y=>obtain⟨a',h1,h⟩:=ab.1 h;obtain⟨b',h2,h3⟩:=aa.1 h;cases h3
 |scope x=>obtain⟨_,_,h⟩:=aa.1 h;cases h
 |rangeFunc g ps x y=>obtain⟨_,_,h⟩:=ab.1 h;obtain⟨_,_,h⟩:=ab.1 h;obtain⟨_,_,h⟩:=aa.1 h;cases h
 |_=>cases h
theorem tf{code:Code}{m:Nat}{l:List (bn×List Nat)}(h:cV P code=some (.iK m l)):∃id ops sts pres,code=.region id ops true/\dP P ops ops.toList 0=some sts/\l=sts.zip pres/\P.follows .mixedOrders=true/\qW ops.toList pres=true/\pres.length=sts.length/\ix l=true/\il ops.toList=true:=by
 cases code with
 |region id ops draw=>
  cases draw
  ·obtain⟨l',h1,h⟩:=aa.1 h;cases h
  ·obtain⟨l',h1,h⟩:=ab.1 h;split at h
   ·rename_i hc;injection h with h;injection h with e1 e2;subst e2
    exact⟨id,ops,l',_,rfl,h1,rfl,hc.1,hc.2.1,hc.2.2.1,hc.2.2.2.1,hc.2.2.2.2⟩
   ·cases h
 |loop x=>obtain⟨_,_,h⟩:=aa.1 h;cases h
 |block id x=>obtain⟨_,_,h⟩:=aa.1 h;cases h
 |cond o x y=>obtain⟨c',h0,h⟩:=ab.1 h;obtain⟨a',h1,h⟩:=ab.1 h;obtain⟨b',h2,h3⟩:=aa.1 h;cases h3
 |seq x y=>obtain⟨a',h1,h⟩:=ab.1 h;obtain⟨b',h2,h3⟩:=aa.1 h;cases h3
 |scope x=>obtain⟨_,_,h⟩:=aa.1 h;cases h
 |rangeFunc g ps x y=>obtain⟨_,_,h⟩:=ab.1 h;obtain⟨_,_,h⟩:=ab.1 h;obtain⟨_,_,h⟩:=aa.1 h;cases h
 |_=>cases h
theorem pr{code:Code}{a:AC}(h:cV P code=some a):(a=.skip->code=.skip)/\(∀i,a=.exit i->code=.exit i)/\(a=.ret->code=.ret)/\(∀x,a≠ .wk x)/\(∀x y,a≠ .cut x y):=by
 cases code with
 |region id ops draw=>
  cases draw
  ·obtain⟨l',h1,h⟩:=aa.1 h;subst h;simp
  ·obtain⟨l',h1,h⟩:=ab.1 h;split at h
   ·injection h with h;subst h;simp
   ·cases h
 |loop x=>obtain⟨_,_,h⟩:=aa.1 h;subst h;simp
 |block id x=>obtain⟨_,_,h⟩:=aa.1 h;subst h;simp
 |cond o x y=>obtain⟨c',h0,h⟩:=ab.1 h;obtain⟨a',h1,h⟩:=ab.1 h;obtain⟨b',h2,h3⟩:=aa.1 h;subst h3;simp
 |seq x y=>obtain⟨a',h1,h⟩:=ab.1 h;obtain⟨b',h2,h3⟩:=aa.1 h;subst h3;simp
 |skip=>injection h with h;subst h;simp
 |exit i=>injection h with h;subst h;simp
 |ret=>injection h with h;subst h;simp
 |scope x=>obtain⟨_,_,h⟩:=aa.1 h;subst h;simp
 |label l=>injection h with h;subst h;simp
 |rangeFunc g ps x y=>obtain⟨_,_,h⟩:=ab.1 h;obtain⟨_,_,h⟩:=ab.1 h;obtain⟨_,_,h⟩:=aa.1 h;subst h;simp
 |_=>cases h
theorem zb{code:Code}{a:AC}(h:cV P code=some (.scope a)):∃x,code=.scope x/\cV P x=some a:=by
 cases code with
 |scope x=>
  obtain⟨a',h1,h⟩:=aa.1 h;injection h with e1;subst e1
  exact⟨x,rfl,h1⟩
 |loop x=>obtain⟨_,_,h⟩:=aa.1 h;cases h
 |block id x=>obtain⟨_,_,h⟩:=aa.1 h;cases h
 |cond o x y=>obtain⟨c',h0,h⟩:=ab.1 h;obtain⟨a',h1,h⟩:=ab.1 h;obtain⟨b',h2,h3⟩:=aa.1 h;cases h3
 |seq x y=>obtain⟨a',h1,h⟩:=ab.1 h;obtain⟨b',h2,h3⟩:=aa.1 h;cases h3
 |region id ops draw=>
  cases draw
  ·obtain⟨l,_,h⟩:=aa.1 h;cases h
  ·obtain⟨l,_,h⟩:=ab.1 h;split at h<;>cases h
 |rangeFunc g ps x y=>obtain⟨_,_,h⟩:=ab.1 h;obtain⟨_,_,h⟩:=ab.1 h;obtain⟨_,_,h⟩:=aa.1 h;cases h
 |_=>cases h
theorem yw{code:Code}(h:cV P code=some .label):∃l,code=.label l:=by
 cases code with
 |label l=>exact⟨l,rfl⟩
 |scope x=>obtain⟨_,_,h⟩:=aa.1 h;cases h
 |loop x=>obtain⟨_,_,h⟩:=aa.1 h;cases h
 |block id x=>obtain⟨_,_,h⟩:=aa.1 h;cases h
 |cond o x y=>obtain⟨c',h0,h⟩:=ab.1 h;obtain⟨a',h1,h⟩:=ab.1 h;obtain⟨b',h2,h3⟩:=aa.1 h;cases h3
 |seq x y=>obtain⟨a',h1,h⟩:=ab.1 h;obtain⟨b',h2,h3⟩:=aa.1 h;cases h3
 |region id ops draw=>
  cases draw
  ·obtain⟨l,_,h⟩:=aa.1 h;cases h
  ·obtain⟨l,_,h⟩:=ab.1 h;split at h<;>cases h
 |rangeFunc g ps x y=>obtain⟨_,_,h⟩:=ab.1 h;obtain⟨_,_,h⟩:=ab.1 h;obtain⟨_,_,h⟩:=aa.1 h;cases h
 |_=>cases h
theorem FG{code:Code}{g:bw}{ps:Array Tmp}{a b:AC}(h:cV P code=some (.qB g ps a b)):∃o x y,code=.rangeFunc o ps x y/\bu o=some g/\cV P x=some a/\cV P y=some b:=by
 cases code with
 |rangeFunc o ps' x y=>
  obtain⟨c',h0,h⟩:=ab.1 h;obtain⟨a',h1,h⟩:=ab.1 h;obtain⟨b',h2,h3⟩:=aa.1 h;injection h3 with e0 e1 e2 e3;subst e0 e1 e2 e3
  exact⟨o,x,y,rfl,h0,h1,h2⟩
 |cond o x y=>obtain⟨c',h0,h⟩:=ab.1 h;obtain⟨a',h1,h⟩:=ab.1 h;obtain⟨b',h2,h3⟩:=aa.1 h;cases h3
 |seq x y=>obtain⟨a',h1,h⟩:=ab.1 h;obtain⟨b',h2,h3⟩:=aa.1 h;cases h3
 |region id ops draw=>
  cases draw
  ·obtain⟨l,_,h⟩:=aa.1 h;cases h
  ·obtain⟨l,_,h⟩:=ab.1 h;split at h<;>cases h
 |block id x=>obtain⟨_,_,h⟩:=aa.1 h;cases h
 |loop x=>obtain⟨_,_,h⟩:=aa.1 h;cases h
 |scope x=>obtain⟨_,_,h⟩:=aa.1 h;cases h
 |_=>cases h
theorem xk[bf]{l h:Nat}{L:Loop}{c1:Cx}(ok1:Ok c1){rows:Rows}{vals:List V}{ups:List (Nat×bd)}{fr:List V}{wA wB:Nat->(AX->St->Prop)->St->Prop} (sA:∀(ro:Option Nat) (b0:Nat) (c0:Cx) (Q:AX->St->Prop) (S:St) (a:Act) (w:World),c0.rows.length=b0->bf.G c0->wA b0 Q S->Sat c0 S a w->L.assign.wpIn (jY ro) 0 P (my c0 Q) a w) (sB:∀(ro:Option Nat) (b0:Nat) (c0:Cx) (Q:AX->St->Prop) (S:St) (a:Act) (w:World),c0.rows.length=b0->bf.G c0->wB b0 Q S->Sat c0 S a w->L.body.wpIn (jY ro) 0 P (my c0 Q) a w) (hfr:∀i,b7 c1 (L.tmps.getD i undef) (nth fr i)) (hlen:fr.length<=L.tmps.size) (hst:L.state=.ready) (hpd:L.pending=none) (hw:DF L.params.toList wA wB fr l L h rows vals ups): @My (uc c1) P l vals rows (.d (.bool true)) ups:=by
 obtain⟨hr,hps,hsm,hup,hw⟩:=hw;refine⟨hsm,hup,fun c args ok hG hrows hargs=>?_⟩;subst hrows;have hx0:Ext c1 c:=hG.1;replace hG:bf.G c:=hG.2;obtain⟨b,hρ,hgb,hg⟩:=ok.g.xS h _ hr;subst hgb;have hsz:args.size=vals.length:=by simpa using hargs.1
 have hy:=run_yield (P:=P) (args:=args) hg (by rw[hsz,<-hps];simp);refine⟨_,_,_,_,hy,roundIn_of_wpIn trivial ?_⟩;obtain⟨p1,p2,p3⟩:=tG (c:=c) L.params.toList vals fr args.toList L.tmps hargs hlen (fun i=>(hfr i).mono hx0 ok1);obtain⟨T,hT⟩:∃T,(L.params.zip args).foldl (fun tmps (t,a)=>tmps.setIfInBounds t a) L.tmps=T:=⟨_,rfl⟩;have hT2:(L.params.toList.zip args.toList).foldl (fun t (p,v)=>t.setIfInBounds p v) L.tmps=T:=by rw[<-hT,<-Array.foldl_toList,Array.toList_zip]
 rw[hT2]at p2 p3;rw[hT];have hsat:Sat c ⟨rC L.params.toList vals fr,c.rows⟩ {tmps:=T,defers:=[]} c.w:=⟨c.ρ,c.I,ok,Ext.refl _,trivial,by simp only;rw[p1,p2];exact hlen,p3⟩;refine wpIn_mono (sA (some b) _ c _ _ _ _ rfl hG hw hsat) fun e a1 w1 hq=>?_;cases e with
 |normal=>
  obtain⟨S1,hs1,hr1,hw2⟩:=hq;obtain⟨ρ1,I1,oka,hxa,hda,hla,hfa⟩:=hs1;obtain⟨b1,hρ1,hgb1,hg1⟩:=oka.g.xS h _ hr1;subst hgb1;refine⟨_,run_beginRound hg1 hst,?_⟩;obtain⟨okb,hxb⟩:=ju oka h b1 (.loop b1 L) (.loop b1 {L with state:=.busy}) (.loop {L with state:=.busy}) hr1 hρ1 (w1.putObj b1 (.loop {L with state:=.busy})) rfl rfl rfl rfl ⟨rfl,World.putObj_heap_same (Array.getElem?_eq_some_iff.1 hg1).1⟩;have hsatb:Sat c ⟨S1.fr,S1.rows.set h (.obj (.loop b1 {L with state:=.busy}))⟩ a1 (w1.putObj b1 (.loop {L with state:=.busy})):=⟨ρ1,I1,okb,hxa.trans hxb,hda.mono hxb,hla,fun i=>(hfa i).mono hxb oka⟩;refine wpIn_mono (sB (some b1) _ c _ _ _ _ rfl hG hw2 hsatb) fun e a2 w2 hq=>?_;cases e with
  |normal=>
   obtain⟨S2,hs2,hr2,S3,hweak,hrows3⟩:=hq;obtain⟨ρ2,I2,okc,hxc,hdc,hlc,hfc⟩:=hs2;obtain⟨b2,hρ2,hgb2,hg2⟩:=okc.g.xS h _ hr2;subst hgb2;have hend:=run_endRound (P:=P) none hg2;have hL:({({L with state:=.busy}:Loop)with state:=if(none:Option Code).isNone then .ready else .done,pending:=none}:Loop)=L:=by cases L;simp only at hst hpd;subst hst hpd;rfl
   rw[hL]at hend;obtain⟨okd,hxd⟩:=ju okc h b2 (.loop b2 {L with state:=.busy}) (.loop b2 L) (.loop L) hr2 hρ2 (w2.putObj b2 (.loop L)) rfl rfl rfl rfl ⟨rfl,World.putObj_heap_same (Array.getElem?_eq_some_iff.1 hg2).1⟩;have hsatd:Sat c ⟨S2.fr,S2.rows.set h (.obj (.loop b2 L))⟩ a2 (w2.putObj b2 (.loop L)):=⟨ρ2,I2,okd,hxc.trans hxd,hdc.mono hxd,hlc,fun i=>(hfc i).mono hxd okc⟩;obtain⟨ρ3,I3,oke,hxe,_,_,_⟩:=hweak c a2 _ rfl hsatd;exact⟨_,_,hend,.bool true,⟨ρ3,I3,S3.rows,_⟩,rfl,rfl,oke,hxe,hrows3,.d _ _ (.bool true)⟩
  |exit i=>obtain⟨S,_,hq⟩:=hq;exact hq.elim
  |ret=>obtain⟨S,_,hq⟩:=hq;exact hq.elim
  |goto l=>exact hq.elim
  |panic ch=>obtain⟨S,_,hq⟩:=hq;exact hq.elim
  |outgrown=>exact hq.elim
 |exit i=>obtain⟨S,_,hq⟩:=hq;exact hq.elim
 |ret=>obtain⟨S,_,hq⟩:=hq;exact hq.elim
 |goto l=>exact hq.elim
 |panic ch=>obtain⟨S,_,hq⟩:=hq;exact hq.elim
 |outgrown=>exact hq.elim
theorem Bw[bf]{c0:Cx}{S:St}{a:Act}{w:World}(hG:bf.G c0)(hs:Sat c0 S a w){g:Operand}{gd:bw}(hg:bu g=some gd) {ps:Array Tmp} {assign body:Code} {wA wB:Nat->(AX->St->Prop)->St->Prop} {ok:Bool} {Q:AX->St->Prop} (sA:ok=true->∀(ro:Option Nat) (b0:Nat) (c0:Cx) (Q:AX->St->Prop) (S:St) (a:Act) (w:World),c0.rows.length=b0->bf.G c0->wA b0 Q S->Sat c0 S a w->assign.wpIn (jY ro) 0 P (my c0 Q) a w) (sB:ok=true->∀(ro:Option Nat) (b0:Nat) (c0:Cx) (Q:AX->St->Prop) (S:St) (a:Act) (w:World),c0.rows.length=b0->bf.G c0->wB b0 Q S->Sat c0 S a w->body.wpIn (jY ro) 0 P (my c0 Q) a w) (hw:Pf P ok ps.toList wA wB (gd.ev S.fr) Q S):(Code.rangeFunc g ps assign body).wpIn (jY none) 0 P (my c0 Q) a w:=by
 obtain⟨hok,f,cap,K,hv,hit,hK⟩:=hw;replace sA:=sA hok;replace sB:=sB hok;obtain⟨ρ,I,ok,hx,hd,hl,hf⟩:=hs;have hrg:=n9 ok hf g gd hg;rw[hv]at hrg;generalize hfv:a.eval g=fv at hrg;cases hrg with|fn _ fs cps _ _ h1 h2 h3 h4=>
 have hfs:fs= #[]:=by have:fs.size=0:=h1;exact Array.eq_empty_of_size_eq_zero this
 subst hfs;refine wpIn_rangeFunc fun fn _=>?_;obtain⟨L,hL⟩:∃L:Loop,L={state:=.ready,pending:=none,fn,tmps:=a.tmps,params:=ps,assign,body,defers:=w.heap.size}:=⟨_,rfl⟩;obtain⟨ok1,hx1⟩:=JN ok L;have hT:L.tmps=a.tmps:=by rw[hL]
 have hD1:((w.alloc (.deferred (some []))).alloc (.loop L)).heap[w.heap.size]? =some (.deferred (some [])):=by have h5:=eO (w:=w.alloc (.deferred (some []))) (w':=(w.alloc (.deferred (some []))).alloc (.loop L)) (o:=.loop L) rfl (b:=w.heap.size) (by rw[World.size_alloc];omega);rw[h5];exact World.alloc_heap_new w _
 have hmk:Marks c0.w.heap.size ⟨fun h=>if h=S.rows.length then some (w.heap.size+1)else ρ h,I,S.rows++[.obj (.loop (w.heap.size+1) L)],(w.alloc (.deferred (some []))).alloc (.loop L)⟩ ({target:=.collected w.heap.size,args:= #[]}::a.defers):=by
  refine⟨⟨w.heap.size,rfl,hx.size,hD1,fun h hh=>?_,fun hI=>?_,fun d' hd' ht=>?_⟩,hd.mono hx1⟩
  ·simp only at hh;split at hh
   ·injection hh with hh;omega
   ·exact absurd (ok.own h _ hh).1 sm
  ·exact absurd (ok.jP _ hI) sm
  ·clear hL hx1;revert hd' hd;generalize a.defers=ds;intro hd hd';induction ds with
   |nil=>simp at hd'
   |cons d ds ih=>
    obtain⟨⟨D,e1,_,e3,_⟩,hds⟩:=hd;rcases aP.1 hd' with rfl|hd'
    ·rw[e1]at ht;injection ht with ht
     subst ht;exact absurd (Array.getElem?_eq_some_iff.1 e3).1 sm
    ·exact ih hds hd'
 have hG1: @bf.G (uc ⟨fun h=>if h=S.rows.length then some (w.heap.size+1)else ρ h,I,S.rows++[.obj (.loop (w.heap.size+1) L)],(w.alloc (.deferred (some []))).alloc (.loop L)⟩) ⟨fun h=>if h=S.rows.length then some (w.heap.size+1)else ρ h,I,S.rows++[.obj (.loop (w.heap.size+1) L)],(w.alloc (.deferred (some []))).alloc (.loop L)⟩:=⟨Ext.refl _,bf.pD (hx.trans hx1) hG⟩;have hh:=hit (w.heap.size+1) L (uc ⟨fun h=>if h=S.rows.length then some (w.heap.size+1)else ρ h,I,S.rows++[.obj (.loop (w.heap.size+1) L)],(w.alloc (.deferred (some []))).alloc (.loop L)⟩) (by rw[hL]) (by rw[hL]) (fun rows vals ups hr=>xk (L:=L) (wA:=wA) (wB:=wB) (fr:=S.fr) (h:=S.rows.length) ok1 (by rw[hL];exact sA) (by rw[hL];exact sB) (fun i=>by rw[hT];exact(hf i).mono hx1 ok) (by rw[hT];exact hl) (by rw[hL]) (by rw[hL]) (by rw[show L.params=ps by rw[hL]];exact hr));obtain⟨⟨fn2,hfn2,hnm,hbd⟩,hcall⟩:=hh;have hargs:dX ⟨fun h=>if h=S.rows.length then some (w.heap.size+1)else ρ h,I,S.rows++[.obj (.loop (w.heap.size+1) L)],(w.alloc (.deferred (some []))).alloc (.loop L)⟩ (#[Value.func (Fn.yield (w.heap.size+1)) #[] #[]]++cps).toList (.fn (.yield (w.heap.size+1)) [] []::cap):=by
  refine⟨by simp;omega,fun j v x hv hx=>?_⟩;cases j with
  |zero=>simp at hv hx;subst hv hx;exact .fn _ #[] #[] [] [] rfl rfl (fun j v x h _=>by simp at h) (fun j v x h _=>by simp at h)
  |succ j=>simp only[Array.toList_append,List.cons_append,List.nil_append,List.getElem?_cons_succ]at hv hx;exact(h4 j v x hv (by simpa using hx)).mono hx1 ok
 refine⟨w.heap.size+1,[{target:=.collected w.heap.size,args:= #[]}],(w.alloc (.deferred (some []))).alloc (.loop L),{target:=.fn (.func f) cps,args:= #[Value.func (Fn.yield (w.heap.size+1)) #[] #[]]},(w.alloc (.deferred (some []))).alloc (.loop L),f,#[Value.func (Fn.yield (w.heap.size+1)) #[] #[]]++cps,(w.alloc (.deferred (some []))).alloc (.loop L),?_,?_,fun _ _=>trivial,?_,fun h=>by simp[jY]at h,?_⟩
 ·rw[hL];exact run_enterLoop_outer _ _ _ _ _
 ·simp only[resolve,hfv];simp[go_sem]
 ·have hnm':¬fn2.name= "runtime.NumGoroutine" :=by simpa using hnm
  have hbd':¬fn2.body=none:=fun e=>by rw[e]at hbd;simp at hbd
  simp[invoke,callFunc,hfn2,hnm',hbd']
 ·refine pf ((hcall _ _ ok1 hG1 rfl hargs).mono ?_);rintro e w' ⟨u,c',v,rfl,rfl,ok',hx',hrep,hk⟩;obtain⟨hrow,hQ⟩:=hK _ _ _ _ hk;obtain⟨b,hρ,hgb,hg2⟩:=ok'.g.xS _ _ hrow;subst hgb;refine⟨_,_,run_endLoop hg2 (by rw[hL];simp),?_⟩;have hP:L.pending=none:=by rw[hL]
  obtain⟨okd,hxd⟩:=ju ok' S.rows.length (w.heap.size+1) (.loop (w.heap.size+1) L) (.loop (w.heap.size+1) {L with state:=.exhausted}) (.loop {L with state:=.exhausted}) hrow hρ (c'.w.putObj (w.heap.size+1) (.loop {L with state:=.exhausted})) rfl rfl rfl rfl ⟨rfl,World.putObj_heap_same (Array.getElem?_eq_some_iff.1 hg2).1⟩;have key:my c0 Q .normal {a with defers:={target:=.collected w.heap.size,args:= #[]}::a.defers} (c'.w.putObj (w.heap.size+1) (.loop {L with state:=.exhausted})):=⟨⟨S.fr,c'.rows.set S.rows.length (.obj (.loop (w.heap.size+1) {L with state:=.exhausted}))⟩,⟨c'.ρ,c'.I,okd,((hx.trans hx1).trans hx').trans hxd,(hmk.mono hx').mono hxd,hl,fun i=>(((hf i).mono hx1 ok).mono hx' ok1).mono hxd ok'⟩,hQ⟩;simp only[hP]at key|-;exact key
theorem cM[bf]{ro:Option Nat}{b0:Nat}{c0:Cx}(hb:c0.rows.length=b0)(hG:bf.G c0):∀(ac:AC) (code:Code) (Q:AX->St->Prop) (S:St) (a:Act) (w:World),ro=none\/ac.j8=true->cV P code=some ac.erase->dW P b0 ac Q S->Sat c0 S a w->code.wpIn (jY ro) 0 P (my c0 Q) a w
 | .skip,code,Q,S,a,w,hn,hc,hw,hs=>by rw[(pr hc).1 rfl];exact wpIn_skip ⟨S,hs,hw⟩
 | .exit i,code,Q,S,a,w,hn,hc,hw,hs=>by rw[(pr hc).2.1 i rfl];exact wpIn_exit ⟨S,hs,hw⟩
 | .ret,code,Q,S,a,w,hn,hc,hw,hs=>by rw[(pr hc).2.2.1 rfl];exact wpIn_ret ⟨S,hs,hw⟩
 | .bV m l,code,Q,S,a,w,hn,hc,hw,hs=>by obtain⟨id,ops,rfl,hst⟩:=sa hc;refine wpIn_region_list (mM ops.toList 0 l (Q .normal) _ a w hst hw (hs.grow m) hG fun S' a' w' hk hs'=>⟨S',hs',hk⟩)
 | .AY m fl l,code,Q,S,a,w,hn,hc,hw,hs=>by obtain⟨id,ops,rfl,hst⟩:=sa hc;refine wpIn_region_list (nU ops.toList 0 fl l (Q .normal) _ a w hst hw (hs.grow m) hG fun S' a' w' hk hs'=>⟨S',hs',hk⟩)
 | .iK m l,code,Q,S,a,w,hn,hc,hw,hs=>by obtain⟨id,ops,sts,pres,rfl,hst,hl,hm,h1,h2,h3,h4⟩:=tf hc;refine wpIn_region_any hm (s6 hst hl h2 h1 h3 h4 hw ?_ hG fun S' a' w' hk hs'=>⟨S',hs',hk⟩);obtain⟨ρ,I,ok,hx,hd,hl',hf⟩:=hs.grow m;have hstep:Ext ⟨ρ,I,(S.grow m).rows,w⟩ ⟨ρ,I,(S.grow m).rows,{w with drawn:=w.drawn+1}⟩:=⟨rfl,rfl,rfl,aq _,fun _ _ _=>rfl,fun _ h=>h,fun _ h=>.inl h,fun _ _ h=>.inl h,fun g=>bK.of_eq rfl rfl (fun _ _=>rfl)⟩;refine⟨ρ,I,⟨ok.inj,ok.own,fun g b sz es hb hr=>?_,ok.je,ok.jP,.step ok hstep fun h o hr=>⟨hr,rfl,fun _ _=>rfl⟩⟩,hx.trans hstep,hd.mono hstep,hl',fun i=>(hf i).mono hstep ok⟩;obtain⟨arr,ty,fz,h1,h2,h3⟩:=ok.cont g b sz es hb hr;exact⟨arr,ty,fz,h1,h2,h3.mono hstep ok⟩
 | .AR m l,code,Q,S,a,w,hn,hc,hw,hs=>by
  obtain⟨id,ops,rfl,hst⟩:=sa hc;rcases hw with hw|⟨k,s,hk,hw⟩
  ·exact wpIn_region_list (mM ops.toList 0 l (Q .normal) _ a w hst hw (hs.grow m) hG fun S' a' w' hk hs'=>⟨S',hs',hk⟩)
  refine wpIn_region_list (sw ops.toList 0 l k s _ _ a w hst hk hw (hs.grow m) hG fun o l' n' n'' S' a' w' hx hs' h1 h2=>?_);have key:if Region.wanted o (yielded ops a'.tmps)then o.wpIn (jY ro) 0 P a' w' (wpListIn (jY ro) 0 P ops (my c0 Q) l') (my c0 Q)else(∀f,o.about P w' a'.eval=some f->(jY ro).fn f)/\(wpListIn (jY ro) 0 P ops (my c0 Q) l') (a'.put o.dst undef) w':=by
   rcases hx with hx|hx
   ·exact tt h1 hx hs' hG fun ch ups w2 hq hs2=>⟨_,hs2,hq⟩
   ·exact lB h1 hx hs' hG (fun v rows' a2 w2 hr hs2=>mM l' n'' _ (Q .normal) _ a2 w2 h2 hr hs2 hG fun S3 a3 w3 hk3 hs3=>⟨S3,hs3,hk3⟩) (fun ch rows' w2 hq hs2=>⟨_,hs2,hq⟩)
  unfold wpListIn;split
  ·rename_i hw';rw[if_pos hw']at key;exact key
  ·rename_i hw';rw[if_neg hw']at key;exact key
 | .ri m l,code,Q,S,a,w,hn,hc,hw,hs=>by
  obtain⟨id,ops,sts,pres,rfl,hst,hl,hm,h1,h2,h3,h4⟩:=tf hc;have hsd:Sat c0 (S.grow m) a {w with drawn:=w.drawn+1}:=by obtain⟨ρ,I,ok,hx,hd,hl',hf⟩:=hs.grow m;have hstep:Ext ⟨ρ,I,(S.grow m).rows,w⟩ ⟨ρ,I,(S.grow m).rows,{w with drawn:=w.drawn+1}⟩:=⟨rfl,rfl,rfl,aq _,fun _ _ _=>rfl,fun _ h=>h,fun _ h=>.inl h,fun _ _ h=>.inl h,fun g=>bK.of_eq rfl rfl (fun _ _=>rfl)⟩;refine⟨ρ,I,⟨ok.inj,ok.own,fun g b sz es hb hr=>?_,ok.je,ok.jP,.step ok hstep fun h o hr=>⟨hr,rfl,fun _ _=>rfl⟩⟩,hx.trans hstep,hd.mono hstep,hl',fun i=>(hf i).mono hstep ok⟩;obtain⟨arr,ty,fz,h1,h2,h3⟩:=ok.cont g b sz es hb hr;exact⟨arr,ty,fz,h1,h2,h3.mono hstep ok⟩
  refine wpIn_region_any hm ?_;rcases hw with hw|⟨k,x,hk,hw⟩|⟨k,x,hk,hbar,hw⟩
  ·exact s6 hst hl h2 h1 h3 h4 hw hsd hG fun S' a' w' hk hs'=>⟨S',hs',hk⟩
  ·exact uw hst hl h2 h1 h3 h4 hk hw hsd hG fun ch S' a' w' hq hs'=>⟨S',hs',hq⟩
  ·exact vk hst hl h2 h1 h3 h4 hk hbar hw hsd hG (fun S' a' w' hk hs'=>⟨S',hs',hk⟩) fun ch S' a' w' hq hs'=>⟨S',hs',hq⟩
 | .seq x y,code,Q,S,a,w,hn,hc,hw,hs=>by
  obtain⟨cx,cy,rfl,h1,h2⟩:=mC hc;refine wpIn_seq (wpIn_mono (cM hb hG x cx _ S a w (hn.imp_right fun h=>(Bool.and_eq_true_iff.1 h).1) h1 hw hs) fun e a' w' hq=>?_);cases e with
  |normal=>obtain⟨S',hs',hq⟩:=hq;exact cM hb hG y cy Q S' a' w' (hn.imp_right fun h=>(Bool.and_eq_true_iff.1 h).2) h2 hq hs'
  |exit i=>exact hq
  |ret=>exact hq
  |goto l=>exact hq
  |panic ch=>exact hq
  |outgrown=>exact hq
 | .cut x y,code,Q,S,a,w,hn,hc,hw,hs=>by
  obtain⟨cx,cy,rfl,h1,h2⟩:=mC hc;obtain⟨M,hw,hm⟩:=hw;refine wpIn_seq (wpIn_mono (cM hb hG x cx _ S a w (hn.imp_right fun h=>(Bool.and_eq_true_iff.1 h).1) h1 hw hs) fun e a' w' hq=>?_);cases e with
  |normal=>obtain⟨S',hs',S'',hwk,hq⟩:=hq;exact cM hb hG y cy Q S'' a' w' (hn.imp_right fun h=>(Bool.and_eq_true_iff.1 h).2) h2 (hm S'' hq) (hwk c0 a' w' hb hs')
  |exit i=>exact hq
  |ret=>exact hq
  |goto l=>exact hq
  |panic ch=>exact hq
  |outgrown=>exact hq
 | .wk x,code,Q,S,a,w,hn,hc,hw,hs=>by obtain⟨S',hwk,hw⟩:=hw;exact cM hb hG x code Q S' a w hn hc hw (hwk c0 a w hb hs)
 | .cond c x y,code,Q,S,a,w,hn,hc,hw,hs=>by
  obtain⟨o,cx,cy,rfl,h0,h1,h2⟩:=A6 hc;simp only[dW,vT]at hw;obtain⟨ρ,I,ok,hx,hd,hl,hf⟩:=hs;have hr:=n9 ok hf o c h0;split at hw
  ·rename_i t e;rw[e]at hr;have hv:=gH hr;refine wpIn_cond_split hv (fun ht=>?_) (fun ht=>?_)
   ·exact cM hb hG x cx Q S a w (hn.imp_right fun h=>(Bool.and_eq_true_iff.1 h).1) h1 (hw.1 ht) ⟨ρ,I,ok,hx,hd,hl,hf⟩
   ·exact cM hb hG y cy Q S a w (hn.imp_right fun h=>(Bool.and_eq_true_iff.1 h).2) h2 (hw.2 ht) ⟨ρ,I,ok,hx,hd,hl,hf⟩
  ·rename_i e;rw[e]at hr;obtain⟨t,hv⟩:=BP hr;refine wpIn_cond_split hv (fun ht=>?_) (fun ht=>?_)
   ·exact cM hb hG x cx Q S a w (hn.imp_right fun h=>(Bool.and_eq_true_iff.1 h).1) h1 hw.1 ⟨ρ,I,ok,hx,hd,hl,hf⟩
   ·exact cM hb hG y cy Q S a w (hn.imp_right fun h=>(Bool.and_eq_true_iff.1 h).2) h2 hw.2 ⟨ρ,I,ok,hx,hd,hl,hf⟩
  ·exact hw.elim
 | .block id x,code,Q,S,a,w,hn,hc,hw,hs=>by
  obtain⟨cx,rfl,h1⟩:=yo hc;refine wpIn_block (wpIn_mono (cM hb hG x cx _ S a w hn h1 hw hs) fun e a' w' hq=>?_);cases e with
  |normal=>exact hq
  |exit i=>
   obtain⟨S',hs',hq⟩:=hq;simp only[Exit.inBlock];by_cases hi:i=id
   ·simp only[hi,if_true]at hq|-;exact⟨S',hs',hq⟩
   ·simp only[hi,if_false]at hq|-;exact⟨S',hs',hq⟩
  |ret=>exact hq
  |goto l=>exact hq
  |panic ch=>exact hq
  |outgrown=>exact hq
 | .label,code,Q,S,a,w,hn,hc,hw,hs=>by obtain⟨l,rfl⟩:=yw hc;exact wpIn_label ⟨S,hs,hw⟩
 | .scope x,code,Q,S,a,w,hn,hc,hw,hs=>by
  obtain⟨cx,rfl,h1⟩:=zb hc;refine na (wpIn_mono (cM hb hG x cx _ S a w hn h1 hw hs) fun e a' w' hq=>?_);cases e with
  |normal=>exact hq
  |exit i=>exact hq
  |ret=>exact hq
  |goto l=>exact hq
  |panic ch=>exact hq
  |outgrown=>exact hq
 | .loop x,code,Q,S,a,w,hn,hc,hw,hs=>by
  obtain⟨cx,rfl,h1⟩:=BK hc;obtain⟨I,n,S',hwk,hI,hround⟩:=hw;refine yp (fun n a w=>∃S,Sat c0 S a w/\I n S) (fun n a w hI=>?_) n a w ⟨S',hwk c0 a w hb hs,hI⟩;obtain⟨S2,hs2,hI2⟩:=hI;refine wpIn_mono (cM hb hG x cx _ S2 a w hn h1 (hround n S2 hI2) hs2) fun e a' w' hq=>?_;cases e with
  |normal=>obtain⟨S3,hs3,n',S4,hlt,hwk4,hI4⟩:=hq;exact⟨n',hlt,S4,hwk4 c0 a' w' hb hs3,hI4⟩
  |exit i=>exact hq
  |ret=>exact hq
  |goto l=>exact hq
  |panic ch=>exact hq
  |outgrown=>exact hq
 | .qB g ps x y,code,Q,S,a,w,hn,hc,hw,hs=>by obtain⟨o,cx,cy,rfl,h0,h1,h2⟩:=FG hc;obtain rfl:ro=none:=hn.resolve_right (by simp[AC.j8]);exact Bw hG hs h0 (fun hok ro b0 c0 Q S a w hb hG hw hs=>cM hb hG x cx Q S a w (.inr (Bool.and_eq_true_iff.1 hok).1) h1 hw hs) (fun hok ro b0 c0 Q S a w hb hG hw hs=>cM hb hG y cy Q S a w (.inr (Bool.and_eq_true_iff.1 hok).2) h2 hw hs) hw
theorem mS[bf]{b0:Nat}{c0:Cx}(hb:c0.rows.length=b0)(hG:bf.G c0)(ac:AC)(code:Code)(Q:AX->St->Prop)(S:St)(a:Act)(w:World)(hc:cV P code=some ac.erase)(hw:dW P b0 ac Q S)(hs:Sat c0 S a w):code.wp P (my c0 Q) a w:=(wpIn_wide (n:=0)).1 (cM (ro:=none) hb hG ac code Q S a w (.inl rfl) hc hw hs)
end
inductive ed(rows:Rows):V->V->Prop where
 |any (v:V):ed rows v .any
 |d (x:D):ed rows (.d x) (.d x)
 |bm (sz:Nat):ed rows (.d .bm) (.d (.sl sz []))
 |cl (sz h n off len:Nat) (es:List (List V)) (xs:List (List D)) (hrow:rows[h]? =some (.live sz es)) (hn:es.length=n) (hle:off+len<=n) (hlen:xs.length=len) (hsz:∀x∈xs,x.length=sz) (hel:∀(i j:Nat) (e:List V) (x:List D) (v:V) (y:D),es[off+i]? =some e->xs[i]? =some x->e[j]? =some v->x[j]? =some y->ed rows v (.d y)):ed rows (.cl sz h n off len) (.d (.sl sz xs))
 |aY (sz h n i off:Nat) (es:List (List V)) (e:List V) (cs:List D) (hrow:rows[h]? =some (.live sz es)) (hn:es.length=n) (he:es[i]? =some e) (hlen:off+cs.length<=sz) (hel:∀(j:Nat) (v:V) (y:D),e[off+j]? =some v->cs[j]? =some y->ed rows v (.d y)):ed rows (.aY sz h n i off) (.d (.ptr cs))
 |agg (cs cs':List V) (hlen:cs.length=cs'.length) (hel:∀(j:Nat) (v v':V),cs[j]? =some v->cs'[j]? =some v'->ed rows v v'):ed rows (.agg cs) (.agg cs')
 |cm (cs cs':List V) (hlen:cs.length=cs'.length) (hel:∀(j:Nat) (v v':V),cs[j]? =some v->cs'[j]? =some v'->ed rows v v'):ed rows (.cm cs) (.cm cs')
 |fn (f:Fn) (a b a' b':List V) (hla:a.length=a'.length) (hlb:b.length=b'.length) (ha:∀(j:Nat) (v v':V),a[j]? =some v->a'[j]? =some v'->ed rows v v') (hb:∀(j:Nat) (v v':V),b[j]? =some v->b'[j]? =some v'->ed rows v v'):ed rows (.fn f a b) (.fn f a' b')
section
variable{c:Cx}
theorem rY(ok:Ok c){v v':V}(hs:ed c.rows v v'):∀{u:Value},b7 c u v->b7 (bare (seen c) c.w) u v':=by
 induction hs with
 |any v=>exact fun _=>.any _
 |d x=>exact fun h=>fH (fun b hb=>.inl hb) (g9 h rfl)
 |bm sz=>
  intro u h;cases h with|d _ _ h=>
  cases h;exact .d _ _ (.lT _)
 |cl sz g n off len es xs hrow hn hle hlx hsz hel ih=>
  intro u h;rcases gQ h ⟨es,hrow,hn⟩with⟨rfl,rfl,rfl,rfl,hρ⟩|⟨cap,b,o,arr,ty,fz,rfl,hρ,hb,ho,hcap,hlc,hlen⟩
  ·have hes:xs=[]:=aQ hlx;subst hes;exact .d _ _ (.lT _)
  ·obtain⟨arr',ty',fz',hb',hfz,hc⟩:=fj ok hrow hρ;rw[hb]at hb';injection hb' with hb';injection hb' with e1 e2 e3;subst e1 e2 e3
   by_cases hl0:len=0
   ·subst hl0;have hes:xs=[]:=aQ hlx;subst hes;exact .d _ _ (.kK _ _ _)
   ·have ho':=ho.resolve_right om;subst ho';have key:∀(i j:Nat) (e:List D) (v:D),xs[i]? =some e->e[j]? =some v->∃x,arr[off*sz+(i*sz+j)]? =some x/\dV (seen c) c.w x v:=by
     intro i j x y h1 h2;have hi:i<len:=by have:=(ad.1 h1).1;omega
     have hj:j<sz:=by have:=(ad.1 h2).1;have:=hsz x (af h1);omega
     have h3:es[off+i]? =some es[off+i]:=ae om;have hez:=(hc.1 _ (af h3)).1;have h4:es[off+i][j]? =some (es[off+i][j]'om):=ae om;obtain⟨u,hu,hr⟩:=hc.2.2 _ _ _ _ h3 h4;refine⟨u,by rw[Nat.add_mul,Nat.add_assoc]at hu;exact hu,?_⟩;have:=ih i j _ x _ y h3 h1 h4 h2 hr;cases this with|d _ _ h=>exact h
    have hrep:=dV.sl (I:=seen c) (w:=c.w) sz xs b (off*sz) cap (fun i j=>arr.getD (off*sz+(i*sz+j)) undef) om (.inr ⟨g,hρ⟩) hsz (fun i e j v h1 h2=>by obtain⟨x,hx,_⟩:=key i j e v h1 h2;rw[cell_of hb,hx];simp[au,hx])
     (fun i e j v h1 h2=>by obtain⟨x,hx,hr⟩:=key i j e v h1 h2;simpa[au,hx]using hr)
    rw[hlx]at hrep;exact .d _ _ hrep
 |aY sz g n i off es e cs hrow hn he hlen hel ih=>
  intro u h;obtain⟨b,hρ,rfl⟩:=jM h ⟨es,hrow,hn⟩;obtain⟨arr,ty,fz,hb,hfz,hc⟩:=fj ok hrow hρ;have hez:=(hc.1 _ (af he)).1;have key:∀(j:Nat) (y:D),cs[j]? =some y->∃x,arr[i*sz+(off+j)]? =some x/\dV (seen c) c.w x y:=by
   intro j y h2;have hj:off+j<e.length:=by have:=(ad.1 h2).1;omega
   have h4:e[off+j]? =some e[off+j]:=ae hj;obtain⟨u,hu,hr⟩:=hc.2.2 _ _ _ _ he h4;refine⟨u,hu,?_⟩;have:=ih j _ y h4 h2 hr;cases this with|d _ _ h=>exact h
  refine .d _ _ (dV.ptr (I:=seen c) (w:=c.w) cs b (i*sz+off) (fun j=>arr.getD (i*sz+(off+j)) undef) (.inr ⟨g,hρ⟩) (fun j v h1=>?_) (fun j v h1=>?_))
  ·obtain⟨x,hx,_⟩:=key j v h1;rw[cell_of hb,Nat.add_assoc,hx];simp[au,hx]
  ·obtain⟨x,hx,hr⟩:=key j v h1;simpa[au,hx]using hr
 |agg cs cs' hl hel ih=>
  intro u h;cases h with|agg vs _ hlen hrep=>
  refine .agg vs cs' om fun j v' x h1 h2=>?_;have hj:j<cs.length:=by have:=(ad.1 h1).1;omega
  exact ih j _ v' (ae hj) h1 (hrep j _ x (ae hj) h2)
 |cm cs cs' hl hel ih=>
  intro u h;cases h with|cm vs _ hlen hrep=>
  refine .cm vs cs' om fun j v' x h1 h2=>?_;have hj:j<cs.length:=by have:=(ad.1 h1).1;omega
  exact ih j _ v' (ae hj) h1 (hrep j _ x (ae hj) h2)
 |fn f a b a' b' hla hlb ha hb iha ihb=>
  intro u h;cases h with|fn _ fs cps _ _ hf hc hfr hcr=>
  refine .fn f fs cps a' b' om om (fun j v' x h1 h2=>?_) (fun j v' x h1 h2=>?_)
  ·have hj:j<a.length:=by have:=(ad.1 h1).1;omega
   exact iha j _ v' (ae hj) h1 (hfr j _ x (ae hj) h2)
  ·have hj:j<b.length:=by have:=(ad.1 h1).1;omega
   exact ihb j _ v' (ae hj) h1 (hcr j _ x (ae hj) h2)
end
inductive RS where
 |tmp (t:Nat)
 |cell (a:Nat) (agg:Bool) (sz:Nat)
 deriving Inhabited
def gA:List RS->St->(List V->Prop)->Prop
 |[],_,K=>K []
 | .tmp t::l,S,K=>gA l S fun vs=>K (nth S.fr t::vs)
 | .cell a agg sz::l,S,K=>bU (.load agg sz (.t a)) (bw.ev S.fr) S.rows 0 fun v _=>gA l S fun vs=>K (v::vs)
def fM:List V->V
 |[v]=>v
 |vs=>.cm vs
def ow(rs:List RS)(v:V):AX->St->Prop
 | .normal,S=>gA rs S fun vs=>ed S.rows (fM vs) v
 | .ret,S=>gA rs S fun vs=>ed S.rows (fM vs) v
 |_,_=>False
def fk(P:Program):ResultVar->Option RS
 | .tmp t=>some (.tmp t)
 | .cell a t=>(ti P t).bind fun ag=>(lJ P t).map fun sz=>.cell a ag sz
theorem ky(l:List V)(i:Nat):nth l i=(l[i]?).getD .any:=by
 induction l generalizing i with
 |nil=>rfl
 |cons x l ih=>cases i with
  |zero=>rfl
  |succ i=>simpa[nth]using ih i
def PI:List Value->Value
 |[u]=>u
 |us=>.tuple us.toArray
theorem z6{α β:Type}{P:Program}{w:World}{x:Sem α}{a:α}(h:x.run P w=.ok a w)(f:α->Sem β):(x>>=f).run P w=(f a).run P w:=by simp[h]
theorem y6{P:Program}{w:World}{t:TypeId}{a u:Value}(h:(Instr.loadAt t a).run P w=.ok u w):(do loadVar t (<-asAddr a):Sem Value).run P w=.ok u w:=by
 unfold Instr.loadAt Instr.sureAddr at h;split at h
 ·exact h
 ·simp at h
theorem rX{P:Program}{c:Cx}(ok:Ok c){S:St}{tmps:Array Value}(hrows:c.rows=S.rows)(hf:∀i,b7 c (tmps.getD i undef) (nth S.fr i))(g:ResultVar->Sem Value) (hg:∀t,g (.tmp t)=pure (tmps.getD t undef)) (hg2:∀a t,g (.cell a t)=(do loadVar t (<-asAddr (tmps.getD a undef)))):∀(l:List ResultVar) (rs:List RS) (acc:List Value) (K:List V->Prop),l.mapM (fk P)=some rs->gA rs S K->∃us vs,(List.mapM.loop (m:=Sem) g l acc).run P c.w=.ok (acc.reverse++us) c.w/\K vs/\dX c us vs:=by
 intro l;induction l with
 |nil=>intro rs acc K h1 h2;simp at h1;subst h1;exact⟨[],[],by simp[List.mapM.loop],h2,rfl,sm⟩
 |cons r l ih=>
  intro rs acc K h1 h2;simp only[List.mapM_cons,Option.bind_eq_bind,Option.pure_def]at h1;obtain⟨r',hr,h1⟩:=ab.1 h1;obtain⟨rs',hrs,h1⟩:=ab.1 h1;injection h1 with h1;subst h1
  have fin:∀(u:Value) (v:V),(g r).run P c.w=.ok u c.w->b7 c u v->gA rs' S (fun vs=>K (v::vs))->∃us vs,(List.mapM.loop (m:=Sem) g (r::l) acc).run P c.w=.ok (acc.reverse++us) c.w/\K vs/\dX c us vs:=by
   intro u v hu hrep hw;obtain⟨us,vs,e1,e2,e3⟩:=ih rs' (u::acc) _ hrs hw;refine⟨u::us,v::vs,?_,e2,by simpa using e3.1,fun j v' x h1 h2=>?_⟩
   ·simp only[List.mapM.loop];rw[z6 hu];simpa using e1
   ·cases j with
    |zero=>simp at h1 h2;subst h1 h2;exact hrep
    |succ j=>exact e3.2 j v' x (by simpa using h1) (by simpa using h2)
  cases r with
  |tmp t=>
   simp only[fk]at hr;injection hr with hr;subst hr
   refine fin (tmps.getD t undef) _ ?_ (hf t) h2;rw[hg];rfl
  |cell a t=>simp only[fk]at hr;obtain⟨ag,ha,hr⟩:=ab.1 hr;obtain⟨sz,hs,rfl⟩:=aa.1 hr;simp only[gA]at h2;obtain⟨v,u,hk,he,hrep⟩:=tR (P:=P) ok (dK hs) (ld ha) (x:=.t a) (ev:=bw.ev S.fr) (hf:=0) (hf a) (by rw[hrows];exact h2);refine fin u v ?_ hrep hk;rw[hg2];exact y6 he
theorem iT{P:Program}{c:Cx}(ok:Ok c){S:St}{tmps:Array Value}{fn:Func}{rs:List RS}{K:List V->Prop}(hr:fn.results.toList.mapM (fk P)=some rs)(hrows:c.rows=S.rows) (hf:∀i,b7 c (tmps.getD i undef) (nth S.fr i)) (hw:gA rs S K):∃us vs,(results fn tmps).run P c.w=.ok (PI us) c.w/\K vs/\dX c us vs:=by
 obtain⟨us,vs,e1,e2,e3⟩:=rX ok hrows hf (fun| .tmp t=>pure (tmps.getD t undef)| .cell a t=>do loadVar t (<-asAddr (tmps.getD a undef))) (fun _=>rfl) (fun _ _=>rfl) fn.results.toList rs [] K hr hw;refine⟨us,vs,?_,e2,e3⟩;have hgen:∀(g:ResultVar->Sem Value),(∀t,g (.tmp t)=pure (tmps.getD t undef))->(∀a t,g (.cell a t)=(do loadVar t (<-asAddr (tmps.getD a undef))))->(Array.mapM g fn.results).run P c.w=.ok us.toArray c.w:=by
  intro g hg hg2;obtain⟨us',vs',e1',-,-⟩:=rX ok hrows hf g hg hg2 fn.results.toList rs [] K hr hw;have hgg:g=(fun| .tmp t=>pure (tmps.getD t undef)| .cell a t=>do loadVar t (<-asAddr (tmps.getD a undef))):=by
   funext r;cases r with
   |tmp t=>exact hg t
   |cell a t=>exact hg2 a t
  rw[hgg];have h0:=List.mapM_toArray (m:=Sem) (l:=fn.results.toList) (f:=fun|ResultVar.tmp t=>pure (tmps.getD t undef)| .cell a t=>do loadVar t (<-asAddr (tmps.getD a undef)));rw[Array.toArray_toList]at h0;rw[h0];simp only[List.mapM,Sem.run_map,e1];rfl
 unfold results;rw[z6 (hgen _ (fun _=>rfl) (fun _ _=>rfl))]
 match us with
 |[]=>rfl
 |[u]=>rfl
 |a::b::l=>rfl
theorem b7.same{c c':Cx}(hρ:c'.ρ=c.ρ)(hr:c'.rows=c.rows)(hI:c'.I=c.I)(hb:∀b,c.I b->c'.w.heap[b]? =c.w.heap[b]?)(ho:∀h b,c.ρ h=some b->c'.w.heap[b]? =c.w.heap[b]?){v:Value}{x:V}(h:b7 c v x):b7 c' v x:=by
 induction h with
 |any v=>exact .any v
 |d v x h=>exact .d v x (h.mono (fun b hb=>by rw[hI];exact hb) hb)
 |cl sz h n off len cap b o es arr ty fz hrow hn h1 h2 ho1 hcap hlc hlen=>exact .cl sz h n off len cap b o es arr ty fz (by rw[hr];exact hrow) hn (by rw[hρ];exact h1) ((ho h b h1).trans h2) ho1 hcap hlc hlen
 |c8 sz h hrow h1=>exact .c8 sz h (by rw[hr];exact hrow) (by rw[hρ];exact h1)
 |cW v sz h n off len hv hs=>exact .cW v sz h n off len hv (by rw[hr];exact hs)
 |aY sz h n i off b es hrow hn h1=>exact .aY sz h n i off b es (by rw[hr];exact hrow) hn (by rw[hρ];exact h1)
 |cD v sz h n i off hv hs=>exact .cD v sz h n i off hv (by rw[hr];exact hs)
 |oh v h k b o hrow h1 hv h2 h3=>exact .oh v h k b o (by rw[hr];exact hrow) (by rw[hρ];exact h1) hv h2 h3
 |agg vs cs hlen hrep ih=>exact .agg vs cs hlen ih
 |cm vs cs hlen hrep ih=>exact .cm vs cs hlen ih
 |fn f fs cps first cap hf hc hfr hcr ih1 ih2=>exact .fn f fs cps first cap hf hc ih1 ih2
 |gV v T u h=>exact .gV v T u h
theorem Im{c0 c:Cx}(ok:Ok c)(hx:Ext c0 c){D:Nat}(hn:c0.w.heap.size<=D)(hρ:∀h,c.ρ h≠some D)(hI:¬c.I D)(o:Obj):Ok ⟨c.ρ,c.I,c.rows,c.w.putObj D o⟩/\Ext c0 ⟨c.ρ,c.I,c.rows,c.w.putObj D o⟩/\∀v x,b7 c v x->b7 ⟨c.ρ,c.I,c.rows,c.w.putObj D o⟩ v x:=by
 have hoth:∀b,b≠D->(c.w.putObj D o).heap[b]? =c.w.heap[b]? :=fun b hb=>World.putObj_heap_other hb;have hsz:(c.w.putObj D o).heap.size=c.w.heap.size:=by simp[World.putObj]
 have hb1:∀b,c.I b->(c.w.putObj D o).heap[b]? =c.w.heap[b]? :=fun b hb=>hoth b (fun e=>hI (e▸hb));have hb2:∀h b,c.ρ h=some b->(c.w.putObj D o).heap[b]? =c.w.heap[b]? :=fun h b hb=>hoth b (fun e=>hρ h (e▸hb));have hrep:∀v x,b7 c v x->b7 ⟨c.ρ,c.I,c.rows,c.w.putObj D o⟩ v x:=fun v x h=>b7.same (c:=c) (c':=⟨c.ρ,c.I,c.rows,c.w.putObj D o⟩) rfl rfl rfl hb1 hb2 h;refine⟨⟨ok.inj,fun h b hb=>?_,fun h b sz es hb hr=>?_,ok.je,fun b hb=>?_,⟨fun h o1 hr=>?_,?_⟩⟩,⟨hx.os,hx.tape,hx.output,?_,fun b hb hh=>?_,hx.jP,hx.qf,hx.new,fun h=>?_⟩,hrep⟩
 ·obtain⟨h1,h2,h3⟩:=ok.own h b hb;exact⟨by simp only;rw[hsz];exact h1,h2,h3⟩
 ·obtain⟨arr,ty,fz,h1,h2,h3,h4,h5⟩:=ok.cont h b sz es hb hr;refine⟨arr,ty,fz,(hb2 h b hb).trans h1,h2,h3,h4,fun i e j v h6 h7=>?_⟩;obtain⟨x,h8,h9⟩:=h5 i e j v h6 h7;exact⟨x,h8,hrep _ _ h9⟩
 ·simp only;rw[hsz];exact ok.jP b hb
 ·obtain⟨b,h1,h2⟩:=ok.g.xS h o1 hr;exact⟨b,h1,h2.same (hb2 h b h1)⟩
 ·exact ok.g.pz.mono (fun _ h=>h) hb1
 ·simp only;rw[hsz];exact hx.size
 ·simp only;rw[hoth b om];exact hx.l9 b hb hh
 ·have hr:=hx.rows h;unfold bK at hr|-;split
  ·trivial
  ·rename_i e;rw[e]at hr;exact hr
  ·rename_i e;rw[e]at hr;exact hr
  ·rename_i e;rw[e]at hr;exact hr
  ·rename_i sz es e;rw[e]at hr;rcases hr with hr|⟨es',h1,hr|⟨h2,h3,h4⟩⟩
   ·exact .inl hr
   ·exact .inr ⟨es',h1,.inl hr⟩
   ·refine .inr ⟨es',h1,.inr ⟨h2,h3,fun b arr ty fz hb hc=>?_⟩⟩;obtain⟨arr',fz',h5,h6⟩:=h4 b arr ty fz hb hc;exact⟨arr',fz',(hb2 h b (h3.trans hb)).trans h5,h6⟩
theorem jo{P:Program}{fn:Func}{R:Ending->World->Prop}{c0:Cx}{S:St}{tmps:Array Value}{u:FrameMode}(hu:u≠ .run)(fin:∀w,Sat c0 S {tmps,defers:=[]} w->LeavesIn Fence.wide 0 P fn tmps R [] u w):∀(ds:List Deferred) (w:World),Sat c0 S {tmps,defers:=ds} w->LeavesInM Fence.wide 0 P fn tmps R ds u w
 |[],w,hs=>fin w hs
 |d::ds,w,⟨ρ,I,ok,hx,hd,hl,hf⟩=>by
  obtain⟨⟨D,h1,h2,h3,h4,h5,h6⟩,hds⟩:=hd;obtain⟨k1,k2,k3⟩:=Im (c:=⟨ρ,I,S.rows,w⟩) ok hx h2 h4 h5 (.deferred none);refine⟨hu,.inl ⟨D,_,by rw[h1],run_takeDeferred h3,jo hu fin ds _ ⟨ρ,I,k1,k2,?_,hl,fun i=>k3 _ _ (hf i)⟩⟩⟩;clear hf fin k3 k1 k2 hl;revert h6 hds;simp only;generalize hw':w.putObj D (.deferred none)=w';induction ds with
  |nil=>intros;trivial
  |cons d' ds ih=>rintro⟨⟨D',e1,e2,e3,e4,e5,e6⟩,hds⟩ h6;refine⟨⟨D',e1,e2,?_,e4,e5,e6⟩,ih hds (fun d hd=>h6 d (List.mem_cons_of_mem _ hd))⟩;have hne:D'≠D:=fun e=>h6 d' List.mem_cons_self (by rw[e1,e]);simp only;rw[<-hw',World.putObj_heap_other hne];exact e3
theorem jj{P:Program}{f:FuncId}{fn:Func}{code:Code}{args:Array Value}{w:World}{R:Ending->World->Prop}(hf:P.funcs[f]? =some fn)(hb:fn.body=some code)(c0:Cx) (h:code.wp P (fun e a w=>match e with
  | .normal=>∃S,Sat c0 S a w/\∀a' w',Sat c0 S a' w'->∃v,(results fn a'.tmps).run P w'=.ok v w'/\R (.returned v) w'
  | .ret=>∃S,Sat c0 S a w/\∀a' w',Sat c0 S a' w'->∃v,(results fn a'.tmps).run P w'=.ok v w'/\R (.returned v) w'
  | .panic ch=>∃S,Sat c0 S a w/\∀a' w',Sat c0 S a' w'->R (.panicked ch) w'
  |_=>False) {tmps:=args++Array.replicate (fn.ntmps-args.size) undef,defers:=[]} w):Calls P f args w R:=by
 refine(callsIn_wide (n:=0)).1 (callsIn_of_wp_marks hf hb trivial (wpIn_wide.2 (wp_mono h fun e a w' hq=>?_)) rfl);cases e with
 |normal=>obtain⟨S,hs,hq⟩:=hq;exact jo (u:=.returning) (S:=S) (c0:=c0) (tmps:=a.tmps) sm (fun w h=>hq {tmps:=a.tmps,defers:=[]} _ h) a.defers w' hs
 |ret=>obtain⟨S,hs,hq⟩:=hq;exact jo (u:=.returning) (S:=S) (c0:=c0) (tmps:=a.tmps) sm (fun w h=>hq {tmps:=a.tmps,defers:=[]} _ h) a.defers w' hs
 |exit i=>exact hq.elim
 |goto l=>exact hq.elim
 |panic ch=>obtain⟨S,hs,hq⟩:=hq;exact jo (u:=.panicking ch) (S:=S) (c0:=c0) (tmps:=a.tmps) sm (fun w h=>hq {tmps:=a.tmps,defers:=[]} _ h) a.defers w' hs
 |outgrown=>exact hq.elim
section
variable{P:Program}
theorem EU{f:FuncId}{fn:Func}{code:Code}{ac:AC}{vals:List V}{v:V}{rs:List RS}(hf:P.funcs[f]? =some fn)(hname:(fn.name== "runtime.NumGoroutine")=false) (hb:fn.body=some code) (hr:fn.results.toList.mapM (fk P)=some rs) (n:Nat) (hn:fn.ntmps=n) (hc:cV P code=some ac.erase) (hw:dW P 0 ac (ow rs v) ⟨vals++List.replicate (n-vals.length) (.cm []),[]⟩):CallP P f vals v:=by
 refine⟨⟨fn,hf,hname,by rw[hb];rfl⟩,fun I w args ok hargs=>jj hf hb (bare I w) ?_⟩;have hsat:Sat (bare I w) ⟨vals++List.replicate (n-vals.length) (.cm []),[]⟩ {tmps:=args++Array.replicate (fn.ntmps-args.size) undef,defers:=[]} w:=by
  have hlen:args.size=vals.length:=by simpa using hargs.1
  refine⟨fun _=>none,I,ok,Ext.refl _,trivial,by simp[hn];omega,fun i=>?_⟩;by_cases hi:i<vals.length
  ·have h1:nth (vals++List.replicate (n-vals.length) (.cm [])) i=vals[i]:=by rw[ky,aH hi,ae hi];rfl
   rw[h1];refine jr (hargs.2 i _ _ (ae hi) ?_) _ _;rw[au,Array.getElem?_append_left om];simp[hlen,hi]
  ·have h1:nth (vals++List.replicate (n-vals.length) (.cm [])) i=if i<n then .cm []else .any:=by
    rw[ky,aJ om,List.getElem?_replicate];by_cases h:i<n
    ·simp[show i-vals.length<n-vals.length by omega,h]
    ·simp[show¬i-vals.length<n-vals.length by omega,h]
   rw[h1];split
   ·have:(args++Array.replicate (fn.ntmps-args.size) undef).getD i undef=undef:=by rw[au,Array.getElem?_append_right om,Array.getElem?_replicate];split<;>rfl
    rw[this];exact .cm #[] [] rfl sm
   ·exact .any _
 have hb0:(bare I w).rows.length=0:=rfl;refine wp_mono (mS hb0 trivial ac code _ _ _ w hc hw hsat) fun e a' w' hq=>?_;have fin:∀S a' w',Sat (bare I w) S a' w'->(gA rs S fun vs=>ed S.rows (fM vs) v)->∃u,(results fn a'.tmps).run P w'=.ok u w'/\∃u' I',Ending.returned u=.returned u'/\Ok (bare I' w')/\Ext (bare I w) (bare I' w')/\b7 (bare I' w') u' v:=by
  rintro S a' w' ⟨ρ,I',ok',hx,hd,hl,hfr⟩ hs;obtain⟨us,vs,e1,e2,e3⟩:=iT (c:=⟨ρ,I',S.rows,w'⟩) ok' hr rfl hfr hs;refine⟨_,e1,_,seen ⟨ρ,I',S.rows,w'⟩,rfl,mR ok',?_,?_⟩
  ·refine⟨hx.os,hx.tape,hx.output,hx.size,fun b hb _=>hx.l9 b hb (by simp[bare]),fun b h=>.inl (hx.jP b h),fun b h=>?_,fun h b hb=>by simp[bare]at hb,fun h=>by unfold bK;simp[bare]⟩;rcases h with h|⟨g,h⟩
   ·exact hx.qf b h
   ·rcases hx.new g b h with h|h
    ·simp[bare]at h
    ·exact .inr (.inl h)
  ·refine rY (c:=⟨ρ,I',S.rows,w'⟩) ok' e2 ?_;obtain⟨e3,e4⟩:=e3
   match us,vs,e3 with
   |[u],[v],_=>exact e4 0 v u rfl rfl
   |[],[],_=>exact .cm #[] [] rfl sm
   |a::b::l,a'::b'::l',e3=>refine .cm _ _ (by simpa using e3) fun j v x h1 h2=>?_;exact e4 j v x h1 (by simpa using h2)
 cases e with
 |normal=>obtain⟨S,hs,hq⟩:=hq;exact⟨S,hs,fun a w h=>fin S a w h hq⟩
 |ret=>obtain⟨S,hs,hq⟩:=hq;exact⟨S,hs,fun a w h=>fin S a w h hq⟩
 |exit i=>obtain⟨S,hs,hq⟩:=hq;exact hq.elim
 |goto l=>exact hq.elim
 |panic ch=>obtain⟨S,hs,hq⟩:=hq;exact hq.elim
 |outgrown=>exact hq.elim
def yx(rs:List RS)(v:V)(sz:Nat)(es':List (List V)):AX->St->Prop
 | .normal,S=>∃S',fb 1 S S'/\S'.rows=[.live sz es']/\gA rs S' fun vs=>fM vs=v
 | .ret,S=>∃S',fb 1 S S'/\S'.rows=[.live sz es']/\gA rs S' fun vs=>fM vs=v
 |_,_=>False
def xe(rs:List RS)(K:V->Rows->Prop):AX->St->Prop
 | .normal,S=>gA rs S fun vs=>K (fM vs) S.rows
 | .ret,S=>gA rs S fun vs=>K (fM vs) S.rows
 |_,_=>False
def Bv(rs:List RS)(K:V->Rows->Prop)(Kp:List PanicEntry->Rows->Prop):AX->St->Prop
 | .normal,S=>gA rs S fun vs=>K (fM vs) S.rows
 | .ret,S=>gA rs S fun vs=>K (fM vs) S.rows
 | .fL ch,S=>Kp ch S.rows
 |_,_=>False
def E0(rs:List RS)(ch:List PanicEntry):AX->St->Prop:=Bv rs (fun _ _=>False) fun ch' _=>ch'=ch
theorem DX{f:FuncId}{fn:Func}{code:Code}{ac:AC}{vals:List V}{v:V}{sz:Nat}{es es':List (List V)}{rs:List RS}(hf:P.funcs[f]? =some fn)(hname:(fn.name== "runtime.NumGoroutine")=false) (hb:fn.body=some code) (hr:fn.results.toList.mapM (fk P)=some rs) (n:Nat) (hn:fn.ntmps=n) (hc:cV P code=some ac.erase) (hw:dW P 1 ac (yx rs v sz es') ⟨vals++List.replicate (n-vals.length) (.cm []),[.live sz es]⟩):qZ P f vals sz es v es':=by
 refine⟨⟨fn,hf,hname,by rw[hb];rfl⟩,fun c args ok hrows hargs=>jj hf hb c ?_⟩;have hce:c=⟨c.ρ,c.I,[.live sz es],c.w⟩:=by cases c;simp only at hrows;subst hrows;rfl
 have hsat:Sat c ⟨vals++List.replicate (n-vals.length) (.cm []),[.live sz es]⟩ {tmps:=args++Array.replicate (fn.ntmps-args.size) undef,defers:=[]} c.w:=by
  have hlen:args.size=vals.length:=by simpa using hargs.1
  refine⟨c.ρ,c.I,by rw[<-hce];exact ok,by rw[<-hce];exact Ext.refl _,trivial,by simp[hn];omega,fun i=>?_⟩;rw[<-hce];by_cases hi:i<vals.length
  ·have h1:nth (vals++List.replicate (n-vals.length) (.cm [])) i=vals[i]:=by rw[ky,aH hi,ae hi];rfl
   simp only[h1];refine hargs.2 i _ _ (ae hi) ?_;rw[au,Array.getElem?_append_left om];simp[hlen,hi]
  ·have h1:nth (vals++List.replicate (n-vals.length) (.cm [])) i=if i<n then .cm []else .any:=by
    rw[ky,aJ om,List.getElem?_replicate];by_cases h:i<n
    ·simp[show i-vals.length<n-vals.length by omega,h]
    ·simp[show¬i-vals.length<n-vals.length by omega,h]
   simp only[h1];split
   ·have:(args++Array.replicate (fn.ntmps-args.size) undef).getD i undef=undef:=by rw[au,Array.getElem?_append_right om,Array.getElem?_replicate];split<;>rfl
    rw[this];exact .cm #[] [] rfl sm
   ·exact .any _
 have hb0:c.rows.length=1:=by rw[hrows];rfl
 refine wp_mono (mS hb0 trivial ac code _ _ _ c.w hc hw hsat) fun e a' w' hq=>?_;have fin:∀S a' w',Sat c S a' w'->(∃S',fb 1 S S'/\S'.rows=[.live sz es']/\gA rs S' fun vs=>fM vs=v)->∃u,(results fn a'.tmps).run P w'=.ok u w'/\∃u' c',Ending.returned u=.returned u'/\w'=c'.w/\Ok c'/\Ext c c'/\c'.rows=[.live sz es']/\b7 c' u' v:=by
  rintro S a' w' hs ⟨S',hweak,hrows',hret⟩;obtain⟨ρ,I',ok',hx,hd,hl,hfr⟩:=hweak c a' w' hb0 hs;obtain⟨us,vs,e1,e2,e3⟩:=iT (c:=⟨ρ,I',S'.rows,w'⟩) ok' hr rfl hfr hret;refine⟨_,e1,_,⟨ρ,I',S'.rows,w'⟩,rfl,rfl,ok',hx,hrows',?_⟩;rw[<-e2];obtain⟨e3,e4⟩:=e3
  match us,vs,e3 with
  |[u],[v],_=>exact e4 0 v u rfl rfl
  |[],[],_=>exact .cm #[] [] rfl sm
  |a::b::l,a'::b'::l',e3=>refine .cm _ _ (by simpa using e3) fun j v x h1 h2=>?_;exact e4 j v x h1 (by simpa using h2)
 cases e with
 |normal=>obtain⟨S,hs,hq⟩:=hq;exact⟨S,hs,fun a w h=>fin S a w h hq⟩
 |ret=>obtain⟨S,hs,hq⟩:=hq;exact⟨S,hs,fun a w h=>fin S a w h hq⟩
 |exit i=>obtain⟨S,hs,hq⟩:=hq;exact hq.elim
 |goto l=>exact hq.elim
 |panic ch=>obtain⟨S,hs,hq⟩:=hq;exact hq.elim
 |outgrown=>exact hq.elim
theorem KI[bf]{f:FuncId}{fn:Func}{code:Code}{ac:AC}{vals:List V}{rows:Rows}{K:V->Rows->Prop}{rs:List RS}(hf:P.funcs[f]? =some fn)(hname:(fn.name== "runtime.NumGoroutine")=false) (hb:fn.body=some code) (hr:fn.results.toList.mapM (fk P)=some rs) (n:Nat) (hn:fn.ntmps=n) (hc:cV P code=some ac.erase) (hw:dW P rows.length ac (xe rs K) ⟨vals++List.replicate (n-vals.length) (.cm []),rows⟩):dn P f vals rows K:=by
 refine⟨⟨fn,hf,hname,by rw[hb];rfl⟩,fun c args ok hG hrows hargs=>jj hf hb c ?_⟩;have hce:c=⟨c.ρ,c.I,rows,c.w⟩:=by cases c;simp only at hrows;subst hrows;rfl
 have hsat:Sat c ⟨vals++List.replicate (n-vals.length) (.cm []),rows⟩ {tmps:=args++Array.replicate (fn.ntmps-args.size) undef,defers:=[]} c.w:=by
  have hlen:args.size=vals.length:=by simpa using hargs.1
  refine⟨c.ρ,c.I,by rw[<-hce];exact ok,by rw[<-hce];exact Ext.refl _,trivial,by simp[hn];omega,fun i=>?_⟩;rw[<-hce];by_cases hi:i<vals.length
  ·have h1:nth (vals++List.replicate (n-vals.length) (.cm [])) i=vals[i]:=by rw[ky,aH hi,ae hi];rfl
   simp only[h1];refine hargs.2 i _ _ (ae hi) ?_;rw[au,Array.getElem?_append_left om];simp[hlen,hi]
  ·have h1:nth (vals++List.replicate (n-vals.length) (.cm [])) i=if i<n then .cm []else .any:=by
    rw[ky,aJ om,List.getElem?_replicate];by_cases h:i<n
    ·simp[show i-vals.length<n-vals.length by omega,h]
    ·simp[show¬i-vals.length<n-vals.length by omega,h]
   simp only[h1];split
   ·have:(args++Array.replicate (fn.ntmps-args.size) undef).getD i undef=undef:=by rw[au,Array.getElem?_append_right om,Array.getElem?_replicate];split<;>rfl
    rw[this];exact .cm #[] [] rfl sm
   ·exact .any _
 have hb0:c.rows.length=rows.length:=by rw[hrows]
 refine wp_mono (mS hb0 hG ac code _ _ _ c.w hc hw hsat) fun e a' w' hq=>?_;have fin:∀S a' w',Sat c S a' w'->(gA rs S fun vs=>K (fM vs) S.rows)->∃u,(results fn a'.tmps).run P w'=.ok u w'/\∃u' c' v,Ending.returned u=.returned u'/\w'=c'.w/\Ok c'/\Ext c c'/\b7 c' u' v/\K v c'.rows:=by
  rintro S a' w' ⟨ρ,I',ok',hx,hd,hl,hfr⟩ hret;obtain⟨us,vs,e1,e2,e3⟩:=iT (c:=⟨ρ,I',S.rows,w'⟩) ok' hr rfl hfr hret;refine⟨_,e1,_,⟨ρ,I',S.rows,w'⟩,fM vs,rfl,rfl,ok',hx,?_,e2⟩;obtain⟨e3,e4⟩:=e3
  match us,vs,e3 with
  |[u],[v],_=>exact e4 0 v u rfl rfl
  |[],[],_=>exact .cm #[] [] rfl sm
  |a::b::l,a'::b'::l',e3=>refine .cm _ _ (by simpa using e3) fun j v x h1 h2=>?_;exact e4 j v x h1 (by simpa using h2)
 cases e with
 |normal=>obtain⟨S,hs,hq⟩:=hq;exact⟨S,hs,fun a w h=>fin S a w h hq⟩
 |ret=>obtain⟨S,hs,hq⟩:=hq;exact⟨S,hs,fun a w h=>fin S a w h hq⟩
 |exit i=>obtain⟨S,hs,hq⟩:=hq;exact hq.elim
 |goto l=>exact hq.elim
 |panic ch=>obtain⟨S,hs,hq⟩:=hq;exact hq.elim
 |outgrown=>exact hq.elim
theorem Ar[bf]{f:FuncId}{fn:Func}{code:Code}{ac:AC}{vals:List V}{rows:Rows}{K:V->Rows->Prop}{Kp:List PanicEntry->Rows->Prop}{rs:List RS}(hf:P.funcs[f]? =some fn)(hname:(fn.name== "runtime.NumGoroutine")=false) (hb:fn.body=some code) (hr:fn.results.toList.mapM (fk P)=some rs) (n:Nat) (hn:fn.ntmps=n) (hc:cV P code=some ac.erase) (hw:dW P rows.length ac (Bv rs K Kp) ⟨vals++List.replicate (n-vals.length) (.cm []),rows⟩):kS P f vals rows K Kp:=by
 refine⟨⟨fn,hf,hname,by rw[hb];rfl⟩,fun c args ok hG hrows hargs=>jj hf hb c ?_⟩;have hce:c=⟨c.ρ,c.I,rows,c.w⟩:=by cases c;simp only at hrows;subst hrows;rfl
 have hsat:Sat c ⟨vals++List.replicate (n-vals.length) (.cm []),rows⟩ {tmps:=args++Array.replicate (fn.ntmps-args.size) undef,defers:=[]} c.w:=by
  have hlen:args.size=vals.length:=by simpa using hargs.1
  refine⟨c.ρ,c.I,by rw[<-hce];exact ok,by rw[<-hce];exact Ext.refl _,trivial,by simp[hn];omega,fun i=>?_⟩;rw[<-hce];by_cases hi:i<vals.length
  ·have h1:nth (vals++List.replicate (n-vals.length) (.cm [])) i=vals[i]:=by rw[ky,aH hi,ae hi];rfl
   simp only[h1];refine hargs.2 i _ _ (ae hi) ?_;rw[au,Array.getElem?_append_left om];simp[hlen,hi]
  ·have h1:nth (vals++List.replicate (n-vals.length) (.cm [])) i=if i<n then .cm []else .any:=by
    rw[ky,aJ om,List.getElem?_replicate];by_cases h:i<n
    ·simp[show i-vals.length<n-vals.length by omega,h]
    ·simp[show¬i-vals.length<n-vals.length by omega,h]
   simp only[h1];split
   ·have:(args++Array.replicate (fn.ntmps-args.size) undef).getD i undef=undef:=by rw[au,Array.getElem?_append_right om,Array.getElem?_replicate];split<;>rfl
    rw[this];exact .cm #[] [] rfl sm
   ·exact .any _
 have hb0:c.rows.length=rows.length:=by rw[hrows]
 refine wp_mono (mS hb0 hG ac code _ _ _ c.w hc hw hsat) fun e a' w' hq=>?_;have fin:∀S a' w',Sat c S a' w'->(gA rs S fun vs=>K (fM vs) S.rows)->∃u,(results fn a'.tmps).run P w'=.ok u w'/\((∃u' c' v,Ending.returned u=.returned u'/\w'=c'.w/\Ok c'/\Ext c c'/\b7 c' u' v/\K v c'.rows)\/(∃ch c',Ending.returned u=.panicked ch/\w'=c'.w/\Ok c'/\Ext c c'/\Kp ch c'.rows)):=by
  rintro S a' w' ⟨ρ,I',ok',hx,hd,hl,hfr⟩ hret;obtain⟨us,vs,e1,e2,e3⟩:=iT (c:=⟨ρ,I',S.rows,w'⟩) ok' hr rfl hfr hret;refine⟨_,e1,.inl ⟨_,⟨ρ,I',S.rows,w'⟩,fM vs,rfl,rfl,ok',hx,?_,e2⟩⟩;obtain⟨e3,e4⟩:=e3
  match us,vs,e3 with
  |[u],[v],_=>exact e4 0 v u rfl rfl
  |[],[],_=>exact .cm #[] [] rfl sm
  |a::b::l,a'::b'::l',e3=>refine .cm _ _ (by simpa using e3) fun j v x h1 h2=>?_;exact e4 j v x h1 (by simpa using h2)
 cases e with
 |normal=>obtain⟨S,hs,hq⟩:=hq;exact⟨S,hs,fun a w h=>fin S a w h hq⟩
 |ret=>obtain⟨S,hs,hq⟩:=hq;exact⟨S,hs,fun a w h=>fin S a w h hq⟩
 |exit i=>obtain⟨S,hs,hq⟩:=hq;exact hq.elim
 |goto l=>exact hq.elim
 |panic ch=>obtain⟨S,hs,hq⟩:=hq;exact⟨S,hs,fun a' w' ⟨ρ,I',ok',hx,_⟩=>.inr ⟨ch,⟨ρ,I',S.rows,w'⟩,rfl,rfl,ok',hx,hq⟩⟩
 |outgrown=>exact hq.elim
theorem BO{f:FuncId}{fn:Func}{code:Code}{ac:AC}{vals:List V}{sz:Nat}{es:List (List V)}{ch:List PanicEntry}{rs:List RS}(hf:P.funcs[f]? =some fn)(hname:(fn.name== "runtime.NumGoroutine")=false) (hb:fn.body=some code) (hr:fn.results.toList.mapM (fk P)=some rs) (n:Nat) (hn:fn.ntmps=n) (hc:cV P code=some ac.erase) (hw:dW P 1 ac (E0 rs ch) ⟨vals++List.replicate (n-vals.length) (.cm []),[.live sz es]⟩):nZ P f vals sz es ch:=by
 have hx:=Ar (K:=fun _ _=>False) (Kp:=fun ch' _=>ch'=ch) hf hname hb hr n hn hc (rows:=[.live sz es]) hw;refine⟨hx.1,fun c args ok hrows hargs=>(hx.2 c args ok trivial hrows hargs).mono ?_⟩;rintro e w' (⟨_,_,_,_,_,_,_,_,h⟩|⟨ch',c',e1,e2,e3,e4,e5⟩)
 ·exact h.elim
 ·subst e5;exact⟨c',e1,e2,e3,e4⟩
end
end Go.Vx
