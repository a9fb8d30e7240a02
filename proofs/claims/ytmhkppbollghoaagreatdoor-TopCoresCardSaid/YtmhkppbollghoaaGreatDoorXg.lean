/- Proved: rules of a compiled form of the code, sound for the model. Conditions: none but those that each lemma states. -/
import Derived.Test.YtmhkppbollghoaaGreatDoorXf
import Derived.RangeFuncIn
import Derived.RangeFuncRecord
import Derived.RangeFuncLeaves
set_option linter.unusedSectionVars false
set_option linter.unusedSimpArgs false
set_option linter.unusedVariables false
namespace Go.Vx
section
variable[bf]{P:Program}{ops:Array Oper}{Q:Exit->Act->World->Prop}{c0:Cx}{base:Nat}{S0:St}{sl:List (bn×List Nat)}{tr:Tr}
theorem A3{k:Nat}{x:bn×List Nat}{p:V×List (Nat×bd)}(hx:sl[k]? =some x)(hp:tr[k]? =some p):eK S0 sl tr (k+1)=(eK S0 sl tr k).after x.1 p.1 p.2:=by simp[eK,hx,hp]
theorem rW(k:Nat):(eK S0 sl tr k).fr.length=S0.fr.length/\(eK S0 sl tr k).rows.length=S0.rows.length:=by
 induction k with
 |zero=>exact⟨rfl,rfl⟩
 |succ k ih=>
  unfold eK;split
  ·simp[St.after,pO,jD,ih]
  ·exact ih
theorem uF{t m:Nat}:∀(d:Nat),(∀j,m<=j->j<m+d->∀x,sl[j]? =some x->x.1.dst≠some t)->nth (eK S0 sl tr (m+d)).fr t=nth (eK S0 sl tr m).fr t
 |0,_=>rfl
 |d+1,h=>by
  have ih:=uF d fun j h1 h2=>h j h1 om;rw[<-ih];show nth (eK S0 sl tr (m+d+1)).fr t=_;have hq:=fun x hx=>h (m+d) om om x hx;clear ih h;generalize m+d=q at*;simp only[eK];split
  ·rename_i x p hx hp;simp only[St.after,sc];rw[if_neg (fun hh=>hq x hx hh.1)]
  ·rfl
theorem pw{g m:Nat}:∀(d:Nat),(∀j,m<=j->j<m+d->∀p,tr[j]? =some p->g∉p.2.map (·.1))->(eK S0 sl tr (m+d)).rows[g]? =(eK S0 sl tr m).rows[g]?
 |0,_=>rfl
 |d+1,h=>by
  have ih:=pw d fun j h1 h2=>h j h1 om;rw[<-ih];show(eK S0 sl tr (m+d+1)).rows[g]? =_;have hq:=fun p hp=>h (m+d) om om p hp;clear ih h;generalize m+d=q at*;simp only[eK];split
  ·rename_i x p hx hp;simp only[St.after];exact fZ _ _ _ (hq p hp)
  ·rfl
structure Ay(c0:Cx)(n:Nat)(S0:St)(sl:List (bn×List Nat))(tr:Tr)(Bk Dn:Nat->Bool)(L:Array Bool)(ST:St)(a:Act)(w:World):Prop where
 hL:L.size=n
 ma:∀(j:Nat) (x:bn×List Nat),sl[j]? =some x->L.getD j false=true->∀i∈x.2,L.getD i false=true
 AS:∀j,j<n->Dn j=true->L.getD j false=true
 EZ:∀j,Bk j=true->L.getD j false=false
 sat:Sat c0 ST a w
 fl:ST.fr.length=S0.fr.length
 rl:ST.rows.length=S0.rows.length
 F:∀(t k:Nat),k<=n->(∀(j:Nat) (x:bn×List Nat),sl[j]? =some x->x.1.dst=some t->(j<k↔L.getD j false=true))->nth ST.fr t=nth (eK S0 sl tr k).fr t
 R:∀(g k:Nat),k<=n->(∀(j:Nat) (p:V×List (Nat×bd)),tr[j]? =some p->g∈p.2.map (·.1)->(j<k↔L.getD j false=true))->ST.rows[g]? =(eK S0 sl tr k).rows[g]?
theorem qC{ro:Option Nat}{pres:List (List Nat)}{sts:List bn}{sl0:List (bn×List Nat)}{A:List (List Nat×List Nat)}{Bk Dn:Nat->Bool}(hc:dP P ops ops.toList 0=some sts)(hsl:sl0=sts.zip pres)(hpl:pres.length=sts.length)(hpre:qW ops.toList pres=true) (hslots:ix sl=true) (hdown:il ops.toList=true) (hG:bf.G c0) (hmask:sl=dr (fun j=>Bk j||Dn j) sl0) (htr:tr.length=sl.length) (hstep:∀(k:Nat) (x:bn×List Nat),sl[k]? =some x->∃p F,tr[k]? =some p/\xD P base x.1 (eK S0 sl tr k) p.1 p.2 F/\A[k]? =some (F,p.2.map (·.1))/\(∀g∈p.2.map (·.1),g∈F)/\∀(j:Nat) (q:List Nat×List Nat),j<k->A[j]? =some q->j∉x.2->(∀g∈q.2,g∉F)/\∀g∈p.2.map (·.1),g∉q.1) (hzero:∀(L:Array Bool) (ST:St) (a:Act) (w:World),Ay c0 ops.size S0 sl tr Bk Dn L ST a w->(∀j,j<ops.size->L.getD j false=true)->ST=eK S0 sl tr ops.size->Q .normal a w) (hblk:∀(fuel:Nat) (L:Array Bool) (ST:St) (a:Act) (w:World) (i:Nat),MF ops.size L=fuel+1->Ay c0 ops.size S0 sl tr Bk Dn L ST a w->i<ops.size->L.getD i false=false->Bk i=true->(∀j∈pres[i]?.getD [],L.getD j false=true)->wpOpIn (jY ro) 0 P ops Q i (wpAnyIn (jY ro) 0 P .any ops Q fuel (L.setIfInBounds i true)) a w):∀(fuel:Nat) (L:Array Bool) (ST:St) (a:Act) (w:World),MF ops.size L=fuel->Ay c0 ops.size S0 sl tr Bk Dn L ST a w->wpAnyIn (jY ro) 0 P .any ops Q fuel L a w:=by
 obtain⟨hlen,hget⟩:=fI _ _ _ hc;have hn0:sl0.length=ops.size:=by rw[hsl,List.length_zip,hlen,hpl,hlen];simp
 have hn:sl.length=ops.size:=by rw[hmask,eQ,hn0]
 have hat:∀(i:Nat) (o:Oper),ops[i]? =some o->Bk i=false->Dn i=false->∃(s:bn) (pre:List Nat) (n':Nat),sl[i]? =some (s,pre)/\pres[i]? =some pre/\jk P ops o n'=some s:=by
  intro i o ho hb hd;obtain⟨s,n',h1,h2⟩:=hget i o (by simpa using ho);have hi:i<pres.length:=by rw[hpl];exact(ad.1 h1).1
  have h3:sl0[i]? =some (s,pres[i]):=by rw[hsl,List.getElem?_zip_eq_some];exact⟨h1,ae hi⟩
  refine⟨s,pres[i],n',?_,ae hi,h2⟩;rw[hmask,eP h3,hb,hd];rfl
 have hpz:∀(j:Nat) (x:bn×List Nat),sl[j]? =some x->pres[j]? =some x.2:=by
  intro j x hx;have hj:j<sl0.length:=by rw[hn0,<-hn];exact(ad.1 hx).1
  obtain⟨y,h3⟩:∃y,sl0[j]? =some y:=⟨_,ae hj⟩;rw[hmask,eP h3]at hx;injection hx with hx
  have h4:pres[j]? =some y.2:=by rw[hsl,List.getElem?_zip_eq_some]at h3;exact h3.2
  rw[h4,<-hx];split<;>rfl
 have hWF:∀(i:Nat) (x:bn×List Nat) (p:V×List (Nat×bd)),sl[i]? =some x->tr[i]? =some p->∃F,xD P base x.1 (eK S0 sl tr i) p.1 p.2 F/\A[i]? =some (F,p.2.map (·.1))/\(∀g∈p.2.map (·.1),g∈F)/\∀(j:Nat) (q:List Nat×List Nat),j<i->A[j]? =some q->j∉x.2->(∀g∈q.2,g∉F)/\∀g∈p.2.map (·.1),g∉q.1:=by
  intro i x p hx hp;obtain⟨p',F,e1,e2,e3,e4,e5⟩:=hstep i x hx;rw[hp]at e1;injection e1 with e1;subst e1
  exact⟨F,e2,e3,e4,e5⟩
 intro fuel;induction fuel with
 |zero=>
  intro L ST a w hu hst0;obtain⟨hL,ma,AS,EZ,hsat,hfl,hrl,hF,hR⟩:=hst0;have hall:∀j,j<ops.size->L.getD j true=true:=by
   intro j hj;have h0:∀b∈List.range ops.size,¬((!L.getD b true)=true):=by have:=List.countP_eq_zero.1 hu;exact this
   have:=h0 j (List.mem_range.2 hj);simpa using this
  have hall':∀j,j<ops.size->L.getD j false=true:=by intro j hj;have:=hall j hj;rw[au,Array.getElem?_eq_getElem om]at this|-;simpa using this
  have hrd:Region.ready .any ops L=[]:=by unfold Region.ready;rw[List.filter_eq_nil_iff];intro i hi;have:=hall i (List.mem_range.1 hi);simp[this]
  refine⟨hrd,hzero L ST a w ⟨hL,ma,AS,EZ,hsat,hfl,hrl,hF,hR⟩ hall' ?_⟩;have h1:ST=eK S0 sl tr ops.size:=by
   have hl:=rW (S0:=S0) (sl:=sl) (tr:=tr) ops.size;have hfr:ST.fr=(eK S0 sl tr ops.size).fr:=CN om fun t=>hF t ops.size (aq _) fun j x hx _=>by
    have hj:j<ops.size:=by rw[<-hn];exact(ad.1 hx).1
    simp[hj,hall' j hj]
   have hrr:ST.rows=(eK S0 sl tr ops.size).rows:=List.ext_getElem? fun g=>hR g ops.size (aq _) fun j p hp _=>by
    have hj:j<ops.size:=by rw[<-hn,<-htr];exact(ad.1 hp).1
    simp[hj,hall' j hj]
   cases ST;simp only at hfr hrr;rw[hfr,hrr]
  exact h1
 |succ fuel ih=>
  intro L ST a w hu hst0;have hst1:=hst0;obtain⟨hL,ma,AS,EZ,hsat,hfl,hrl,hF,hR⟩:=hst0;refine⟨fun hrd=>?_,fun i hi=>?_⟩
  ·
   exfalso;have hex:∃j,j<ops.size/\L.getD j true=false:=by have hpos:0<MF ops.size L:=om;obtain⟨j,hj,hj2⟩:=List.countP_pos_iff.1 hpos;exact⟨j,List.mem_range.1 hj,by simpa using hj2⟩
   have hleast:∃j,(j<ops.size/\L.getD j true=false)/\∀m,m<j->¬(m<ops.size/\L.getD m true=false):=by
    obtain⟨j,hj⟩:=hex;induction j using Nat.strongRecOn with
    |_ j ihj=>
     by_cases hm:∃m,m<j/\(m<ops.size/\L.getD m true=false)
     ·obtain⟨m,hlt,hm⟩:=hm;exact ihj m hlt hm
     ·exact⟨j,hj,fun m hm1 hm2=>hm ⟨m,hm1,hm2⟩⟩
   obtain⟨j,⟨hj1,hj2⟩,hj3⟩:=hleast;have hmem:j∈Region.ready .any ops L:=by
    unfold Region.ready;refine List.mem_filter.2 ⟨List.mem_range.2 hj1,?_⟩;have ho:ops[j]? =some ops[j]:=Array.getElem?_eq_getElem hj1;simp only[hj2,ho,Option.map_some,Option.getD_some,Bool.not_false,Bool.true_and];rw[Array.all_eq_true_iff_forall_mem];intro e he;by_cases hb:Region.binds .any e=true
    ·have hlt:=nH hdown (j:=j) (o:=ops[j]) sm (by simpa using he) hb;have:=hj3 e.on hlt;have h2:L.getD e.on true=true:=by
      cases hh:L.getD e.on true with
      |true=>rfl
      |false=>exact absurd ⟨om,hh⟩ this
     have h3:L.getD e.on false=true:=by rw[au,Array.getElem?_eq_getElem om]at h2|-;simpa using h2
     simp[h3]
    ·simp[hb]
   rw[hrd]at hmem;simp at hmem
  ·
   unfold Region.ready at hi;obtain⟨hin,hrdy⟩:=List.mem_filter.1 hi;have hin:=List.mem_range.1 hin;have ho:ops[i]? =some ops[i]:=Array.getElem?_eq_getElem hin;simp only[ho,Option.map_some,Option.getD_some,av,Bool.not_eq_true']at hrdy;obtain⟨hiL,hedges⟩:=hrdy;have hiT:L.getD i false=false:=by rw[au,Array.getElem?_eq_getElem om]at hiL|-;simpa using hiL
   have hpreT0:∀j∈pres[i]?.getD [],L.getD j false=true:=by
    intro j hj;obtain⟨e,he,hb,hej⟩:=rh hpre (j:=i) (o:=ops[i]) sm hj;have heT:L.getD e.on false=true:=by have:=(Array.all_eq_true_iff_forall_mem.1 hedges) e (by simpa using he);simpa[hb]using this
    rcases hej with rfl|hej
    ·exact heT
    ·have hlt:=nH hdown (j:=i) (o:=ops[i]) sm he hb;have heo:e.on<sl.length:=om;have hse:sl[e.on]? =some sl[e.on]:=ae heo;have:=hpz _ _ hse;rw[this]at hej;exact ma e.on _ hse heT j (by simpa using hej)
   by_cases hbi:Bk i=true
   ·exact hblk fuel L ST a w i hu hst1 hin hiT hbi hpreT0
   have hbi:Bk i=false:=by simpa using hbi
   have hdi:Dn i=false:=by
    cases h:Dn i with
    |false=>rfl
    |true=>rw[AS i hin h]at hiT;cases hiT
   obtain⟨s,pre,n',hx,hpi,hcs⟩:=hat i _ ho hbi hdi;have hti:i<tr.length:=by rw[htr,hn];exact hin
   have hp:tr[i]? =some tr[i]:=ae hti;generalize tr[i]=p at hp;obtain⟨F,hst,hAi,hsub,hcomp⟩:=hWF i _ p hx hp;have hpreT:∀j∈pre,L.getD j false=true:=fun j hj=>hpreT0 j (by rw[hpi];simpa using hj);have hlater:∀(j:Nat) (x:bn×List Nat),sl[j]? =some x->L.getD j false=true->i∉x.2:=by intro j x hxj hT hm;have:=ma j x hxj hT i hm;rw[hiT]at this;cases this
   have hreads:∀t∈s.reads,nth ST.fr t=nth (eK S0 sl tr i).fr t:=by
    intro t ht;refine hF t i om fun j x hxj hd=>⟨fun hj=>?_,fun hT=>?_⟩
    ·by_cases hm:j∈pre
     ·exact hpreT j hm
     ·exact absurd ht ((jx hslots hxj hx hj hm).1 t hd).1
    ·rcases Nat.lt_trichotomy j i with h|h|h
     ·exact h
     ·subst h;rw[hiT]at hT;cases hT
     ·exact absurd ht ((jx hslots hx hxj h (hlater j x hxj hT)).2 t hd)
   have hAj:∀(j:Nat) (p':V×List (Nat×bd)),tr[j]? =some p'->∃x F,sl[j]? =some x/\A[j]? =some (F,p'.2.map (·.1)):=by
    intro j p' hpj;have hj:j<sl.length:=by rw[<-htr];exact(ad.1 hpj).1
    have hxj:sl[j]? =some sl[j]:=ae hj;obtain⟨F,_,h,_⟩:=hWF j _ p' hxj hpj;exact⟨_,F,hxj,h⟩
   have hfoot:∀g∈F,ST.rows[g]? =(eK S0 sl tr i).rows[g]? :=by
    intro g hg;refine hR g i om fun j p' hpj hgp=>⟨fun hj=>?_,fun hT=>?_⟩
    ·by_cases hm:j∈pre
     ·exact hpreT j hm
     ·obtain⟨x,_,hxj,hAx⟩:=hAj j p' hpj;exact absurd hg ((hcomp j _ hj hAx hm).1 g hgp)
    ·rcases Nat.lt_trichotomy j i with h|h|h
     ·exact h
     ·subst h;rw[hiT]at hT;cases hT
     ·obtain⟨x,_,hxj,hAx⟩:=hAj j p' hpj;obtain⟨_,_,_,_,h4⟩:=hWF j x p' hxj hpj;exact absurd hg ((h4 i _ h hAi (hlater j x hxj hT)).2 g hgp)
   have hst':gO P base s ST p.1 p.2:=A5 hreads hfoot hst;have hsz:∀(j:Nat),(L.setIfInBounds i true).getD j false=true↔(L.getD j false=true\/j=i):=by
    intro j;rw[au,Array.getElem?_setIfInBounds];by_cases hji:i=j
    ·subst hji;simp[hL,hin]
    ·rw[if_neg hji,<-au];exact⟨.inl,fun h=>h.resolve_right (Ne.symm hji)⟩
   have hlS:=rW (S0:=S0) (sl:=sl) (tr:=tr) i;have hsucc:=A3 (S0:=S0) hx hp;have hgo:∀a' w',Sat c0 (ST.after s p.1 p.2) a' w'->wpAnyIn (jY ro) 0 P .any ops Q fuel (L.setIfInBounds i true) a' w':=by
    intro a' w' hsat';refine ih (L.setIfInBounds i true) (ST.after s p.1 p.2) a' w' ?_ ⟨by simpa using hL,?_,fun j hj hd=>(hsz j).2 (.inl (AS j hj hd)),fun j hb=>?_,hsat',by simp[St.after,pO,hfl],by simp[St.after,jD,hrl],?_,?_⟩
    ·have:=zY hin hL hiL;omega
    ·intro j x hxj hT m hm;rw[hsz]at hT|-;rcases hT with hT|rfl
     ·exact .inl (ma j x hxj hT m hm)
     ·rw[hx]at hxj;injection hxj with hxj;subst hxj
      exact .inl (hpreT m hm)
    ·cases h:(L.setIfInBounds i true).getD j false with
     |false=>rfl
     |true=>
      rcases(hsz j).1 h with h|rfl
      ·rw[EZ j hb]at h;cases h
      ·rw[hbi]at hb;cases hb
    ·intro t k hkn H;simp only[St.after,sc];by_cases hd:s.dst=some t
     ·have hik:i<k:=(H i _ hx hd).2 ((hsz i).2 (.inr rfl));have hno:∀j,i+1<=j->j<i+1+(k-(i+1))->∀(x:bn×List Nat),sl[j]? =some x->x.1.dst≠some t:=by intro j h1 h2 x hxj hdx;have hT:=(H j x hxj hdx).1 om;rw[hsz]at hT;have hT:=hT.resolve_right om;exact absurd hdx ((jx hslots hx hxj om (hlater j x hxj hT)).1 t hd).2
      have h3:=uF (S0:=S0) (tr:=tr) (m:=i+1) (k-(i+1)) hno;rw[show i+1+(k-(i+1))=k by omega,hsucc]at h3;rw[h3];simp only[St.after,sc,hd,true_and,hfl,hlS.1];by_cases hlt:t<S0.fr.length
      ·simp[hlt]
      ·simp only[hlt,if_false];rw[kW _ _ om,kW _ _ om]
     ·rw[if_neg (fun h=>hd h.1)];refine hF t k hkn fun j x hxj hdx=>?_;have hji:j≠i:=fun e=>by subst e;rw[hx]at hxj;injection hxj with hxj;subst hxj;exact hd hdx
      rw[H j x hxj hdx,hsz];exact⟨fun h=>h.resolve_right hji,.inl⟩
    ·intro g k hkn H;simp only[St.after];by_cases hg:g∈p.2.map (·.1)
     ·have hik:i<k:=(H i _ hp hg).2 ((hsz i).2 (.inr rfl));have hno:∀j,i+1<=j->j<i+1+(k-(i+1))->∀(p':V×List (Nat×bd)),tr[j]? =some p'->g∉p'.2.map (·.1):=by intro j h1 h2 p' hpj hgp;have hT:=(H j p' hpj hgp).1 om;rw[hsz]at hT;have hT:=hT.resolve_right om;obtain⟨x,_,hxj,hAx⟩:=hAj j p' hpj;obtain⟨_,_,_,_,h4⟩:=hWF j x p' hxj hpj;exact(h4 i _ om hAi (hlater j x hxj hT)).2 g hgp (hsub g hg)
      have h3:=pw (S0:=S0) (sl:=sl) (m:=i+1) (k-(i+1)) hno;rw[show i+1+(k-(i+1))=k by omega,hsucc]at h3;rw[h3];simp only[St.after];exact od _ _ _ g om hg
     ·rw[fZ _ _ _ hg];refine hR g k hkn fun j p' hpj hgp=>?_;have hji:j≠i:=fun e=>by subst e;rw[hp]at hpj;injection hpj with hpj;subst hpj;exact hg hgp
      rw[H j p' hpj hgp,hsz];exact⟨fun h=>h.resolve_right hji,.inl⟩
   have:=mP (ro:=ro) (Q:=Q) (K':=wpAnyIn (jY ro) 0 P .any ops Q fuel (L.setIfInBounds i true)) hcs hst' hsat hG hgo;unfold wpOpIn;rw[ho];simp only;split
   ·rename_i hw;rw[if_pos hw]at this;exact this
   ·rename_i hw;rw[if_neg hw]at this;exact this
theorem oQ{Bk Dn:Nat->Bool}{L:Array Bool}{a:Act}{w:World}{n:Nat}(hL:L.size=n)(hs:Sat c0 S0 a w) (ma:∀(j:Nat) (x:bn×List Nat),sl[j]? =some x->L.getD j false=true->∀i∈x.2,L.getD i false=true) (AS:∀j,j<n->(Dn j=true↔L.getD j false=true)) (EZ:∀j,Bk j=true->L.getD j false=false) (hnop:∀(j:Nat) (x:bn×List Nat),sl[j]? =some x->Dn j=true->x.1.dst=none) (hnop2:∀(j:Nat) (p:V×List (Nat×bd)),tr[j]? =some p->Dn j=true->p.2=[]) (hln:sl.length=n) (htr:tr.length=n):Ay c0 n S0 sl tr Bk Dn L S0 a w:=by
 refine⟨hL,ma,fun j hj h=>(AS j hj).1 h,EZ,hs,rfl,rfl,fun t k hkn H=>?_,fun g k hkn H=>?_⟩
 ·have:=uF (S0:=S0) (sl:=sl) (tr:=tr) (m:=0) (t:=t) k (fun j _ hj x hx hd=>by
   have h1:=(H j x hx hd).1 om;have hjn:j<n:=by rw[<-hln];exact(ad.1 hx).1
   rw[hnop j x hx ((AS j hjn).2 h1)]at hd;cases hd)
  rw[Nat.zero_add]at this;rw[this];rfl
 ·have:=pw (S0:=S0) (sl:=sl) (tr:=tr) (m:=0) (g:=g) k (fun j _ hj p hp hg=>by
   have h1:=(H j p hp hg).1 om;have hjn:j<n:=by rw[<-htr];exact(ad.1 hp).1
   rw[hnop2 j p hp ((AS j hjn).2 h1)]at hg;simp at hg)
  rw[Nat.zero_add]at this;rw[this];rfl
theorem q8(n:Nat):MF n (Array.replicate n false)=n:=by
 unfold MF;rw[List.countP_eq_length.2]
 ·simp
 ·intro i hi;have:=List.mem_range.1 hi;simp[au,this]
theorem kd(n j:Nat):(Array.replicate n false).getD j false=false:=by rw[au,Array.getElem?_replicate];split<;>rfl
theorem s6{ro:Option Nat}{pres:List (List Nat)}{sts:List bn}{K:St->Prop}{a:Act}{w:World}(hc:dP P ops ops.toList 0=some sts)(hsl:sl=sts.zip pres)(hpl:pres.length=sts.length)(hpre:qW ops.toList pres=true) (hslots:ix sl=true) (hdown:il ops.toList=true) (hrun:fU P base sl [] K S0) (hs:Sat c0 S0 a w) (hG:bf.G c0) (hk:∀S' a' w',K S'->Sat c0 S' a' w'->Q .normal a' w'):wpAnyIn (jY ro) 0 P .any ops Q ops.size (Array.replicate ops.size false) a w:=by
 obtain⟨tr,A,htr,hA,hK,hstep⟩:=lK sl [] K S0 hrun;obtain⟨hlen,hget⟩:=fI _ _ _ hc;have hn:sl.length=ops.size:=by rw[hsl,List.length_zip,hlen,hpl,hlen];simp
 have hm:sl=dr (fun j=>false||false) sl:=by
  refine List.ext_getElem? fun j=>?_;cases h:sl[j]? with
  |none=>rw[aA];rw[eQ];exact List.getElem?_eq_none_iff.1 h
  |some x=>rw[eP h];rfl
 refine qC (base:=base) (Bk:=fun _=>false) (Dn:=fun _=>false) (tr:=tr) (A:=A) hc hsl hpl hpre hslots hdown hG hm htr (fun k x hx=>?_) (fun L ST a w h1 _ h2=>?_) (fun _ _ _ _ _ _ _ _ _ _ h=>by cases h) ops.size _ S0 a w (q8 _) (oQ sm hs (fun j x _ h=>?_) (fun j _=>?_) (fun _ h=>by cases h) (fun _ _ _ h=>by cases h) (fun _ _ _ h=>by cases h) hn om)
 ·obtain⟨p,F,e1,e2,e3,e4,e5⟩:=hstep k x hx;exact⟨p,F,e1,e2,e3,e4,fun j q hj hq hjp=>e5 j q (by simpa using hj) (by simpa using hq) hjp⟩
 ·subst h2;refine hk _ a w ?_ h1.sat;rw[<-hn];exact hK
 ·rw[kd]at h;cases h
 ·rw[kd]
theorem nT{B:Nat->Bool}{sl0:List (bn×List Nat)}(h:ix sl0=true):ix (dr B sl0)=true:=by
 unfold ix;rw[aG];rintro⟨y,j⟩ hy;rw[List.mk_mem_zipIdx_iff_getElem?]at hy;rw[aG];rintro⟨x,i⟩ hx;rw[List.mk_mem_zipIdx_iff_getElem?]at hx;have hj:j<sl0.length:=by rw[<-eQ (B:=B)];exact(ad.1 hy).1
 have hi:i<sl0.length:=by rw[<-eQ (B:=B)];exact(ad.1 hx).1
 obtain⟨y0,hy0⟩:∃y,sl0[j]? =some y:=⟨_,ae hj⟩;obtain⟨x0,hx0⟩:∃x,sl0[i]? =some x:=⟨_,ae hi⟩;rw[eP hy0]at hy;rw[eP hx0]at hx;injection hy with hy;injection hx with hx
 subst hy hx;have h1:=j9 (j9 h hy0) hx0;simp only[Bool.or_eq_true]at h1|-;by_cases hlt:i<j
 ·simp only[hlt,decide_true,Bool.not_true,Bool.false_eq_true,false_or]at h1|-;rcases h1 with h1|h1
  ·refine .inl ?_;split<;>exact h1
  ·right;cases hBi:B i<;>cases hBj:B j<;>simp only[Bool.false_eq_true,if_false,if_true]
   ·exact h1
   ·unfold indep;simp only[kD];cases x0.1.dst<;>simp[bn.reads,ep.dY,iE.dY]
   ·unfold indep;simp only[kD];cases y0.1.dst<;>simp[bn.reads,ep.dY,iE.dY]
   ·rfl
 ·simp[hlt]
def gq(sl0:List (bn×List Nat))(jp:Nat):Nat->Bool:=fun j=>j==jp||(match sl0[j]? with|some y=>y.2.contains jp|none=>false)
def DZ(P:Program)(base:Nat)(x:bn×List Nat)(acc:List (List Nat×List Nat))(S:St)(Qp:List PanicEntry->St->Prop):Prop:=oM P x.1 S fun ch ups=>(∃F,(F=x.1.ng base S.fr\/AL P x.1.act S.fr S.rows ch ups F)/\eM acc x.2 F (ups.map (·.1))=true)/\((acc.zipIdx.all (fun p=>x.2.contains p.2||p.1.2.isEmpty)=true/\∀fr',Qp ch ⟨fr',bq S.rows ups⟩)\/∀S',Qp ch S')
theorem Es{x:bn×List Nat}{acc:List (List Nat×List Nat)}{S:St}{Qp:List PanicEntry->St->Prop}(hK:DZ P base x acc S Qp):∃F W,eM acc x.2 F W=true/\∀S',(∀t∈x.1.reads,nth S'.fr t=nth S.fr t)->(∀g∈F,S'.rows[g]? =S.rows[g]?)->oM P x.1 S' fun ch ups=>(acc.zipIdx.all (fun p=>x.2.contains p.2||p.1.2.isEmpty)=true/\∀fr',Qp ch ⟨fr',bq S.rows ups⟩)\/∀S',Qp ch S':=by
 unfold DZ at hK;have hK0:=hK;unfold oM at hK;obtain⟨hg,h2⟩:=hK;split at h2
 ·rename_i y hact;split at h2
  ·rename_i T a e;obtain⟨⟨F,hF,hc⟩,hh⟩:=h2;refine⟨F,_,hc,fun S' h hr=>?_⟩;rcases hF with rfl|hF
   ·exact zK h hr ⟨hg,by rw[hact];simp only[e];exact hh⟩
   ·unfold AL at hF;simp only[hact]at hF
  ·exact h2.elim
 ·rename_i f args hact;split at h2
  ·rename_i g first cap e
   obtain⟨ch,ups,h3,⟨F,hF,hc⟩,hh⟩:=h2;refine⟨F,_,hc,fun S' h hr=>?_⟩;rcases hF with rfl|hF
   ·exact zK h hr ⟨hg,by rw[hact];simp only[e];exact⟨ch,ups,h3,hh⟩⟩
   ·exact Fe (ch:=ch) (ups:=ups) h hr hg hF hh
  ·exact h2.elim
 ·exact h2.elim
theorem zS{ro:Option Nat}{i:Nat}{o:Oper}{K':Act->World->Prop}{a:Act}{w:World}(ho:ops[i]? =some o)(h:if Region.wanted o (yielded ops a.tmps)then o.wpIn (jY ro) 0 P a w K' Q else(∀f,o.about P w a.eval=some f->(jY ro).fn f)/\K' (a.put o.dst undef) w):wpOpIn (jY ro) 0 P ops Q i K' a w:=by unfold wpOpIn;rw[ho];exact h
theorem lI{pres:List (List Nat)}{sts:List bn}{sl0:List (bn×List Nat)}(hc:dP P ops ops.toList 0=some sts)(hsl:sl0=sts.zip pres){i:Nat}{x:bn×List Nat}(hx:sl0[i]? =some x):∃o n',ops[i]? =some o/\jk P ops o n'=some x.1/\pres[i]? =some x.2:=by
 obtain⟨hlen,hget⟩:=fI _ _ _ hc;rw[hsl,List.getElem?_zip_eq_some]at hx;have hi:i<ops.toList.length:=by rw[<-hlen];exact(ad.1 hx.1).1
 obtain⟨s,n',h1,h2⟩:=hget i _ (ae hi);rw[hx.1]at h1;injection h1 with h1;subst h1
 exact⟨_,n',sm,h2,hx.2⟩
theorem uw{ro:Option Nat}{pres:List (List Nat)}{sts:List bn}{sl0:List (bn×List Nat)}{jp:Nat}{x:bn×List Nat}{Qp:List PanicEntry->St->Prop}{a:Act}{w:World}(hc:dP P ops ops.toList 0=some sts)(hsl:sl0=sts.zip pres)(hpl:pres.length=sts.length)(hpre:qW ops.toList pres=true) (hslots:ix sl0=true) (hdown:il ops.toList=true) (hx:sl0[jp]? =some x) (hrun:lR P base (dr (gq sl0 jp) sl0) [] (fun acc S=>DZ P base x acc S Qp) S0) (hs:Sat c0 S0 a w) (hG:bf.G c0) (hq:∀ch S' a' w',Qp ch S'->Sat c0 S' a' w'->Q (.panic ch) a' w'):wpAnyIn (jY ro) 0 P .any ops Q ops.size (Array.replicate ops.size false) a w:=by
 obtain⟨tr,A,htr,hA,hK,hstep⟩:=pT _ [] _ S0 hrun;obtain⟨hlen,hget⟩:=fI _ _ _ hc;have hn0:sl0.length=ops.size:=by rw[hsl,List.length_zip,hlen,hpl,hlen];simp
 have hn:(dr (gq sl0 jp) sl0).length=ops.size:=by rw[eQ,hn0]
 have hjp:jp<ops.size:=by rw[<-hn0];exact(ad.1 hx).1
 have hm:dr (gq sl0 jp) sl0=dr (fun j=>gq sl0 jp j||(fun _=>false) j) sl0:=by simp
 have hbj:gq sl0 jp jp=true:=by simp[gq]
 rw[hn]at hK;rw[List.nil_append]at hK;obtain⟨o,n',ho,hcs,hpx⟩:=lI hc hsl hx;have live:∀(j:Nat) (y:bn×List Nat),(dr (gq sl0 jp) sl0)[j]? =some y->(y.1.dst≠none\/∃p,tr[j]? =some p/\p.2≠[])->gq sl0 jp j=false/\sl0[j]? =some y:=by
  intro j y hy hne;have hj:j<sl0.length:=by rw[<-eQ (B:=gq sl0 jp)];exact(ad.1 hy).1
  obtain⟨y0,hy0⟩:∃y,sl0[j]? =some y:=⟨_,ae hj⟩;have hy':=hy;rw[eP hy0]at hy;injection hy with hy
  cases hB:gq sl0 jp j with
  |false=>rw[hB]at hy;simp at hy;exact⟨rfl,by rw[hy0,hy]⟩
  |true=>
   rw[hB]at hy;simp at hy;subst hy;rcases hne with hne|⟨p,hp,hne⟩
   ·exact absurd rfl hne
   ·obtain⟨p',_,e1,e2,_⟩:=hstep j _ hy';rw[hp]at e1;injection e1 with e1;subst e1
    exact absurd (rK e2.1) hne
 refine qC (base:=base) (Bk:=gq sl0 jp) (Dn:=fun _=>false) (tr:=tr) (A:=A) hc hsl hpl hpre (nT hslots) hdown hG hm om (fun k y hy=>?_) (fun L ST a w h1 h2 _=>?_) (fun fuel L ST a w i hu h1 hi hiL hB hpl'=>?_) ops.size _ S0 a w (q8 _) (oQ sm hs (fun j y _ h=>?_) (fun j _=>?_) (fun j _=>kd _ _) (fun _ _ _ h=>by cases h) (fun _ _ _ h=>by cases h) hn om)
 ·obtain⟨p,F,e1,e2,e3,e4,e5⟩:=hstep k y hy;exact⟨p,F,e1,e2,e3,e4,fun j q hj hq hjp=>e5 j q (by simpa using hj) (by simpa using hq) hjp⟩
 ·have:=h1.EZ jp hbj;rw[h2 jp hjp]at this;cases this
 ·have hij:i=jp:=by
   unfold gq at hB;simp only[Bool.or_eq_true,beq_iff_eq]at hB;rcases hB with hB|hB
   ·exact hB
   ·split at hB
    ·rename_i y hy;obtain⟨_,_,_,_,hpy⟩:=lI hc hsl hy;have:=hpl' jp (by rw[hpy];simpa using hB);rw[h1.EZ jp hbj]at this;cases this
    ·cases hB
  subst hij;rw[hpx]at hpl';simp only[Option.getD_some]at hpl';refine zS ho (tt (Kp:=fun ch ups=>((A.zipIdx.all (fun p=>x.2.contains p.2||p.1.2.isEmpty)=true/\∀fr',Qp ch ⟨fr',bq (eK S0 (dr (gq sl0 i) sl0) tr ops.size).rows ups⟩)\/∀S',Qp ch S')) hcs ?_ h1.sat hG ?_)
  ·
   obtain⟨F,W,hW,hK⟩:=Es hK;refine hK ST (fun t ht=>?_) (fun g hg=>?_)
   ·refine h1.F t ops.size (aq _) fun j y hy hd=>?_;have hj:j<ops.size:=by rw[<-hn];exact(ad.1 hy).1
    refine⟨fun _=>?_,fun _=>hj⟩;obtain⟨hBj,hy0⟩:=live j y hy (.inl (by rw[hd];simp));by_cases hm:j∈x.2
    ·exact hpl' j hm
    ·exfalso;have hne:j≠i:=fun e=>by rw[e,hbj]at hBj;cases hBj
     rcases Nat.lt_or_gt_of_ne hne with hlt|hgt
     ·exact((jx hslots hy0 hx hlt hm).1 t hd).1 ht
     ·have hni:i∉y.2:=fun hmem=>by unfold gq at hBj;rw[hy0]at hBj;simp[hmem]at hBj
      exact(jx hslots hx hy0 hgt hni).2 t hd ht
   ·refine h1.R g ops.size (aq _) fun j p hp hgp=>?_;have hj:j<ops.size:=by rw[<-hn,<-htr];exact(ad.1 hp).1
    refine⟨fun _=>?_,fun _=>hj⟩;by_cases hm:j∈x.2
    ·exact hpl' j hm
    ·exfalso;obtain⟨y,hy⟩:∃y,(dr (gq sl0 i) sl0)[j]? =some y:=⟨_,ae om⟩;obtain⟨p',_,e1,_,e3,_⟩:=hstep j y hy;rw[hp]at e1;injection e1 with e1;subst e1
     exact(ml hW e3 hm).1 g hgp hg
  ·rintro ch ups w' hh hsat;rcases hh with⟨hno,hh⟩|hh
   ·have hrows:ST.rows=(eK S0 (dr (gq sl0 i) sl0) tr ops.size).rows:=by
     refine List.ext_getElem? fun g=>h1.R g ops.size (aq _) fun j p hp hgp=>?_;have hj:j<ops.size:=by rw[<-hn,<-htr];exact(ad.1 hp).1
     refine⟨fun _=>?_,fun _=>hj⟩;by_cases hm:j∈x.2
     ·exact hpl' j hm
     ·exfalso;obtain⟨y,hy⟩:∃y,(dr (gq sl0 i) sl0)[j]? =some y:=⟨_,ae om⟩;obtain⟨p',_,e1,_,e3,_⟩:=hstep j y hy;rw[hp]at e1;injection e1 with e1;subst e1
      have h2:=aG.1 hno _ (List.mk_mem_zipIdx_iff_getElem?.2 e3);simp[hm]at h2;rw[h2]at hgp;simp at hgp
    rw[hrows]at hsat;exact hq ch _ a w' (hh _) hsat
   ·exact hq ch _ a w' (hh _) hsat
 ·rw[kd]at h;cases h
 ·rw[kd]
def FC(sl0:List (bn×List Nat))(k:Nat):Bool:=sl0.zipIdx.all fun(y,j)=>(!(decide (k<j))||y.2.contains k)&&(!(j==k)||(List.range k).all y.2.contains)
theorem vk{ro:Option Nat}{pres:List (List Nat)}{sts:List bn}{sl0:List (bn×List Nat)}{k:Nat}{x:bn×List Nat}{K:St->Prop}{Qp:List PanicEntry->St->Prop}{a:Act}{w:World}(hc:dP P ops ops.toList 0=some sts)(hsl:sl0=sts.zip pres)(hpl:pres.length=sts.length)(hpre:qW ops.toList pres=true) (hslots:ix sl0=true) (hdown:il ops.toList=true) (hx:sl0[k]? =some x) (hbar:FC sl0 k=true) (hrun:fU P base (dr (fun j=>decide (k<=j)) sl0) [] (fun S=>qt P x.1 S (fun v rows'=>fU P base (dr (fun j=>decide (j<=k)) sl0) [] K ⟨eg S.fr x.1.dst v,rows'⟩) (fun ch rows'=>Qp ch ⟨S.fr,rows'⟩)) S0) (hs:Sat c0 S0 a w) (hG:bf.G c0) (hk:∀S' a' w',K S'->Sat c0 S' a' w'->Q .normal a' w') (hq:∀ch S' a' w',Qp ch S'->Sat c0 S' a' w'->Q (.panic ch) a' w'):wpAnyIn (jY ro) 0 P .any ops Q ops.size (Array.replicate ops.size false) a w:=by
 obtain⟨tr,A,htr,hA,hK,hstep⟩:=lK _ [] _ S0 hrun;obtain⟨hlen,hget⟩:=fI _ _ _ hc;have hn0:sl0.length=ops.size:=by rw[hsl,List.length_zip,hlen,hpl,hlen];simp
 have hnm:∀B,(dr B sl0).length=ops.size:=fun B=>by rw[eQ,hn0]
 have hkn:k<ops.size:=by rw[<-hn0];exact(ad.1 hx).1
 rw[hnm]at hK htr;obtain⟨o,n',ho,hcs,hpx⟩:=lI hc hsl hx;have hbar1:∀j y,sl0[j]? =some y->k<j->k∈y.2:=fun j y hy hj=>by have:=j9 hbar hy;simp only[av,Bool.or_eq_true,hj,decide_true,Bool.not_true,Bool.false_eq_true,false_or,List.contains_iff_mem]at this;exact this.1
 have hbar2:∀j,j<k->j∈x.2:=fun j hj=>by have:=j9 hbar hx;simp only[av,Bool.or_eq_true,beq_self_eq_true,Bool.not_true,Bool.false_eq_true,false_or,aG,List.mem_range,List.contains_iff_mem]at this;exact this.2 j hj
 have nop:∀(B:Nat->Bool) (S:St) (tr:Tr) (j:Nat) (y:bn×List Nat),(dr B sl0)[j]? =some y->B j=true->y.1=kD:=fun B S tr j y hy hB=>by
  have hj:j<sl0.length:=by rw[<-eQ (B:=B)];exact(ad.1 hy).1
  obtain⟨y0,hy0⟩:∃y,sl0[j]? =some y:=⟨_,ae hj⟩;rw[eP hy0,hB]at hy;injection hy with hy;subst hy;rfl
 have hm1:dr (fun j=>decide (k<=j)) sl0=dr (fun j=>(fun j=>decide (k<=j)) j||(fun _=>false) j) sl0:=by simp
 have hm2:dr (fun j=>decide (j<=k)) sl0=dr (fun j=>(fun _=>false) j||(fun j=>decide (j<=k)) j) sl0:=by simp
 refine qC (base:=base) (Bk:=fun j=>decide (k<=j)) (Dn:=fun _=>false) (tr:=tr) (A:=A) hc hsl hpl hpre (nT hslots) hdown hG hm1 (by rw[htr,hnm]) (fun k y hy=>?_) (fun L ST a w h1 h2 _=>?_) (fun fuel L ST a w i hu h1 hi hiL hB hpl'=>?_) ops.size _ S0 a w (q8 _) (oQ sm hs (fun j y _ h=>?_) (fun j _=>?_) (fun j _=>kd _ _) (fun _ _ _ h=>by cases h) (fun _ _ _ h=>by cases h) (hnm _) htr)
 ·obtain⟨p,F,e1,e2,e3,e4,e5⟩:=hstep k y hy;exact⟨p,F,e1,e2,e3,e4,fun j q hj hq hjp=>e5 j q (by simpa using hj) (by simpa using hq) hjp⟩
 ·have:=h1.EZ k sm;rw[h2 k hkn]at this;cases this
 ·have hik:i=k:=by
   simp only[aj]at hB;rcases Nat.lt_or_ge k i with h|h
   ·exfalso;obtain⟨y,hy⟩:∃y,sl0[i]? =some y:=⟨_,ae om⟩;obtain⟨_,_,_,_,hpy⟩:=lI hc hsl hy;have:=hpl' k (by rw[hpy];simpa using hbar1 i y hy h);rw[h1.EZ k sm]at this;cases this
   ·omega
  subst hik;rw[hpx]at hpl';simp only[Option.getD_some]at hpl';have hLj:∀j,j<ops.size->(L.getD j false=true↔j<i):=fun j hj=>by
   refine⟨fun h=>?_,fun h=>hpl' j (hbar2 j h)⟩;rcases Nat.lt_or_ge j i with h2|h2
   ·exact h2
   ·rw[h1.EZ j (by simpa using h2)]at h;cases h
  have hST:ST=eK S0 (dr (fun j=>decide (i<=j)) sl0) tr ops.size:=by
   have hl:=rW (S0:=S0) (sl:=dr (fun j=>decide (i<=j)) sl0) (tr:=tr) ops.size;have h3:=h1.fl;have hfr:ST.fr=(eK S0 (dr (fun j=>decide (i<=j)) sl0) tr ops.size).fr:=CN om fun t=>h1.F t ops.size (aq _) fun j y hy hd=>by
    have hj:j<ops.size:=by rw[<-hnm fun j=>decide (i<=j)];exact(ad.1 hy).1
    refine⟨fun _=>(hLj j hj).2 ?_,fun _=>hj⟩;rcases Nat.lt_or_ge j i with h2|h2
    ·exact h2
    ·rw[nop _ S0 tr j y hy (by simpa using h2)]at hd;cases hd
   have hrr:ST.rows=(eK S0 (dr (fun j=>decide (i<=j)) sl0) tr ops.size).rows:=List.ext_getElem? fun g=>h1.R g ops.size (aq _) fun j p hp hgp=>by
    have hj:j<ops.size:=by rw[<-htr];exact(ad.1 hp).1
    refine⟨fun _=>(hLj j hj).2 ?_,fun _=>hj⟩;rcases Nat.lt_or_ge j i with h2|h2
    ·exact h2
    ·obtain⟨y,hy⟩:∃y,(dr (fun j=>decide (i<=j)) sl0)[j]? =some y:=⟨_,ae (by rw[hnm];exact hj)⟩;obtain⟨p',_,e1,e2,_⟩:=hstep j y hy;rw[hp]at e1;injection e1 with e1;subst e1
     rw[nop _ S0 tr j y hy (by simpa using h2)]at e2;rw[rK e2.1]at hgp;simp at hgp
   cases ST;simp only at hfr hrr;rw[hfr,hrr]
  refine zS ho (lB hcs (hST▸hK) h1.sat hG (fun v rows' a' w' hrun2 hsat2=>?_) (fun ch rows' w' hp hsat2=>hq ch _ a w' hp hsat2));obtain⟨tr2,A2,htr2,_,hK2,hstep2⟩:=lK _ [] _ _ hrun2;rw[hnm]at hK2 htr2;have hL2:∀j,j<ops.size->((L.setIfInBounds i true).getD j false=true↔j<=i):=fun j hj=>by
   have hLs:=h1.hL;rw[au,Array.getElem?_setIfInBounds];by_cases hji:i=j
   ·subst hji;simp[hLs,hi]
   ·rw[if_neg hji,<-au,hLj j hj];omega
  refine qC (base:=base) (Bk:=fun _=>false) (Dn:=fun j=>decide (j<=i)) (tr:=tr2) (A:=A2) hc hsl hpl hpre (nT hslots) hdown hG hm2 (by rw[htr2,hnm]) (fun k y hy=>?_) (fun L ST a w h1 _ h2=>?_) (fun _ _ _ _ _ _ _ _ _ _ h=>by cases h) fuel _ _ a' w' ?_ (oQ (by simpa using h1.hL) hsat2 (fun j y hy h m hm=>?_) (fun j hj=>?_) (fun j h=>by cases h) (fun j y hy hd=>?_) (fun j p hp hd=>?_) (hnm _) htr2)
  ·obtain⟨p,F,e1,e2,e3,e4,e5⟩:=hstep2 k y hy;exact⟨p,F,e1,e2,e3,e4,fun j q hj hq hjp=>e5 j q (by simpa using hj) (by simpa using hq) hjp⟩
  ·subst h2;exact hk _ a w hK2 h1.sat
  ·have hLi:L.getD i true=false:=by have hLs:=h1.hL;rw[au,Array.getElem?_eq_getElem om]at hiL|-;simpa using hiL
   have:=zY hi h1.hL hLi;omega
  ·have hj:j<ops.size:=by rw[<-hnm fun j=>decide (j<=i)];exact(ad.1 hy).1
   have hji:=(hL2 j hj).1 h;obtain⟨y0,hy0⟩:∃y,sl0[j]? =some y:=⟨_,ae om⟩;have hy2:y.2=y0.2:=by rw[eP hy0]at hy;injection hy with hy;subst hy;split<;>rfl
   rw[hy2]at hm;obtain⟨oj,_,hoj,_,hpj⟩:=lI hc hsl hy0;have hmj:m<j:=by
    have hall:∀(j:Nat) (y0:bn×List Nat),sl0[j]? =some y0->∀m∈y0.2,m<j:=by
     intro j;induction j using Nat.strongRecOn with
     |_ j ih=>
      intro y0 hy0 m hm;obtain⟨oj,_,hoj,_,hpj⟩:=lI hc hsl hy0;obtain⟨e,he,hb,hej⟩:=rh hpre (j:=j) (o:=oj) (by simpa using hoj) (by rw[hpj];simpa using hm);have hlt:=nH hdown (j:=j) (o:=oj) (by simpa using hoj) he hb;rcases hej with rfl|hej
      ·exact hlt
      ·obtain⟨ye,hye⟩:∃y,sl0[e.on]? =some y:=⟨_,ae (by have:=(ad.1 hy0).1;omega)⟩;obtain⟨_,_,_,_,hpe⟩:=lI hc hsl hye;rw[hpe]at hej;have:=ih e.on hlt ye hye m (by simpa using hej);omega
    exact hall j y0 hy0 m hm
   exact(hL2 m om).2 om
  ·rw[hL2 j hj];simp
  ·rw[nop _ S0 tr j y hy (by simpa using hd)];rfl
  ·have hj:j<ops.size:=by rw[<-htr2];exact(ad.1 hp).1
   obtain⟨y,hy⟩:∃y,(dr (fun j=>decide (j<=i)) sl0)[j]? =some y:=⟨_,ae (by rw[hnm];exact hj)⟩;obtain⟨p',_,e1,e2,_⟩:=hstep2 j y hy;rw[hp]at e1;injection e1 with e1;subst e1
   rw[nop _ S0 tr j y hy hd]at e2;exact rK e2.1
 ·rw[kd]at h;cases h
 ·rw[kd]
end
abbrev uc[bf](c1:Cx):bf:=⟨fun c=>Ext c1 c/\bf.G c,fun hx hg=>⟨hg.1.trans hx,bf.pD hx hg.2⟩⟩
def rC:List Nat->List V->List V->List V
 |p::ps,v::vs,fr=>rC ps vs (jS fr p v)
 |_,_,fr=>fr
theorem tG{c:Cx}:∀(ps:List Nat) (vs:List V) (fr:List V) (args:List Value) (tmps:Array Value),dX c args vs->fr.length<=tmps.size->(∀i,b7 c (tmps.getD i undef) (nth fr i))->(rC ps vs fr).length=fr.length/\((ps.zip args).foldl (fun t (p,v)=>t.setIfInBounds p v) tmps).size=tmps.size/\∀i,b7 c (((ps.zip args).foldl (fun t (p,v)=>t.setIfInBounds p v) tmps).getD i undef) (nth (rC ps vs fr) i)
 |[],vs,fr,args,tmps,_,_,hf=>⟨by cases vs<;>rfl,rfl,fun i=>by cases vs<;>exact hf i⟩
 |p::ps,[],fr,args,tmps,hr,_,hf=>by have:args=[]:=aQ hr.1;subst this;exact⟨rfl,rfl,hf⟩
 |p::ps,v::vs,fr,[],tmps,hr,_,hf=>absurd hr.1 sm
 |p::ps,v::vs,fr,x::args,tmps,hr,hl,hf=>by
  have h0:=hr.2 0 v x rfl rfl;have hf':∀i,b7 c ((tmps.setIfInBounds p x).getD i undef) (nth (jS fr p v) i):=fun i=>by
   rw[ox];split
   ·rename_i h;obtain⟨rfl,h2⟩:=h;rw[au,Array.getElem?_setIfInBounds,if_pos rfl,if_pos om];exact h0
   ·rename_i h;by_cases hp:p=i
    ·subst hp;rw[kW fr p om];exact .any _
    ·rw[au,Array.getElem?_setIfInBounds,if_neg hp,<-au];exact hf i
  obtain⟨h1,h2,h3⟩:=tG ps vs (jS fr p v) args (tmps.setIfInBounds p x) ⟨by have:=hr.1;simpa using this,fun j v x h1 h2=>hr.2 (j+1) v x h1 h2⟩ (by rw[iM];simpa using hl) hf';exact⟨by rw[rC,h1,iM],by rw[List.zip_cons_cons,List.foldl_cons,h2];simp,fun i=>by rw[List.zip_cons_cons,List.foldl_cons,rC];exact h3 i⟩
theorem K0{c:Cx}(ok:Ok c)(o:Obj):Ok ⟨c.ρ,c.I,c.rows,c.w.alloc o⟩/\Ext c ⟨c.ρ,c.I,c.rows,c.w.alloc o⟩:=by
 have hw:(c.w.alloc o).heap=c.w.heap.push o:=rfl;have hx:Ext c ⟨c.ρ,c.I,c.rows,c.w.alloc o⟩:=⟨rfl,rfl,rfl,by simp[hw],fun b hb _=>eO hw hb,fun _ h=>h,fun _ h=>.inl h,fun _ _ h=>.inl h,fun h=>by
   cases hr:c.rows[h]? with
   |none=>unfold bK;rw[hr];trivial
   |some r=>exact bK.of_eq rfl rfl (fun b hb=>eO hw (ok.own _ _ hb).1)⟩
 refine⟨⟨ok.inj,fun h b hb=>?_,fun h b sz es hb hr=>?_,ok.je,fun b hb=>?_,.step ok hx fun h o hr=>⟨hr,rfl,fun b hb=>eO hw (ok.own h b hb).1⟩⟩,hx⟩
 ·obtain⟨h1,h2,r,h3,h4⟩:=ok.own h b hb;exact⟨by simp[hw];omega,h2,r,h3,h4⟩
 ·obtain⟨arr,ty,fz,h1,h2,h3⟩:=ok.cont h b sz es hb hr;exact⟨arr,ty,fz,(eO hw (ok.own _ _ hb).1).trans h1,h2,h3.mono hx ok⟩
 ·have:=ok.jP b hb;simp[hw];omega
theorem Iz{c:Cx}(ok:Ok c):Ok ⟨c.ρ,c.I,c.rows++[.un],c.w⟩/\Ext c ⟨c.ρ,c.I,c.rows++[.un],c.w⟩:=by
 have hold:∀(g:Nat) (r:bd),c.rows[g]? =some r->(c.rows++[bd.un])[g]? =some r:=fun g r h=>by rw[aH (ad.1 h).1];exact h
 have hback:∀(g:Nat) (r:bd),(c.rows++[bd.un])[g]? =some r->r≠ .un->c.rows[g]? =some r:=fun g r h hn=>by
  rw[List.getElem?_append]at h;split at h
  ·exact h
  ·rename_i hg;cases hk:g-c.rows.length with
   |zero=>rw[hk]at h;simp at h;exact absurd h.symm hn
   |succ k=>rw[hk]at h;simp at h
 have hx:Ext c ⟨c.ρ,c.I,c.rows++[.un],c.w⟩:=by
  refine⟨rfl,rfl,rfl,aq _,fun _ _ _=>rfl,fun _ h=>h,fun _ h=>.inl h,fun _ _ h=>.inl h,fun g=>?_⟩;cases hg:c.rows[g]? with
  |none=>unfold bK;rw[hg];trivial
  |some r=>exact bK.of_eq (by simp only[hold g r hg,hg]) rfl (fun _ _=>rfl)
 refine⟨⟨ok.inj,fun g b hb=>?_,fun g b sz es hb hr=>?_,fun g sz es hn hr=>ok.je g sz es hn (hback g _ hr sm),ok.jP,.step ok hx fun h o hr=>⟨hback h _ hr sm,rfl,fun _ _=>rfl⟩⟩,hx⟩
 ·obtain⟨h1,h2,r,h3,h4⟩:=ok.own g b hb;exact⟨h1,h2,r,hold g _ h3,h4⟩
 ·obtain⟨arr,ty,fz,h1,h2,h3⟩:=ok.cont g b sz es hb (hback g _ hr sm);exact⟨arr,ty,fz,h1,h2,h3.mono hx ok⟩
theorem JN{c:Cx}(ok:Ok c)(L:Loop):Ok ⟨fun h=>if h=c.rows.length then some (c.w.heap.size+1)else c.ρ h,c.I,c.rows++[.obj (.loop (c.w.heap.size+1) L)],(c.w.alloc (.deferred (some []))).alloc (.loop L)⟩/\Ext c ⟨fun h=>if h=c.rows.length then some (c.w.heap.size+1)else c.ρ h,c.I,c.rows++[.obj (.loop (c.w.heap.size+1) L)],(c.w.alloc (.deferred (some []))).alloc (.loop L)⟩:=by
 obtain⟨ok1,hx1⟩:=K0 ok (.deferred (some []));have hgrow:Ok ⟨c.ρ,c.I,c.rows++[.un],c.w.alloc (.deferred (some []))⟩/\Ext ⟨c.ρ,c.I,c.rows,c.w.alloc (.deferred (some []))⟩ ⟨c.ρ,c.I,c.rows++[.un],c.w.alloc (.deferred (some []))⟩:=Iz ok1;obtain⟨ok2,hx2⟩:=hgrow;have hsz:(c.w.alloc (.deferred (some []))).heap.size=c.w.heap.size+1:=World.size_alloc _ _;obtain⟨ok3,hx3⟩:=mL ok2 c.rows.length (.loop (c.w.heap.size+1) L) (.loop L) sm ((c.w.alloc (.deferred (some []))).alloc (.loop L)) rfl rfl rfl rfl ⟨by rw[hsz],World.alloc_heap_new _ _⟩;simp only[hsz]at ok3 hx3;have e:(c.rows++[bd.un]).set c.rows.length (.obj (.loop (c.w.heap.size+1) L))=c.rows++[.obj (.loop (c.w.heap.size+1) L)]:=by simp
 rw[e]at ok3 hx3;exact⟨ok3,(hx1.trans hx2).trans hx3⟩
end Go.Vx
