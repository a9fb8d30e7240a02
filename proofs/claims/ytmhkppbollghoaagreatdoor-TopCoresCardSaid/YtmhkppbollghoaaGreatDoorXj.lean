/- Proved: rules of a compiled form of the code, sound for the model. Conditions: none but those that each lemma states. -/
import Derived.Test.YtmhkppbollghoaaGreatDoorXi
import Derived.Laws.BitsAllLaws
import Derived.Laws.Bits64
import Derived.ProofKit
import Derived.ChangeSame
import Derived.Deep.Slices
import Derived.ChangeArms
import Derived.WideKeyArgs
import Derived.OpenShut
import Derived.LaidMore
import Derived.MakeChecks
import Derived.FnData
set_option linter.unusedSectionVars false
set_option linter.unusedSimpArgs false
set_option linter.unusedVariables false
namespace Go.Vx
mutual
def hB(m:Nat):V->Bool
 | .any=>true
 | .d _=>true
 | .cl _ h _ _ _=>decide (h<m)
 | .aY _ h _ _ _=>decide (h<m)
 | .agg cs=>Ce m cs
 | .cm vs=>Ce m vs
 | .fn _ a b=>Ce m a&&Ce m b
 | .gV _ _=>true
def Ce(m:Nat):List V->Bool
 |[]=>true
 |v::l=>hB m v&&Ce m l
end
theorem kh{m:Nat}{l:List V}(h:Ce m l=true){v:V}(hv:v∈l):hB m v=true:=by
 induction l with
 |nil=>cases hv
 |cons x l ih=>
  simp only[Ce,av]at h;rcases aP.1 hv with rfl|hv
  ·exact h.1
  ·exact ih h.2 hv
def dz(m:Nat):bd->Prop
 | .live _ es=>∀e∈es,∀v∈e,hB m v=true
 |_=>True
def kg(m:Nat):Rows->Prop
 |[]=>True
 |r::l=>dz m r/\kg m l
theorem BS{m:Nat}{rows:Rows}(h:kg m rows){i:Nat}{r:bd}(hr:rows[i]? =some r):dz m r:=by
 induction rows generalizing i with
 |nil=>simp at hr
 |cons x l ih=>cases i with
  |zero=>simp at hr;subst hr;exact h.1
  |succ i=>exact ih h.2 (by simpa using hr)
theorem kM{m sz:Nat}{es:List (List D)}:dz m (.live sz (es.map (·.map .d))):=by intro e he v hv;obtain⟨e0,_,rfl⟩:=aw.1 he;obtain⟨d,_,rfl⟩:=aw.1 hv;rfl
section
variable{c:Cx}{m:Nat}
def mF(m:Nat)(rows:Rows):Rows:=List.replicate (min m rows.length) .dead++rows.drop m
theorem pI{rows:Rows}{h:Nat}(hh:h<m):(mF m rows)[h]? =if h<rows.length then some .dead else none:=by
 unfold mF;by_cases hl:h<rows.length
 ·rw[aH so,List.getElem?_replicate];simp[hl];omega
 ·rw[aJ so];simp only[hl,if_false];rw[aA];simp;omega
theorem jt{rows:Rows}{h:Nat}(hh:m<=h):(mF m rows)[h]? =rows[h]? :=by
 unfold mF;rw[aJ so];simp only[List.length_replicate,List.getElem?_drop];by_cases hl:m<=rows.length
 ·congr 1;omega
 ·rw[aA om,aA om]
def kz(m:Nat)(c:Cx):Cx:=⟨fun h=>if h<m then none else c.ρ h,c.I,mF m c.rows,c.w⟩
theorem zi(c:Cx):Ext c (kz m c):=by
 refine⟨rfl,rfl,rfl,aq _,fun _ _ _=>rfl,fun _ h=>h,fun _ h=>.inl h,fun h b hb=>?_,fun h=>?_⟩
 ·simp only[kz]at hb;split at hb
  ·cases hb
  ·exact .inl hb
 ·by_cases hh:h<m
  ·unfold bK;simp only[kz,pI hh];cases hr:c.rows[h]? with
   |none=>trivial
   |some r=>
    have:=(ad.1 hr).1;cases r with
    |un=>exact⟨_,by simp[this];rfl⟩
    |dead=>simp[this]
    |live sz es=>exact .inl (by simp[this])
    |obj o=>exact .inl (by simp[this])
  ·exact bK.of_eq (by simp only[kz];rw[jt om]) (by simp[kz,hh]) (fun _ _=>rfl)
theorem s5(ok:Ok c):Ok (kz m c):=by
 have hx:=zi (m:=m) c;refine⟨fun h h' b h1 h2=>?_,fun h b hb=>?_,fun h b sz es hb hr=>?_,fun h sz es hb hr=>?_,ok.jP,.step ok hx fun h o hr=>?_⟩
 ·simp only[kz]at h1 h2;split at h1
  ·cases h1
  ·split at h2
   ·cases h2
   ·exact ok.inj _ _ _ h1 h2
 ·simp only[kz]at hb|-;split at hb
  ·cases hb
  ·obtain⟨h1,h2,r,h3,h4⟩:=ok.own h b hb;exact⟨h1,h2,r,by rw[jt om];exact h3,h4⟩
 ·simp only[kz]at hb hr|-;split at hb
  ·cases hb
  ·rw[jt om]at hr;obtain⟨arr,ty,fz,h1,h2,h3⟩:=ok.cont h b sz es hb hr;exact⟨arr,ty,fz,h1,h2,h3.mono hx ok⟩
 ·simp only[kz]at hb hr;by_cases hh:h<m
  ·rw[pI hh]at hr;split at hr
   ·injection hr with hr;cases hr
   ·cases hr
  ·rw[jt om]at hr;simp only[hh,if_false]at hb;exact ok.je _ _ _ hb hr
 ·simp only[kz]at hr;by_cases hh:h<m
  ·rw[pI hh]at hr;split at hr
   ·injection hr with hr;cases hr
   ·cases hr
  ·rw[jt om]at hr;exact⟨hr,by simp[kz,hh],fun _ _=>rfl⟩
def kH(m:Nat)(c:Cx):Cx:=⟨fun h=>if h<m then c.ρ h else none,seen (kz m c),c.rows.take m,c.w⟩
theorem cw{rows:Rows}{h:Nat}(hh:h<m):(rows.take m)[h]? =rows[h]? :=by rw[List.getElem?_take,if_pos hh]
theorem Ej{u:Value}{v:V}(h:b7 c u v)(hv:hB m v=true):b7 (kH m c) u v:=by
 induction h with
 |any v=>exact .any v
 |d v x h=>exact .d v x (h.mono (fun b hb=>.inl hb) (fun _ _=>rfl))
 |gV v T u h=>exact .gV v T u h
 |cl sz h n off len cap b o es arr ty fz hrow hn hρ hb ho hcap hlc hlen=>simp only[hB,aj]at hv;exact .cl sz h n off len cap b o es arr ty fz (by simp only[kH];rw[cw hv];exact hrow) hn (by simp[kH,hv,hρ]) hb ho hcap hlc hlen
 |c8 sz h hrow hρ=>simp only[hB,aj]at hv;exact .c8 sz h (by simp only[kH];rw[cw hv];exact hrow) (by simp[kH,hρ])
 |cW v sz h n off len h1 hs=>simp only[hB,aj]at hv;refine .cW v sz h n off len h1 ?_;simp only[kI,kH]at hs|-;rw[cw hv];exact hs
 |aY sz h n i off b es hrow hn hρ=>simp only[hB,aj]at hv;exact .aY sz h n i off b es (by simp only[kH];rw[cw hv];exact hrow) hn (by simp[kH,hv,hρ])
 |cD v sz h n i off h1 hs=>simp only[hB,aj]at hv;refine .cD v sz h n i off h1 ?_;simp only[kI,kH]at hs|-;rw[cw hv];exact hs
 |oh v h k b o hrow hρ h1 h2 h3=>simp only[hB,aj]at hv;exact .oh v h k b o (by simp only[kH];rw[cw hv];exact hrow) (by simp[kH,hv,hρ]) h1 h2 h3
 |agg vs cs hlen hrep ih=>simp only[hB]at hv;exact .agg vs cs hlen fun j v x h1 h2=>ih j v x h1 h2 (kh hv (af h1))
 |cm vs cs hlen hrep ih=>simp only[hB]at hv;exact .cm vs cs hlen fun j v x h1 h2=>ih j v x h1 h2 (kh hv (af h1))
 |fn f fs cps first cap hf hc hfr hcr ih1 ih2=>simp only[hB,av]at hv;exact .fn f fs cps first cap hf hc (fun j v x h1 h2=>ih1 j v x h1 h2 (kh hv.1 (af h1))) (fun j v x h1 h2=>ih2 j v x h1 h2 (kh hv.2 (af h1)))
theorem NG(ok:Ok c)(hb:kg m (c.rows.take m)):Ok (kH m c):=by
 refine⟨fun h h' b h1 h2=>?_,fun h b hb=>?_,fun h b sz es hbb hr=>?_,fun h sz es hbb hr=>?_,(mR (s5 ok)).jP,⟨fun h o hr=>?_,(mR (s5 (m:=m) ok)).g.pz⟩⟩
 ·simp only[kH]at h1 h2;split at h1
  ·split at h2
   ·exact ok.inj _ _ _ h1 h2
   ·cases h2
  ·cases h1
 ·simp only[kH]at hb|-;split at hb
  ·rename_i hh;obtain⟨h1,h2,r,h3,h4⟩:=ok.own h b hb;refine⟨h1,fun hs=>?_,r,by rw[cw hh];exact h3,h4⟩;rcases hs with hs|⟨h',hs⟩
   ·exact h2 hs
   ·simp only[kz]at hs;split at hs
    ·cases hs
    ·have:=ok.inj _ _ _ hb hs;omega
  ·cases hb
 ·have hr':=hr;simp only[kH]at hbb hr;split at hbb
  ·rename_i hh;have hrb:=BS hb hr;rw[cw hh]at hr;obtain⟨arr,ty,fz,h1,h2,h3,h4,h5⟩:=ok.cont h b sz es hbb hr;refine⟨arr,ty,fz,h1,h2,h3,h4,fun i e j v h6 h7=>?_⟩;obtain⟨x,h8,h9⟩:=h5 i e j v h6 h7;exact⟨x,h8,Ej h9 (hrb e (af h6) v (af h7))⟩
  ·cases hbb
 ·simp only[kH]at hbb hr;by_cases hh:h<m
  ·rw[cw hh]at hr;simp only[hh,if_true]at hbb;exact ok.je _ _ _ hbb hr
  ·rw[aA so]at hr;cases hr
 ·simp only[kH]at hr;by_cases hh:h<m
  ·rw[cw hh]at hr;obtain⟨b,h1,h2⟩:=ok.g.xS h o hr;exact⟨b,by simp[kH,hh,h1],h2⟩
  ·rw[aA so]at hr;cases hr
theorem Mi{c0:Cx}(hx:Ext c0 c)(hm:c0.rows.length<=m):Ext c0 (kH m c):=by
 refine⟨hx.os,hx.tape,hx.output,hx.size,hx.l9,fun b h=>.inl (hx.jP b h),fun b h=>?_,fun h b hb=>?_,fun h=>?_⟩
 ·rcases h with h|⟨g,h⟩
  ·exact hx.qf b h
  ·simp only[kz]at h;split at h
   ·cases h
   ·rcases hx.new g b h with h|h
    ·exact .inr (.inr ⟨g,h⟩)
    ·exact .inr (.inl h)
 ·simp only[kH]at hb;split at hb
  ·exact hx.new _ _ hb
  ·cases hb
 ·by_cases hh:h<m
  ·have hr:=hx.rows h;unfold bK at hr|-;simp only[kH];rw[cw hh];simp only[hh,if_true];exact hr
  ·unfold bK;rw[aA om];trivial
inductive Kp(m:Nat)(rows:Rows):V->V->Prop where
 |same (v:V) (h:hB m v=true):Kp m rows v v
 |snap (v v':V) (h:ed (mF m rows) v v'):Kp m rows v v'
def Kb(m:Nat)(rows:Rows):List V->List V->Prop
 |[],[]=>True
 |a::l,b::k=>Kp m rows a b/\Kb m rows l k
 |[],_::_=>False
 |_::_,[]=>False
theorem zL{rows:Rows}{l k:List V}(h:Kb m rows l k):k.length=l.length/\∀i,i<l.length->Kp m rows (nth l i) (nth k i):=by
 induction l generalizing k with
 |nil=>cases k with
  |nil=>exact⟨rfl,sm⟩
  |cons y k=>exact h.elim
 |cons x l ih=>cases k with
  |nil=>exact h.elim
  |cons y k=>
   obtain⟨h1,h2⟩:=ih h.2;refine⟨by simp[h1],fun i hi=>?_⟩;cases i with
   |zero=>exact h.1
   |succ i=>exact h2 i (by simpa using hi)
theorem wa{c:Cx}{m n:Nat}{rows':Rows}{ds:List Deferred}(h:Marks n c ds):Marks n ⟨fun h=>if h<m then c.ρ h else none,seen (kz m c),rows',c.w⟩ ds:=by
 refine Marks.less (c:=c) (c':=⟨fun h=>if h<m then c.ρ h else none,seen (kz m c),rows',c.w⟩) rfl (fun h b hb=>?_) (fun b hb=>?_) h
 ·simp only at hb;split at hb
  ·exact⟨h,hb⟩
  ·cases hb
 ·rcases hb with hb|⟨g,hb⟩
  ·exact .inl hb
  ·simp only[kz]at hb;split at hb
   ·cases hb
   ·exact .inr ⟨g,hb⟩
theorem kO{b0:Nat}{fr fr':List V}{rows:Rows}(m:Nat)(hm:b0<=m)(hrows:kg m (rows.take m))(hk:Kb m rows fr fr'):fb b0 ⟨fr,rows⟩ ⟨fr',rows.take m⟩:=by
 rintro c0 a w rfl ⟨ρ,I,ok,hx,hd,hl,hf⟩;obtain⟨hlen,hkk⟩:=zL hk;refine⟨_,_,NG (m:=m) ok hrows,Mi hx hm,wa (c:=⟨ρ,I,rows,w⟩) hd,by simp only;rw[hlen];exact hl,fun i=>?_⟩;by_cases hi:i<fr.length
 ·have hr:=hf i;simp only at hr|-;have hq:=hkk i hi;generalize nth fr i=v at hr hq;generalize nth fr' i=v' at hq|-;cases hq with
  |same h=>exact Ej (c:=⟨ρ,I,rows,w⟩) hr h
  |snap _ h=>exact jr (rY (s5 (m:=m) ok) h (hr.mono (zi _) ok)) _ _
 ·simp only;rw[kW fr' i om];exact .any _
inductive Bj(m:Nat)(rows:Rows):bd->bd->Prop where
 |same (r:bd) (h:dz m r):Bj m rows r r
 |cells (sz:Nat) (es es':List (List V)) (hl:es.length=es'.length) (h:∀(i:Nat) (e e':List V),es[i]? =some e->es'[i]? =some e'->e.length=e'.length/\∀(j:Nat) (v v':V),e[j]? =some v->e'[j]? =some v'->Kp m rows v v'/\fh v'=true):Bj m rows (.live sz es) (.live sz es')
def lQ(m:Nat)(rows:Rows):Rows->Rows->Prop
 |[],[]=>True
 |r::l,r'::l'=>Bj m rows r r'/\lQ m rows l l'
 |[],_::_=>False
 |_::_,[]=>False
theorem ig{rows:Rows}:∀{l l':Rows},lQ m rows l l'->l.length=l'.length/\∀(h:Nat) (r r':bd),l[h]? =some r->l'[h]? =some r'->Bj m rows r r':=by
 intro l;induction l with
 |nil=>intro l' h;cases l' with
  |nil=>exact⟨rfl,fun h r r' hr=>by simp at hr⟩
  |cons=>exact h.elim
 |cons x l ih=>intro l' h;cases l' with
  |nil=>exact h.elim
  |cons y l'=>
   obtain⟨h1,h2⟩:=ih h.2;refine⟨by simp[h1],fun i r r' hr hr'=>?_⟩;cases i with
   |zero=>simp at hr hr';subst hr hr';exact h.1
   |succ i=>exact h2 i r r' (by simpa using hr) (by simpa using hr')
theorem im{rows l l':Rows}(hk:lQ m rows l l'){h sz:Nat}{es:List (List V)}(hr:l[h]? =some (.live sz es)):∃es',l'[h]? =some (.live sz es')/\es'.length=es.length:=by
 obtain⟨h1,h2⟩:=ig hk;have hlt:h<l'.length:=by rw[<-h1];exact(ad.1 hr).1
 have h3:=h2 h _ _ hr (ae hlt);rw[ae hlt];generalize l'[h]=r' at h3;cases h3 with
 |same _ _=>exact⟨es,rfl,rfl⟩
 |cells sz es es' hl _=>exact⟨es',rfl,hl.symm⟩
theorem lO{rows l l':Rows}(hk:lQ m rows l l'){h:Nat}(hr:l[h]? =some .dead):l'[h]? =some .dead:=by
 obtain⟨h1,h2⟩:=ig hk;have hlt:h<l'.length:=by rw[<-h1];exact(ad.1 hr).1
 have h3:=h2 h _ _ hr (ae hlt);rw[ae hlt];generalize l'[h]=r' at h3;cases h3;rfl
theorem pJ{rows l l':Rows}(hk:lQ m rows l l'){h:Nat}{o:GO}(hr:l[h]? =some (bd.obj o)):l'[h]? =some (bd.obj o):=by
 obtain⟨h1,h2⟩:=ig hk;have hlt:h<l'.length:=by rw[<-h1];exact(ad.1 hr).1
 have h3:=h2 h _ _ hr (ae hlt);rw[ae hlt];generalize l'[h]=r' at h3;cases h3;rfl
theorem sH{rows l l':Rows}(hk:lQ m rows l l'){h:Nat}{o:GO}(hr:l'[h]? =some (bd.obj o)):l[h]? =some (bd.obj o):=by
 obtain⟨h1,h2⟩:=ig hk;have hlt:h<l.length:=by rw[h1];exact(ad.1 hr).1
 have h3:=h2 h _ _ (ae hlt) hr;rw[ae hlt];generalize l[h]=r at h3;cases h3;rfl
theorem sF{rows l l':Rows}(hk:lQ m rows l l'){h sz:Nat}{es':List (List V)}(hr:l'[h]? =some (.live sz es')):∃es,l[h]? =some (.live sz es)/\Bj m rows (.live sz es) (.live sz es'):=by
 obtain⟨h1,h2⟩:=ig hk;have hlt:h<l.length:=by rw[h1];exact(ad.1 hr).1
 have h3:=h2 h _ _ (ae hlt) hr;rw[ae hlt];generalize l[h]=r at h3;cases h3 with
 |same _ hb=>exact⟨es',rfl,.same _ hb⟩
 |cells sz es es' hl hh=>exact⟨es,rfl,.cells sz es es' hl hh⟩
def jh(m:Nat)(c:Cx)(rows':Rows):Cx:=⟨fun h=>if h<m then c.ρ h else none,seen (kz m c),rows',c.w⟩
theorem Ax{rows':Rows}(hk:lQ m c.rows (c.rows.take m) rows'){u:Value}{v:V}(h:b7 c u v)(hv:hB m v=true):b7 (jh m c rows') u v:=by
 have hst:∀{h n:Nat},h<m->kI c.rows h n->kI rows' h n:=fun{h n} hh hs=>by
  rcases hs with hs|⟨sz,es,hs,hn⟩
  ·exact .inl (lO hk (by rw[cw hh];exact hs))
  ·obtain⟨es',h1,h2⟩:=im hk (h:=h) (by rw[cw hh];exact hs);exact .inr ⟨sz,es',h1,om⟩
 induction h with
 |any v=>exact .any v
 |d v x h=>exact .d v x (h.mono (fun b hb=>.inl hb) (fun _ _=>rfl))
 |gV v T u h=>exact .gV v T u h
 |cl sz h n off len cap b o es arr ty fz hrow hn hρ hb ho hcap hlc hlen=>simp only[hB,aj]at hv;obtain⟨es',h1,h2⟩:=im hk (h:=h) (by rw[cw hv];exact hrow);exact .cl sz h n off len cap b o es' arr ty fz h1 om (by simp[jh,hv,hρ]) hb ho hcap hlc hlen
 |c8 sz h hrow hρ=>simp only[hB,aj]at hv;obtain⟨es',h1,h2⟩:=im hk (h:=h) (by rw[cw hv];exact hrow);have:es'=[]:=aQ h2;subst this;exact .c8 sz h h1 (by simp[jh,hρ])
 |cW v sz h n off len h1 hs=>simp only[hB,aj]at hv;exact .cW v sz h n off len h1 (hst hv hs)
 |aY sz h n i off b es hrow hn hρ=>simp only[hB,aj]at hv;obtain⟨es',h1,h2⟩:=im hk (h:=h) (by rw[cw hv];exact hrow);exact .aY sz h n i off b es' h1 om (by simp[jh,hv,hρ])
 |cD v sz h n i off h1 hs=>simp only[hB,aj]at hv;exact .cD v sz h n i off h1 (hst hv hs)
 |oh v h k b o hrow hρ h1 h2 h3=>simp only[hB,aj]at hv;exact .oh v h k b o (pJ hk (by rw[cw hv];exact hrow)) (by simp[jh,hv,hρ]) h1 h2 h3
 |agg vs cs hlen hrep ih=>simp only[hB]at hv;exact .agg vs cs hlen fun j v x h1 h2=>ih j v x h1 h2 (kh hv (af h1))
 |cm vs cs hlen hrep ih=>simp only[hB]at hv;exact .cm vs cs hlen fun j v x h1 h2=>ih j v x h1 h2 (kh hv (af h1))
 |fn f fs cps first cap hf hc hfr hcr ih1 ih2=>simp only[hB,av]at hv;exact .fn f fs cps first cap hf hc (fun j v x h1 h2=>ih1 j v x h1 h2 (kh hv.1 (af h1))) (fun j v x h1 h2=>ih2 j v x h1 h2 (kh hv.2 (af h1)))
theorem Ct{rows':Rows}(ok:Ok c)(hk:lQ m c.rows (c.rows.take m) rows'){u:Value}{v v':V}(h:b7 c u v)(hq:Kp m c.rows v v'):b7 (jh m c rows') u v':=by
 cases hq with
 |same h'=>exact Ax hk h h'
 |snap _ h'=>exact jr (rY (s5 (m:=m) ok) h' (h.mono (zi _) ok)) _ _
theorem LU{rows':Rows}(ok:Ok c)(hk:lQ m c.rows (c.rows.take m) rows'):Ok (jh m c rows'):=by
 have hlen:=(ig hk).1;refine⟨fun h h' b h1 h2=>?_,fun h b hb=>?_,fun h b sz es hbb hr=>?_,fun h sz es hbb hr=>?_,(mR (s5 ok)).jP,⟨fun h o hr=>?_,(mR (s5 (m:=m) ok)).g.pz⟩⟩
 ·simp only[jh]at h1 h2;split at h1
  ·split at h2
   ·exact ok.inj _ _ _ h1 h2
   ·cases h2
  ·cases h1
 ·simp only[jh]at hb|-;split at hb
  ·rename_i hh;obtain⟨h1,h2,r,h3,hL⟩:=ok.own h b hb;have h4:∃r',rows'[h]? =some r'/\r'.QI:=by
    cases r with
    |live sz es=>obtain⟨es',h4,_⟩:=im hk (h:=h) (by rw[cw hh];exact h3);exact⟨_,h4,trivial⟩
    |obj o=>exact⟨_,pJ hk (h:=h) (by rw[cw hh];exact h3),trivial⟩
    |un=>exact hL.elim
    |dead=>exact hL.elim
   refine⟨h1,fun hs=>?_,h4⟩;rcases hs with hs|⟨h',hs⟩
   ·exact h2 hs
   ·simp only[kz]at hs;split at hs
    ·cases hs
    ·have:=ok.inj _ _ _ hb hs;omega
  ·cases hb
 ·simp only[jh]at hbb hr;split at hbb
  ·rename_i hh;obtain⟨es0,h0,hrk⟩:=sF hk hr;rw[cw hh]at h0;obtain⟨arr,ty,fz,h1,h2,h3,h4,h5⟩:=ok.cont h b sz es0 hbb h0;refine⟨arr,ty,fz,h1,h2,?_⟩;cases hrk with
   |same _ hrb=>refine⟨h3,h4,fun i e j v h6 h7=>?_⟩;obtain⟨x,h8,h9⟩:=h5 i e j v h6 h7;exact⟨x,h8,Ax hk h9 (hrb e (af h6) v (af h7))⟩
   |cells _ _ _ hl hh2=>
    have hpair:∀(i:Nat) (e':List V),es[i]? =some e'->∃e,es0[i]? =some e:=fun i e' he'=>by
     have hlt:i<es0.length:=by rw[hl];exact(ad.1 he').1
     exact⟨_,ae hlt⟩
    refine⟨fun e' he'=>?_,by rw[<-hl];exact h4,fun i e' j v' h6 h7=>?_⟩
    ·obtain⟨i,hi,rfl⟩:=List.getElem_of_mem he';obtain⟨e,he⟩:=hpair i _ (ae hi);obtain⟨hel,hc⟩:=hh2 i e _ he (ae hi);refine⟨by rw[<-hel];exact(h3 e (af he)).1,fun v hv=>?_⟩;obtain⟨j,hj,rfl⟩:=List.getElem_of_mem hv;exact(hc j _ _ (ae om) (ae hj)).2
    ·obtain⟨e,he⟩:=hpair i _ h6;obtain⟨hel,hc⟩:=hh2 i e _ he h6;have hj:j<e.length:=by rw[hel];exact(ad.1 h7).1
     obtain⟨x,h8,h9⟩:=h5 i e j _ he (ae hj);exact⟨x,h8,Ct ok hk h9 (hc j _ _ (ae hj) h7).1⟩
  ·cases hbb
 ·simp only[jh]at hbb hr;obtain⟨es0,h0,hrk⟩:=sF hk hr;have hh:h<m:=by have:=(ad.1 h0).1;simp at this;omega
  rw[cw hh]at h0;simp only[hh,if_true]at hbb;have:=ok.je _ _ _ hbb h0;subst this;cases hrk with
  |same=>rfl
  |cells _ _ _ hl _=>exact aQ hl.symm
 ·simp only[jh]at hr;have h0:=sH hk hr;have hh:h<m:=by have:=(ad.1 h0).1;simp at this;omega
  rw[cw hh]at h0;obtain⟨b,h1,h2⟩:=ok.g.xS h o h0;exact⟨b,by simp[jh,hh,h1],h2⟩
theorem GX{c0:Cx}{rows':Rows}(hx:Ext c0 c)(hm:c0.rows.length<=m)(hk:lQ m c.rows (c.rows.take m) rows'):Ext c0 (jh m c rows'):=by
 refine⟨hx.os,hx.tape,hx.output,hx.size,hx.l9,fun b h=>.inl (hx.jP b h),fun b h=>?_,fun h b hb=>?_,fun h=>?_⟩
 ·rcases h with h|⟨g,h⟩
  ·exact hx.qf b h
  ·simp only[kz]at h;split at h
   ·cases h
   ·rcases hx.new g b h with h|h
    ·exact .inr (.inr ⟨g,h⟩)
    ·exact .inr (.inl h)
 ·simp only[jh]at hb;split at hb
  ·exact hx.new _ _ hb
  ·cases hb
 ·by_cases hh:h<m
  ·have hr:=hx.rows h;unfold bK at hr|-;simp only[jh];split
   ·trivial
   ·rename_i h0;rw[h0]at hr;obtain⟨r,hr⟩:=hr;have hlt:h<rows'.length:=by rw[<-(ig hk).1];have:=(ad.1 hr).1;simp;omega
    exact⟨_,ae hlt⟩
   ·rename_i h0;rw[h0]at hr;exact lO hk (by rw[cw hh];exact hr)
   ·rename_i o h0;rw[h0]at hr;rcases hr with hr|⟨⟨o',hr⟩,hρ⟩
    ·exact .inl (lO hk (by rw[cw hh];exact hr))
    ·exact .inr ⟨⟨o',pJ hk (by rw[cw hh];exact hr)⟩,by simp only[hh,if_true];exact hρ⟩
   ·rename_i sz es h0;rw[h0]at hr;rcases hr with hr|⟨es1,hr,hcase⟩
    ·exact .inl (lO hk (by rw[cw hh];exact hr))
    ·obtain⟨es',h4,h5⟩:=im hk (h:=h) (by rw[cw hh];exact hr);refine .inr ⟨es',h4,?_⟩;rcases hcase with hc|⟨hc1,hc2,hc3⟩
     ·exact .inl om
     ·exact .inr ⟨om,by simp only[hh,if_true];exact hc2,hc3⟩
  ·unfold bK;rw[aA om];trivial
theorem mT{b0:Nat}{fr fr':List V}{rows rows':Rows}(m:Nat)(hm:b0<=m)(hrows:lQ m rows (rows.take m) rows')(hk:Kb m rows fr fr'):fb b0 ⟨fr,rows⟩ ⟨fr',rows'⟩:=by
 rintro c0 a w rfl ⟨ρ,I,ok,hx,hd,hl,hf⟩;obtain⟨hlen,hkk⟩:=zL hk;refine⟨_,_,LU (m:=m) (c:=⟨ρ,I,rows,w⟩) ok hrows,GX (c:=⟨ρ,I,rows,w⟩) hx hm hrows,wa (c:=⟨ρ,I,rows,w⟩) hd,by simp only;rw[hlen];exact hl,fun i=>?_⟩;by_cases hi:i<fr.length
 ·have hr:=hf i;simp only at hr|-;exact Ct (c:=⟨ρ,I,rows,w⟩) ok hrows hr (hkk i hi)
 ·simp only;rw[kW fr' i om];exact .any _
def pX:List V->List V->Prop
 |[],[]=>True
 |_::l,.any::k=>pX l k
 |x::l,y::k=>x=y/\pX l k
 |[],_::_=>False
 |_::_,[]=>False
theorem AA{l k:List V}(h:pX l k):k.length=l.length/\∀i,nth k i=.any\/nth l i=nth k i:=by
 induction l generalizing k with
 |nil=>cases k with
  |nil=>exact⟨rfl,fun _=>.inl rfl⟩
  |cons y k=>exact h.elim
 |cons x l ih=>cases k with
  |nil=>exact h.elim
  |cons y k=>
   have h':(y=.any\/x=y)/\pX l k:=by
    cases y with
    |any=>exact⟨.inl rfl,h⟩
    |_=>exact⟨.inr h.1,h.2⟩
   obtain⟨h1,h2⟩:=ih h'.2;refine⟨by simp[h1],fun i=>?_⟩;cases i with
   |zero=>exact h'.1
   |succ i=>exact h2 i
theorem a9{b0:Nat}{fr fr':List V}{rows:Rows}(h:pX fr fr'):fb b0 ⟨fr,rows⟩ ⟨fr',rows⟩:=by
 rintro c0 a w-⟨ρ,I,ok,hx,hd,hl,hf⟩;obtain⟨h1,h2⟩:=AA h;refine⟨ρ,I,ok,hx,hd,by simp only;rw[h1];exact hl,fun i=>?_⟩;rcases h2 i with h|h
 ·simp only;rw[h];exact .any _
 ·simp only;rw[<-h];exact hf i
theorem eJ{b0:Nat}{fr:List V}{rows:Rows}(i sz:Nat)(hv:nth fr i=.d .bm):fb b0 ⟨fr,rows⟩ ⟨jS fr i (.cl sz rows.length 0 0 0),rows++[.live sz []]⟩:=by
 rintro c0 a w-h;obtain⟨ρ,I,ok,hx,hd,hl,hf⟩:=h.grow 1;have hu:(rows++List.replicate 1 bd.un)[rows.length]? =some .un:=by simp
 have hv2:=qy ok rows.length sz hu;have hset:(rows++List.replicate 1 bd.un).set rows.length (.live sz [])=rows++[.live sz []]:=by simp
 simp only[St.grow]at hv2;rw[hset]at hv2;refine⟨ρ,I,hv2.1,hx.trans hv2.2,hd.mono hv2.2,by simpa[iM,St.grow]using hl,fun j=>?_⟩;simp only[ox];split
 ·rename_i hij;obtain⟨rfl,hj⟩:=hij;have hr:=hf i;simp only[St.grow]at hr;rw[hv]at hr;generalize a.tmps.getD i undef=u at hr|-;cases hr with|d _ _ hr=>
  cases hr;refine .c8 sz rows.length sm ?_;have:ρ rows.length=none:=ok.mi (by simp[St.grow]);exact this
 ·exact(hf j).mono hv2.2 ok
theorem fb.trans{b0:Nat}{A B C:St}(h1:fb b0 A B)(h2:fb b0 B C):fb b0 A C:=fun c0 a w hb h=>h2 c0 a w hb (h1 c0 a w hb h)
theorem fb.refl{b0:Nat}{A:St}:fb b0 A A:=fun _ _ _ _ h=>h
end
def cC(n:Nat)(l:List (Nat×V)):List V:=l.foldl (fun fr p=>jS fr p.1 p.2) (List.replicate n .any)
def pQ{σ:Type}(b0:Nat)(Q:AX->St->Prop)(F:σ->St)(inv:σ->Prop)(mu:σ->Nat)(s:σ):AX->St->Prop:=fun e S'=>
 match e with
 | .normal=>∃s',mu s'<mu s/\fb b0 S' (F s')/\inv s'
 | .exit i=>Q (.exit i) S'
 | .ret=>Q .ret S'
 | .fL ch=>Q (.fL ch) S'
section
variable[bf]{P:Program}{b0:Nat}{Q:AX->St->Prop}{σ:Type}{F:σ->St}{inv:σ->Prop}{mu:σ->Nat}{s:σ}
theorem P3{i:Nat}{S:St}:pQ b0 Q F inv mu s (.exit i) S=Q (.exit i) S:=rfl
theorem PY{S:St}:pQ b0 Q F inv mu s .ret S=Q .ret S:=rfl
theorem bb{a:AC}{S:St}(F:σ->St)(inv:σ->Prop)(mu:σ->Nat)(s0:σ)(hw:fb b0 S (F s0))(hi:inv s0)(hr:∀s,inv s->dW P b0 a (pQ b0 Q F inv mu s) (F s)):dW P b0 (.loop a) Q S:=by
 refine⟨fun n S=>∃s,n=mu s/\S=F s/\inv s,mu s0,F s0,hw,⟨s0,rfl,rfl,hi⟩,?_⟩;rintro n S ⟨s,rfl,rfl,hi⟩;refine cast (congrFun (congrArg (dW P b0 a) ?_) _) (hr s hi);funext e S';cases e with
 |normal=>
  simp only[pQ,eq_iff_iff];constructor
  ·rintro⟨s',h1,h2,h3⟩;exact⟨_,_,h1,h2,s',rfl,rfl,h3⟩
  ·rintro⟨n',S'',h1,h2,s',rfl,rfl,h3⟩;exact⟨s',h1,h2,h3⟩
 |exit i=>rfl
 |ret=>rfl
 |fL ch=>rfl
theorem P2{ch:List PanicEntry}{S:St}:pQ b0 Q F inv mu s (.fL ch) S=Q (.fL ch) S:=rfl
theorem bL{S:St}(s':σ)(hm:mu s'<mu s)(hw:fb b0 S (F s'))(hi:inv s'):pQ b0 Q F inv mu s .normal S:=⟨s',hm,hw,hi⟩
theorem fu{a:AC}{S:St}(S':St)(hw:fb b0 S S')(h:dW P b0 a Q S'):dW P b0 (.wk a) Q S:=⟨S',hw,h⟩
end
section
variable{κ:KV}{k k':IntKind}{a b:Int}{s t:List UInt8}{p:Bool}
theorem Pb:cH .add (.d (.int k a)) (.d (.int k b)) κ=κ (.d (.int k (k.wrap (a+b)))) []:=by simp[cH,fX,jR]
theorem O5:cH .sub (.d (.int k a)) (.d (.int k b)) κ=κ (.d (.int k (k.wrap (a-b)))) []:=by simp[cH,fX,jR]
theorem N0:cH .mul (.d (.int k a)) (.d (.int k b)) κ=κ (.d (.int k (k.wrap (a*b)))) []:=by simp[cH,fX,jR]
theorem Nc:cH .quo (.d (.int k a)) (.d (.int k b)) κ=(b≠0/\κ (.d (.int k (k.wrap (a.tdiv b)))) []):=by simp[cH,fX,jR]
theorem Ou:cH .rem (.d (.int k a)) (.d (.int k b)) κ=(b≠0/\κ (.d (.int k (a.tmod b))) []):=by simp[cH,fX,jR]
theorem Oh:cH .and (.d (.int k a)) (.d (.int k b)) κ=κ (.d (.int k (k.wrap ((BitVec.ofInt k.bits a&&&BitVec.ofInt k.bits b).toNat)))) []:=by simp[cH,fX,jR]
theorem PQ:cH .or (.d (.int k a)) (.d (.int k b)) κ=κ (.d (.int k (k.wrap ((BitVec.ofInt k.bits a|||BitVec.ofInt k.bits b).toNat)))) []:=by simp[cH,fX,jR]
theorem O3:cH .xor (.d (.int k a)) (.d (.int k b)) κ=κ (.d (.int k (k.wrap ((BitVec.ofInt k.bits a^^^BitVec.ofInt k.bits b).toNat)))) []:=by simp[cH,fX,jR]
theorem Em:cH .andNot (.d (.int k a)) (.d (.int k b)) κ=κ (.d (.int k (k.wrap ((BitVec.ofInt k.bits a&&& ~~~BitVec.ofInt k.bits b).toNat)))) []:=by simp[cH,fX,jR]
theorem OO:cH .eql (.d (.int k a)) (.d (.int k b)) κ=κ (.d (.bool (decide (a=b)))) []:=by simp[cH,fX,jR]
theorem NT:cH .neq (.d (.int k a)) (.d (.int k b)) κ=κ (.d (.bool (decide (a≠b)))) []:=by simp[cH,fX,jR]
theorem OS:cH .lss (.d (.int k a)) (.d (.int k b)) κ=κ (.d (.bool (decide (a<b)))) []:=by simp[cH,fX,jR]
theorem Od:cH .leq (.d (.int k a)) (.d (.int k b)) κ=κ (.d (.bool (decide (a<=b)))) []:=by simp[cH,fX,jR]
theorem OA:cH .gtr (.d (.int k a)) (.d (.int k b)) κ=κ (.d (.bool (decide (b<a)))) []:=by simp[cH,fX,jR]
theorem Oq:cH .geq (.d (.int k a)) (.d (.int k b)) κ=κ (.d (.bool (decide (b<=a)))) []:=by simp[cH,fX,jR]
theorem O8:cH .shl (.d (.int k a)) (.d (.int k' b)) κ=(0<=b/\κ (.d (.int k (k.wrap (a*2^(min b.toNat k.bits))))) []):=by simp[cH,fX,jR]
theorem NM:cH .shr (.d (.int k a)) (.d (.int k' b)) κ=(0<=b/\κ (.d (.int k (a/(2^(min b.toNat k.bits))))) []):=by simp[cH,fX,jR]
theorem MW:cH .add (.d (.str s)) (.d (.str t)) κ=(s.length+t.length<=9223372036854775807/\κ (.d (.str (s++t))) []):=by simp[cH,fX,ko]
theorem M4:cH .eql (.d (.str s)) (.d (.str t)) κ=κ (.d (.bool (decide (s=t)))) []:=by simp[cH,fX,ko]
theorem Nf:cH .neq (.d (.str s)) (.d (.str t)) κ=κ (.d (.bool (decide (s≠t)))) []:=by simp[cH,fX,ko]
theorem ON:cH .lss (.d (.str s)) (.d (.str t)) κ=κ (.d (.bool (Op.bytesLess s t))) []:=by simp[cH,fX,ko]
theorem Ol:cH .leq (.d (.str s)) (.d (.str t)) κ=κ (.d (.bool (Op.bytesLess s t||decide (s=t)))) []:=by simp[cH,fX,ko]
theorem Oi:cH .gtr (.d (.str s)) (.d (.str t)) κ=κ (.d (.bool (!(Op.bytesLess s t||decide (s=t))))) []:=by simp[cH,fX,ko]
theorem M6:cH .geq (.d (.str s)) (.d (.str t)) κ=κ (.d (.bool (!Op.bytesLess s t))) []:=by simp[cH,fX,ko]
theorem Ph:EJ .neg (.d (.int k a)) κ=κ (.d (.int k (k.wrap (0-a)))) []:=by simp[EJ,Jv]
theorem N7:EJ .xor (.d (.int k a)) κ=κ (.d (.int k (k.wrap ((BitVec.ofInt k.bits (if k.signed then-1 else k.max)^^^BitVec.ofInt k.bits a).toNat)))) []:=by simp[EJ,Jv]
theorem OY:EJ .not (.d (.bool p)) κ=κ (.d (.bool (!p))) []:=by simp[EJ,Jv]
end
theorem Bq{cs:List V}{sz:Nat}{f:List V->Prop}:di (.agg cs) sz f=(cs.length=sz/\cs.all fh=true/\f cs):=by simp only[di,aG]
theorem IM{x:D}{sz:Nat}{f:List V->Prop}:di (.d x) sz f=(sz=1/\f [.d x]):=rfl
theorem Bh{a b c d e sz:Nat}{f:List V->Prop}:di (.cl a b c d e) sz f=(sz=1/\f [.cl a b c d e]):=rfl
theorem ya{a b c d e sz:Nat}{f:List V->Prop}:di (.aY a b c d e) sz f=(sz=1/\f [.aY a b c d e]):=rfl
theorem Fk{g:Fn}{a b:List V}{sz:Nat}{f:List V->Prop}:di (.fn g a b) sz f=(sz=1/\f [.fn g a b]):=rfl
theorem Ql{fr:List V}{i:Nat}:bw.ev fr (.t i)=nth fr i:=rfl
theorem PA{fr:List V}{v:V}:bw.ev fr (.k v)=v:=rfl
theorem MQ{x:V}{l:List V}:nth (x::l) 0=x:=rfl
theorem MS{x:V}{l:List V}{n:Nat}:nth (x::l) (n+1)=nth l n:=rfl
theorem Ov{x v:V}{l:List V}:jS (x::l) 0 v=v::l:=rfl
theorem Nq{x v:V}{l:List V}{n:Nat}:jS (x::l) (n+1) v=x::jS l n v:=rfl
theorem Ox{fr:List V}{d:Nat}{v:V}:eg fr (some d) v=jS fr d v:=rfl
theorem OD{fr:List V}{v:V}:eg fr none v=fr:=rfl
theorem Qd{rows:Rows}:bq rows []=rows:=rfl
theorem PS{rows:Rows}{h:Nat}{r:bd}{l:List (Nat×bd)}:bq rows ((h,r)::l)=bq (setAt rows h r) l:=by
 rw[bq];congr 1;induction rows generalizing h with
 |nil=>rfl
 |cons x rows ih=>cases h with
  |zero=>rfl
  |succ h=>simp[setAt,ih]
theorem Qe{x r:bd}{l:Rows}:setAt (x::l) 0 r=r::l:=rfl
theorem Qf{x r:bd}{l:Rows}{n:Nat}:setAt (x::l) (n+1) r=x::setAt l n r:=rfl
theorem a8{n:Int}(h: -9223372036854775808<=n)(h':n<=9223372036854775807):IntKind.i64.wrap n=n:=by rw[IntKind.wrap_i64];omega
theorem Eh{n:Int}(h:0<=n)(h':n<=65535):IntKind.u16.wrap n=n:=by rw[IntKind.wrap_u16];omega
theorem Jt{n:Int}(h:0<=n)(h':n<=255):IntKind.u8.wrap n=n:=by rw[IntKind.wrap_u8];omega
variable[bf]
theorem vx:(∀{P:Program} {base:Nat} {K:St->Prop} {S:St},jG P base [] K S=K S)/\(∀{P:Program} {base:Nat} {hi:Nat} {l:List bn} {K:St->Prop} {fr:List V} {rows:Rows} {dst:Option Nat} {g:Option (Nat×Bool)} {act:ep},jG P base (⟨dst,hi,g,act⟩::l) K ⟨fr,rows⟩=bP P base ⟨dst,hi,g,act⟩ ⟨fr,rows⟩ (runK P base l K dst fr rows))/\(∀{P:Program} {base:Nat} {l:List bn} {K:St->Prop} {fr:List V} {rows:Rows} {dst:Option Nat} {v:V} {u:List (Nat×bd)},runK P base l K dst fr rows v u=jG P base l K ⟨eg fr dst v,bq rows u⟩)/\(∀{P:Program} {base:Nat} {K:St->Prop} {S:St},sS P base [] K S=K S)/\(∀{P:Program} {base:Nat} {hi:Nat} {l:List bn} {K:St->Prop} {fr:List V} {rows:Rows} {dst:Option Nat} {g:Option (Nat×Bool)} {act:ep},sS P base (⟨dst,hi,g,act⟩::l) K ⟨fr,rows⟩=bP P base ⟨dst,hi,g,act⟩ ⟨fr,rows⟩ (xf P base l K dst fr rows))/\(∀{P:Program} {base:Nat} {l:List bn} {K:St->Prop} {fr:List V} {rows:Rows} {dst:Option Nat} {v:V},xf P base l K dst fr rows v []=sS P base l K ⟨eg fr dst v,rows⟩)/\(∀{P:Program} {base:Nat} {K:St->Prop} {acc:List (List Nat×List Nat)} {S:St},fU P base [] acc K S=K S)/\(∀{P:Program} {base:Nat} {hi:Nat} {K:St->Prop} {fr:List V} {rows:Rows} {dst:Option Nat} {acc:List (List Nat×List Nat)} {dl:List (bn×List Nat)} {pre:List Nat} {g:Option (Nat×Bool)} {act:ep},fU P base ((⟨dst,hi,g,act⟩,pre)::dl) acc K ⟨fr,rows⟩=bP P base ⟨dst,hi,g,act⟩ ⟨fr,rows⟩ (z7 P base dl acc K dst pre (bn.ng ⟨dst,hi,g,act⟩ base fr) g act fr rows))/\(∀{P:Program} {base:Nat} {K:St->Prop} {fl:List Bool} {S:St},jf P base fl [] K S=K S)/\(∀{P:Program} {base:Nat} {hi:Nat} {l:List bn} {K:St->Prop} {fr:List V} {rows:Rows} {dst:Option Nat} {fl:List Bool} {f:bw} {as:List bw},jf P base (true::fl) (⟨dst,hi,none,.call f as⟩::l) K ⟨fr,rows⟩=EY P (f.ev fr) (tS fr as) rows (AU P base fl l K dst fr))/\(∀{P:Program} {base:Nat} {hi:Nat} {l:List bn} {K:St->Prop} {fr:List V} {rows:Rows} {dst:Option Nat} {fl:List Bool} {t:Nat} {w:Bool} {f:bw} {as:List bw},jf P base (true::fl) (⟨dst,hi,some (t,w),.call f as⟩::l) K ⟨fr,rows⟩=(nth fr t=.d (.bool w)/\EY P (f.ev fr) (tS fr as) rows (AU P base fl l K dst fr)))/\(∀{P:Program} {base:Nat} {hi:Nat} {l:List bn} {K:St->Prop} {fr:List V} {rows:Rows} {dst:Option Nat} {fl:List Bool} {g:Option (Nat×Bool)} {act:ep},jf P base (false::fl) (⟨dst,hi,g,act⟩::l) K ⟨fr,rows⟩=bP P base ⟨dst,hi,g,act⟩ ⟨fr,rows⟩ (td P base fl l K dst fr rows))/\(∀{P:Program} {base:Nat} {hi:Nat} {l:List bn} {K:St->Prop} {fr:List V} {rows:Rows} {dst:Option Nat} {g:Option (Nat×Bool)} {act:ep},jf P base [] (⟨dst,hi,g,act⟩::l) K ⟨fr,rows⟩=bP P base ⟨dst,hi,g,act⟩ ⟨fr,rows⟩ (td P base [] l K dst fr rows))/\(∀{P:Program} {base:Nat} {l:List bn} {K:St->Prop} {fr:List V} {rows:Rows} {dst:Option Nat} {fl:List Bool} {v:V} {u:List (Nat×bd)},td P base fl l K dst fr rows v u=jf P base fl l K ⟨eg fr dst v,bq rows u⟩)/\(∀{P:Program} {base:Nat} {l:List bn} {K:St->Prop} {fr:List V} {dst:Option Nat} {fl:List Bool} {v:V} {rows':Rows},AU P base fl l K dst fr v rows'=jf P base fl l K ⟨eg fr dst v,rows'⟩)/\(∀{P:Program} {base:Nat} {hi:Nat} {fr:List V} {rows:Rows} {dst:Option Nat} {κ:KV} {x:bw},bP P base ⟨dst,hi,none,.op (.gC x)⟩ ⟨fr,rows⟩ κ=κ (x.ev fr) [])/\(∀{P:Program} {base:Nat} {hi:Nat} {fr:List V} {rows:Rows} {dst:Option Nat} {κ:KV} {t:Nat} {w:Bool} {act:ep},bP P base ⟨dst,hi,some (t,w),act⟩ ⟨fr,rows⟩ κ=eZ (nth fr t) w P base ⟨dst,hi,none,act⟩ ⟨fr,rows⟩ κ)/\(∀{P:Program} {base:Nat} {κ:KV} {s:bn} {S:St},eZ (.d (.bool true)) true P base s S κ=bP P base s S κ)/\(∀{P:Program} {base:Nat} {κ:KV} {s:bn} {S:St},eZ (.d (.bool false)) false P base s S κ=bP P base s S κ)/\(∀{P:Program} {base:Nat} {κ:KV} {s:bn} {S:St},eZ (.d (.bool true)) false P base s S κ=κ (.cm []) [])/\(∀{P:Program} {base:Nat} {κ:KV} {s:bn} {S:St},eZ (.d (.bool false)) true P base s S κ=κ (.cm []) [])/\(∀{P:Program} {base:Nat} {κ:KV} {s:bn} {S:St} {w:Bool},eZ (.cm []) w P base s S κ=κ (.cm []) [])/\(∀{P:Program} {base:Nat} {hi:Nat} {fr:List V} {rows:Rows} {dst:Option Nat} {κ:KV} {c a b:bw},bP P base ⟨dst,hi,none,.op (.pick c a b)⟩ ⟨fr,rows⟩ κ=xj (c.ev fr) (a.ev fr) (b.ev fr) κ)/\(∀{P:Program} {base:Nat} {hi:Nat} {fr:List V} {rows:Rows} {dst:Option Nat} {κ:KV} {op:BinOp} {x y:bw},bP P base ⟨dst,hi,none,.op (.bin op x y)⟩ ⟨fr,rows⟩ κ=cH op (x.ev fr) (y.ev fr) κ)/\(∀{P:Program} {base:Nat} {hi:Nat} {fr:List V} {rows:Rows} {dst:Option Nat} {κ:KV} {op:UnOp} {x:bw},bP P base ⟨dst,hi,none,.op (.un op x)⟩ ⟨fr,rows⟩ κ=EJ op (x.ev fr) κ)/\(∀{P:Program} {base:Nat} {hi:Nat} {fr:List V} {rows:Rows} {dst:Option Nat} {κ:KV} {neg:Bool} {x y:bw},bP P base ⟨dst,hi,none,.op (.Ft neg x y)⟩ ⟨fr,rows⟩ κ=Cm neg (x.ev fr) (y.ev fr) κ)/\(∀{P:Program} {base:Nat} {hi:Nat} {fr:List V} {rows:Rows} {dst:Option Nat} {κ:KV} {neg:Bool} {ks:List Nat} {x y:bw},bP P base ⟨dst,hi,none,.op (.FK neg ks x y)⟩ ⟨fr,rows⟩ κ=FA neg ks (x.ev fr) (y.ev fr) κ)/\(∀{P:Program} {base:Nat} {hi:Nat} {fr:List V} {rows:Rows} {dst:Option Nat} {κ:KV} {neg:Bool} {x y:bw},bP P base ⟨dst,hi,none,.op (.isNil neg x y)⟩ ⟨fr,rows⟩ κ=mK rows neg (x.ev fr) (y.ev fr) κ)/\(∀{P:Program} {base:Nat} {hi:Nat} {fr:List V} {rows:Rows} {dst:Option Nat} {κ:KV} {k:IntKind} {x:bw},bP P base ⟨dst,hi,none,.op (.conv k x)⟩ ⟨fr,rows⟩ κ=wg k (x.ev fr) κ)/\(∀{P:Program} {base:Nat} {hi:Nat} {fr:List V} {rows:Rows} {dst:Option Nat} {κ:KV} {x:bw},bP P base ⟨dst,hi,none,.op (.same x)⟩ ⟨fr,rows⟩ κ=xv (x.ev fr) κ)/\(∀{P:Program} {base:Nat} {hi:Nat} {fr:List V} {rows:Rows} {dst:Option Nat} {κ:KV} {x:bw},bP P base ⟨dst,hi,none,.op (.g7 x)⟩ ⟨fr,rows⟩ κ=nO rows (x.ev fr) κ)/\(∀{P:Program} {base:Nat} {hi:Nat} {fr:List V} {rows:Rows} {dst:Option Nat} {κ:KV} {x:bw},bP P base ⟨dst,hi,none,.op (.HI x)⟩ ⟨fr,rows⟩ κ=(rowAt rows (base+hi)=.un/\DH (base+hi) (x.ev fr) κ))/\(∀{P:Program} {base:Nat} {hi:Nat} {fr:List V} {rows:Rows} {dst:Option Nat} {κ:KV} {x:bw},bP P base ⟨dst,hi,none,.op (.BW x)⟩ ⟨fr,rows⟩ κ=J4 rows (x.ev fr) κ)/\(∀{P:Program} {base:Nat} {hi:Nat} {fr:List V} {rows:Rows} {dst:Option Nat} {κ:KV} {z:List D},bP P base ⟨dst,hi,none,.op (.alloc z)⟩ ⟨fr,rows⟩ κ=(rowAt rows (base+hi)=.un/\κ (.aY z.length (base+hi) 1 0 0) [(base+hi,.live z.length [z.map .d])]))/\(∀{P:Program} {base:Nat} {hi:Nat} {fr:List V} {rows:Rows} {dst:Option Nat} {κ:KV} {sz:Nat} {x:bw},bP P base ⟨dst,hi,none,.op (.box sz x)⟩ ⟨fr,rows⟩ κ=(rowAt rows (base+hi)=.un/\JQ sz (base+hi) (x.ev fr) κ))/\(∀{P:Program} {base:Nat} {hi:Nat} {fr:List V} {rows:Rows} {dst:Option Nat} {κ:KV} {z:List D} {ps:List (Nat×Nat×bw)},bP P base ⟨dst,hi,none,.op (.build z ps)⟩ ⟨fr,rows⟩ κ=mf fr ps (z.map .d) (Kl κ))/\(∀{P:Program} {base:Nat} {hi:Nat} {fr:List V} {rows:Rows} {dst:Option Nat} {κ:KV} {sz n:Nat} {z:List D} {ps:List (Nat×bw)},bP P base ⟨dst,hi,none,.op (.b5 sz n z ps)⟩ ⟨fr,rows⟩ κ=(rowAt rows (base+hi)=.un/\wP fr sz ps (List.replicate n (z.map .d)) (LH sz (base+hi) n κ)))/\(∀{P:Program} {base:Nat} {hi:Nat} {fr:List V} {rows:Rows} {dst:Option Nat} {κ:KV} {agg:Bool} {sz:Nat} {x:bw},bP P base ⟨dst,hi,none,.op (.load agg sz x)⟩ ⟨fr,rows⟩ κ=mj rows agg sz (x.ev fr) κ)/\(∀{P:Program} {base:Nat} {hi:Nat} {fr:List V} {rows:Rows} {dst:Option Nat} {κ:KV} {sz:Nat} {a x:bw},bP P base ⟨dst,hi,none,.op (.store sz a x)⟩ ⟨fr,rows⟩ κ=qY rows sz (a.ev fr) (x.ev fr) κ)/\(∀{P:Program} {base:Nat} {hi:Nat} {fr:List V} {rows:Rows} {dst:Option Nat} {κ:KV} {sz bytes:Nat} {z:List D} {x y:bw},bP P base ⟨dst,hi,none,.op (.jH sz bytes z x y)⟩ ⟨fr,rows⟩ κ=(rowAt rows (base+hi)=.un/\tg sz bytes z (base+hi) (x.ev fr) (y.ev fr) κ))/\(∀{P:Program} {base:Nat} {hi:Nat} {fr:List V} {rows:Rows} {dst:Option Nat} {κ:KV} {sz:Nat} {x:bw} {lo h:Option bw},bP P base ⟨dst,hi,none,.op (.slice sz x lo h)⟩ ⟨fr,rows⟩ κ=vm rows sz (x.ev fr) (xV fr lo) (xV fr h) κ)/\(∀{P:Program} {base:Nat} {hi:Nat} {fr:List V} {rows:Rows} {dst:Option Nat} {κ:KV} {off:Nat} {x:bw},bP P base ⟨dst,hi,none,.op (.nf off x)⟩ ⟨fr,rows⟩ κ=xM rows off (x.ev fr) κ)/\(∀{P:Program} {base:Nat} {hi:Nat} {fr:List V} {rows:Rows} {dst:Option Nat} {κ:KV} {off sz:Nat} {agg:Bool} {x:bw},bP P base ⟨dst,hi,none,.op (.H8 off sz agg x)⟩ ⟨fr,rows⟩ κ=Dp off sz agg (x.ev fr) κ)/\(∀{P:Program} {base:Nat} {hi:Nat} {fr:List V} {rows:Rows} {dst:Option Nat} {κ:KV} {sz:Nat} {arr:Option Nat} {x i:bw},bP P base ⟨dst,hi,none,.op (.fD sz arr x i)⟩ ⟨fr,rows⟩ κ=nE rows sz arr (x.ev fr) (i.ev fr) κ)/\(∀{P:Program} {base:Nat} {hi:Nat} {fr:List V} {rows:Rows} {dst:Option Nat} {κ:KV} {sz n:Nat} {agg:Bool} {x i:bw},bP P base ⟨dst,hi,none,.op (.idx sz n agg x i)⟩ ⟨fr,rows⟩ κ=Bd sz n agg (x.ev fr) (i.ev fr) κ)/\(∀{P:Program} {base:Nat} {hi:Nat} {fr:List V} {rows:Rows} {dst:Option Nat} {κ:KV} {x i:bw},bP P base ⟨dst,hi,none,.op (.iL x i)⟩ ⟨fr,rows⟩ κ=xI (x.ev fr) (i.ev fr) κ)/\(∀{P:Program} {base:Nat} {hi:Nat} {fr:List V} {rows:Rows} {dst:Option Nat} {κ:KV} {x:bw} {i:Nat},bP P base ⟨dst,hi,none,.op (.ext x i)⟩ ⟨fr,rows⟩ κ=Hk i (x.ev fr) κ)/\(∀{P:Program} {base:Nat} {hi:Nat} {fr:List V} {rows:Rows} {dst:Option Nat} {κ:KV} {f:Fn} {a b:List bw},bP P base ⟨dst,hi,none,.op (.eG f a b)⟩ ⟨fr,rows⟩ κ=κ (.fn f (tS fr a) (tS fr b)) [])/\(∀{P:Program} {base:Nat} {hi:Nat} {fr:List V} {rows:Rows} {dst:Option Nat} {κ:KV} {str:Bool} {x:bw},bP P base ⟨dst,hi,none,.op (.len str x)⟩ ⟨fr,rows⟩ κ=yh rows str (x.ev fr) κ)/\(∀{P:Program} {base:Nat} {hi:Nat} {fr:List V} {rows:Rows} {dst:Option Nat} {κ:KV} {sz bytes:Nat} {s x:bw},bP P base ⟨dst,hi,none,.op (.append sz bytes s x)⟩ ⟨fr,rows⟩ κ=(rowAt rows (base+hi)=.un/\iY rows sz (x.ev fr) (yL rows sz bytes (base+hi) (s.ev fr) κ)))/\(∀{P:Program} {base:Nat} {hi:Nat} {fr:List V} {rows:Rows} {dst:Option Nat} {κ:KV} {sz:Nat} {d s:bw},bP P base ⟨dst,hi,none,.op (.copy sz d s)⟩ ⟨fr,rows⟩ κ=iY rows sz (s.ev fr) (BR rows sz (d.ev fr) κ))/\(∀{P:Program} {base:Nat} {hi:Nat} {fr:List V} {rows:Rows} {dst:Option Nat} {κ:KV} {sz:Nat} {z:List D} {x:bw},bP P base ⟨dst,hi,none,.op (.Gf sz z x)⟩ ⟨fr,rows⟩ κ=Fc rows sz z (x.ev fr) κ)/\(∀{P:Program} {base:Nat} {hi:Nat} {fr:List V} {rows:Rows} {dst:Option Nat} {κ:KV} {x y:bw},bP P base ⟨dst,hi,none,.op (.mn x y)⟩ ⟨fr,rows⟩ κ=Pe (x.ev fr) (y.ev fr) κ)/\(∀{P:Program} {base:Nat} {hi:Nat} {fr:List V} {rows:Rows} {dst:Option Nat} {κ:KV} {x y:bw},bP P base ⟨dst,hi,none,.op (.mx x y)⟩ ⟨fr,rows⟩ κ=Nk (x.ev fr) (y.ev fr) κ)/\(∀{P:Program} {base:Nat} {hi:Nat} {fr:List V} {rows:Rows} {dst:Option Nat} {κ:KV} {x y:bw},bP P base ⟨dst,hi,none,.op (.iI x y)⟩ ⟨fr,rows⟩ κ=v9 (x.ev fr) (y.ev fr) κ)/\(∀{P:Program} {base:Nat} {hi:Nat} {fr:List V} {rows:Rows} {dst:Option Nat} {κ:KV},bP P base ⟨dst,hi,none,.op .bad⟩ ⟨fr,rows⟩ κ=False)/\(∀{P:Program} {base:Nat} {hi:Nat} {fr:List V} {rows:Rows} {dst:Option Nat} {κ:KV} {x:bw},bP P base ⟨dst,hi,none,.op (.qB x)⟩ ⟨fr,rows⟩ κ=(rowAt rows (base+hi)=.un/\HH (base+hi) (x.ev fr) κ))/\(∀{P:Program} {base:Nat} {hi:Nat} {fr:List V} {rows:Rows} {dst:Option Nat} {κ:KV} {x:bw},bP P base ⟨dst,hi,none,.op (.FO x)⟩ ⟨fr,rows⟩ κ=Be rows (x.ev fr) κ)/\(∀{P:Program} {base:Nat} {hi:Nat} {fr:List V} {rows:Rows} {dst:Option Nat} {κ:KV},bP P base ⟨dst,hi,none,.op .mz⟩ ⟨fr,rows⟩ κ=(rowAt rows (base+hi)=.un/\κ (.aY 0 (base+hi) 0 1 0) [(base+hi,.obj (.mp []))]))/\(∀{P:Program} {base:Nat} {hi:Nat} {fr:List V} {rows:Rows} {dst:Option Nat} {κ:KV} {okf:Bool} {z:D} {m k:bw},bP P base ⟨dst,hi,none,.op (.BV okf z m k)⟩ ⟨fr,rows⟩ κ=yG rows okf z (m.ev fr) (k.ev fr) κ)/\(∀{P:Program} {base:Nat} {hi:Nat} {fr:List V} {rows:Rows} {dst:Option Nat} {κ:KV} {m k v:bw},bP P base ⟨dst,hi,none,.op (.DC m k v)⟩ ⟨fr,rows⟩ κ=BN rows (m.ev fr) (k.ev fr) (v.ev fr) κ)/\(∀{κ:KV} {h pos:Nat} {s:List UInt8},tX true h s pos κ=κ (.cm [.d (.bool true),.d (.int .i64 pos),.d (.int .i32 (dD s pos).1)]) [(h,.obj (.it s (pos+(dD s pos).2)))])/\(∀{κ:KV} {h pos:Nat} {s:List UInt8},tX false h s pos κ=κ (.cm [.d (.bool false)]) [])/\(∀{P:Program} {base:Nat} {hi:Nat} {fr:List V} {rows:Rows} {dst:Option Nat} {κ:KV} {f:bw} {as:List bw},bP P base ⟨dst,hi,none,.call f as⟩ ⟨fr,rows⟩ κ=nB P (f.ev fr) (tS fr as) rows κ)/\(∀{P:Program} {b0:Nat} {Q:AX->St->Prop} {fr:List V} {rows:Rows} {m:Nat} {fl:List Bool} {l:List bn},dW P b0 (.AY m fl l) Q ⟨fr,rows⟩=jf P rows.length fl l (Q .normal) ⟨fr,rows++List.replicate m .un⟩)/\(∀{fr:List V} {rows:Rows} {t:Nat} {κ:V->Rows->Prop},xe [.tmp t] κ .ret ⟨fr,rows⟩=κ (nth fr t) rows)/\(∀{fr:List V} {rows:Rows} {t:Nat} {κ:V->Rows->Prop},xe [.tmp t] κ .normal ⟨fr,rows⟩=κ (nth fr t) rows)/\(∀{P:Program} {b0:Nat} {Q:AX->St->Prop} {a b:AC} {S:St},dW P b0 (.seq a b) Q S=dW P b0 a (ub P b0 b Q) S)/\(∀{P:Program} {b0:Nat} {Q:AX->St->Prop} {b:AC} {S:St},ub P b0 b Q .normal S=dW P b0 b Q S)/\(∀{P:Program} {b0:Nat} {Q:AX->St->Prop} {b:AC} {S:St} {i:Nat},ub P b0 b Q (.exit i) S=Q (.exit i) S)/\(∀{P:Program} {b0:Nat} {Q:AX->St->Prop} {b:AC} {S:St},ub P b0 b Q .ret S=Q .ret S)/\(∀{P:Program} {b0:Nat} {Q:AX->St->Prop} {fr:List V} {rows:Rows} {m:Nat} {l:List bn},dW P b0 (.bV m l) Q ⟨fr,rows⟩=jG P rows.length l (Q .normal) ⟨fr,rows++List.replicate m .un⟩)/\(∀{P:Program} {b0:Nat} {Q:AX->St->Prop} {fr:List V} {rows:Rows} {c:bw} {a b:AC},dW P b0 (.cond c a b) Q ⟨fr,rows⟩=mr (c.ev fr) P b0 a b Q ⟨fr,rows⟩)/\(∀{P:Program} {b0:Nat} {Q:AX->St->Prop} {a b:AC} {S:St},mr (.d (.bool true)) P b0 a b Q S=dW P b0 a Q S)/\(∀{P:Program} {b0:Nat} {Q:AX->St->Prop} {a b:AC} {S:St},mr (.d (.bool false)) P b0 a b Q S=dW P b0 b Q S)/\(∀{P:Program} {b0:Nat} {Q:AX->St->Prop} {a b:AC} {S:St},mr (.d .ke) P b0 a b Q S=(dW P b0 a Q S/\dW P b0 b Q S))/\(∀{P:Program} {b0:Nat} {Q:AX->St->Prop} {a:AC} {S:St},dW P b0 (.scope a) Q S=dW P b0 a Q S)/\(∀{P:Program} {b0:Nat} {Q:AX->St->Prop} {S:St},dW P b0 .label Q S=Q .normal S)/\(∀{P:Program} {b0:Nat} {Q:AX->St->Prop} {id:Nat} {a:AC} {S:St},dW P b0 (.block id a) Q S=dW P b0 a (iq id Q) S)/\(∀{Q:AX->St->Prop} {id:Nat} {S:St},iq id Q .normal S=Q .normal S)/\(∀{Q:AX->St->Prop} {id:Nat} {S:St},iq id Q .ret S=Q .ret S)/\(∀{Q:AX->St->Prop} {id:Nat} {S:St},iq id Q (.exit id) S=Q .normal S)/\(∀{Q:AX->St->Prop} {id i:Nat} {S:St} (h:(i==id)=false),iq id Q (.exit i) S=Q (.exit i) S)/\(∀{P:Program} {b0:Nat} {Q:AX->St->Prop} {id:Nat} {S:St},dW P b0 (.exit id) Q S=Q (.exit id) S)/\(∀{P:Program} {b0:Nat} {Q:AX->St->Prop} {S:St},dW P b0 .ret Q S=Q .ret S)/\(∀{P:Program} {b0:Nat} {Q:AX->St->Prop} {S:St},dW P b0 .skip Q S=Q .normal S)/\(∀{P:Program} {b0:Nat} {Q:AX->St->Prop} {a:AC} {J:Nat->St->Prop} {n i:Nat} {S:St},wo P b0 a Q J n (.exit i) S=Q (.exit i) S)/\(∀{P:Program} {b0:Nat} {Q:AX->St->Prop} {a:AC} {J:Nat->St->Prop} {n:Nat} {S:St},wo P b0 a Q J n .ret S=Q .ret S)/\(∀{rs:List RS} {v:V} {fr:List V} {rows:Rows},ow rs v .ret ⟨fr,rows⟩=pt rs [] fr rows v)/\(∀{rs:List RS} {v:V} {fr:List V} {rows:Rows},ow rs v .normal ⟨fr,rows⟩=pt rs [] fr rows v)/\(∀{rows:Rows} {v:V},ed rows v .any=True)/\(∀{rows:Rows} {k k':IntKind} {a b:Int},ed rows (.d (.int k a)) (.d (.int k' b))=(k=k'/\a=b))/\(∀{rows:Rows} {a b:Bool},ed rows (.d (.bool a)) (.d (.bool b))=(a=b))/\(∀{rows:Rows} {a b:List UInt8},ed rows (.d (.str a)) (.d (.str b))=(a=b))/\(∀{rows:Rows} {n:Nat},ed rows (.d .bm) (.d (.sl n []))=True)/\(∀{rows:Rows} {a b:List V},ed rows (.cm a) (.cm b)=kZ rows a b)/\(∀{rows:Rows} {a b:List V},ed rows (.agg a) (.agg b)=kZ rows a b)/\(∀{κ:KV} {k:IntKind} {a:Int} {b:Int},cH .add (.d (.int k a)) (.d (.int k b)) κ=κ (.d (.int k (k.wrap (a+b)))) [])/\(∀{κ:KV} {k:IntKind} {a:Int} {b:Int},cH .sub (.d (.int k a)) (.d (.int k b)) κ=κ (.d (.int k (k.wrap (a-b)))) [])/\(∀{κ:KV} {k:IntKind} {a:Int} {b:Int},cH .mul (.d (.int k a)) (.d (.int k b)) κ=κ (.d (.int k (k.wrap (a*b)))) [])/\(∀{κ:KV} {k:IntKind} {a:Int} {b:Int},cH .quo (.d (.int k a)) (.d (.int k b)) κ=(b≠0/\κ (.d (.int k (k.wrap (a.tdiv b)))) []))/\(∀{κ:KV} {k:IntKind} {a:Int} {b:Int},cH .rem (.d (.int k a)) (.d (.int k b)) κ=(b≠0/\κ (.d (.int k (a.tmod b))) []))/\(∀{κ:KV} {k:IntKind} {a:Int} {b:Int},cH .and (.d (.int k a)) (.d (.int k b)) κ=κ (.d (.int k (k.wrap ((BitVec.ofInt k.bits a&&&BitVec.ofInt k.bits b).toNat)))) [])/\(∀{κ:KV} {k:IntKind} {a:Int} {b:Int},cH .or (.d (.int k a)) (.d (.int k b)) κ=κ (.d (.int k (k.wrap ((BitVec.ofInt k.bits a|||BitVec.ofInt k.bits b).toNat)))) [])/\(∀{κ:KV} {k:IntKind} {a:Int} {b:Int},cH .xor (.d (.int k a)) (.d (.int k b)) κ=κ (.d (.int k (k.wrap ((BitVec.ofInt k.bits a^^^BitVec.ofInt k.bits b).toNat)))) [])/\(∀{κ:KV} {k:IntKind} {a:Int} {b:Int},cH .andNot (.d (.int k a)) (.d (.int k b)) κ=κ (.d (.int k (k.wrap ((BitVec.ofInt k.bits a&&& ~~~BitVec.ofInt k.bits b).toNat)))) [])/\(∀{κ:KV} {k:IntKind} {a:Int} {b:Int},cH .eql (.d (.int k a)) (.d (.int k b)) κ=κ (.d (.bool (decide (a=b)))) [])/\(∀{κ:KV} {k:IntKind} {a:Int} {b:Int},cH .neq (.d (.int k a)) (.d (.int k b)) κ=κ (.d (.bool (decide (a≠b)))) [])/\(∀{κ:KV} {k:IntKind} {a:Int} {b:Int},cH .lss (.d (.int k a)) (.d (.int k b)) κ=κ (.d (.bool (decide (a<b)))) [])/\(∀{κ:KV} {k:IntKind} {a:Int} {b:Int},cH .leq (.d (.int k a)) (.d (.int k b)) κ=κ (.d (.bool (decide (a<=b)))) [])/\(∀{κ:KV} {k:IntKind} {a:Int} {b:Int},cH .gtr (.d (.int k a)) (.d (.int k b)) κ=κ (.d (.bool (decide (b<a)))) [])/\(∀{κ:KV} {k:IntKind} {a:Int} {b:Int},cH .geq (.d (.int k a)) (.d (.int k b)) κ=κ (.d (.bool (decide (b<=a)))) [])/\(∀{κ:KV} {k:IntKind} {k':IntKind} {a:Int} {b:Int},cH .shl (.d (.int k a)) (.d (.int k' b)) κ=(0<=b/\κ (.d (.int k (k.wrap (a*2^(min b.toNat k.bits))))) []))/\(∀{κ:KV} {k:IntKind} {k':IntKind} {a:Int} {b:Int},cH .shr (.d (.int k a)) (.d (.int k' b)) κ=(0<=b/\κ (.d (.int k (a/(2^(min b.toNat k.bits))))) []))/\(∀{κ:KV} {s:List UInt8} {t:List UInt8},cH .add (.d (.str s)) (.d (.str t)) κ=(s.length+t.length<=9223372036854775807/\κ (.d (.str (s++t))) []))/\(∀{κ:KV} {s:List UInt8} {t:List UInt8},cH .eql (.d (.str s)) (.d (.str t)) κ=κ (.d (.bool (decide (s=t)))) [])/\(∀{κ:KV} {s:List UInt8} {t:List UInt8},cH .neq (.d (.str s)) (.d (.str t)) κ=κ (.d (.bool (decide (s≠t)))) [])/\(∀{κ:KV} {s:List UInt8} {t:List UInt8},cH .lss (.d (.str s)) (.d (.str t)) κ=κ (.d (.bool (Op.bytesLess s t))) [])/\(∀{κ:KV} {s:List UInt8} {t:List UInt8},cH .leq (.d (.str s)) (.d (.str t)) κ=κ (.d (.bool (Op.bytesLess s t||decide (s=t)))) [])/\(∀{κ:KV} {s:List UInt8} {t:List UInt8},cH .gtr (.d (.str s)) (.d (.str t)) κ=κ (.d (.bool (!(Op.bytesLess s t||decide (s=t))))) [])/\(∀{κ:KV} {s:List UInt8} {t:List UInt8},cH .geq (.d (.str s)) (.d (.str t)) κ=κ (.d (.bool (!Op.bytesLess s t))) [])/\(∀{κ:KV} {k:IntKind} {a:Int},EJ .neg (.d (.int k a)) κ=κ (.d (.int k (k.wrap (0-a)))) [])/\(∀{κ:KV} {k:IntKind} {a:Int},EJ .xor (.d (.int k a)) κ=κ (.d (.int k (k.wrap ((BitVec.ofInt k.bits (if k.signed then-1 else k.max)^^^BitVec.ofInt k.bits a).toNat)))) [])/\(∀{κ:KV} {p:Bool},EJ .not (.d (.bool p)) κ=κ (.d (.bool (!p))) [])/\(∀{cs:List V} {sz:Nat} {f:List V->Prop},di (.agg cs) sz f=(cs.length=sz/\cs.all fh=true/\f cs))/\(∀{x:D} {sz:Nat} {f:List V->Prop},di (.d x) sz f=(sz=1/\f [.d x]))/\(∀{a b c d e sz:Nat} {f:List V->Prop},di (.cl a b c d e) sz f=(sz=1/\f [.cl a b c d e]))/\(∀{a b c d e sz:Nat} {f:List V->Prop},di (.aY a b c d e) sz f=(sz=1/\f [.aY a b c d e]))/\(∀{g:Fn} {a b:List V} {sz:Nat} {f:List V->Prop},di (.fn g a b) sz f=(sz=1/\f [.fn g a b]))/\(∀{fr:List V} {i:Nat},bw.ev fr (.t i)=nth fr i)/\(∀{fr:List V} {v:V},bw.ev fr (.k v)=v)/\(∀{x:V} {l:List V},nth (x::l) 0=x)/\(∀{x:V} {l:List V} {n:Nat},nth (x::l) (n+1)=nth l n)/\(∀{x v:V} {l:List V},jS (x::l) 0 v=v::l)/\(∀{x v:V} {l:List V} {n:Nat},jS (x::l) (n+1) v=x::jS l n v)/\(∀{fr:List V} {d:Nat} {v:V},eg fr (some d) v=jS fr d v)/\(∀{fr:List V} {v:V},eg fr none v=fr)/\(∀{rows:Rows},bq rows []=rows)/\(∀{rows:Rows} {h:Nat} {r:bd} {l:List (Nat×bd)},bq rows ((h,r)::l)=bq (setAt rows h r) l)/\(∀{x r:bd} {l:Rows},setAt (x::l) 0 r=r::l)/\(∀{x r:bd} {l:Rows} {n:Nat},setAt (x::l) (n+1) r=x::setAt l n r)/\(∀{b0:Nat} {Q:AX->St->Prop} {σ:Type} {F:σ->St} {inv:σ->Prop} {mu:σ->Nat} {s:σ} {i:Nat} {S:St},pQ b0 Q F inv mu s (.exit i) S=Q (.exit i) S)/\(∀{b0:Nat} {Q:AX->St->Prop} {σ:Type} {F:σ->St} {inv:σ->Prop} {mu:σ->Nat} {s:σ} {S:St},pQ b0 Q F inv mu s .ret S=Q .ret S):=⟨NR,LY,Q3,Nn,LJ,QN,Po,J7,N2,Q5,QL,QM,Rb,QV,QO,Dr,Hj,P8,Nz,NZ,P4,P0,ME,M3,Qn,Oa,No,Hl,Kh,Lv,Ij,OJ,M1,HR,NI,Gp,AO,yP,It,LQ,Gg,J6,Nj,KU,OL,KD,Om,LC,MY,CW,Ml,Nv,PU,Qh,Kv,NS,O7,NA,Gz,MU,MP,NQ,NK,JP,Kd,Qq,PL,OG,N4,NU,Pc,NJ,Kn,Lb,JM,Mm,HN,FX,HG,HF,ID,Hc,G8,Lh,M7,Ls,Lt,MH,Nu,MX,Lk,Mr,II,KC,Gd,JU,Mj,Pb,O5,N0,Nc,Ou,Oh,PQ,O3,Em,OO,NT,OS,Od,OA,Oq,O8,NM,MW,M4,Nf,ON,Ol,Oi,M6,Ph,N7,OY,Bq,IM,Bh,ya,Fk,Ql,PA,MQ,MS,Ov,Nq,Ox,OD,Qd,PS,Qe,Qf,P3,PY⟩
end Go.Vx
namespace Go.Vx
open Go.ChangeShapes Go.WideShapes Go.ChangeAt Go.RowKit
def Kept(w w':World):Prop:=w'.os=w.os/\w'.output=w.output/\w.heap.size<=w'.heap.size/\∀b,b<w.heap.size->w'.heap[b]? =w.heap[b]?
theorem Kept.QR{w w':World}(h:Kept w w')(may:MemPlace->Prop):w.keptBut w' may:=by
 refine⟨h.1,h.2.1,fun i hi=>?_⟩;rw[h.2.2.2 i hi];cases w.heap[i]? with
 |none=>trivial
 |some o=>cases o<;>simp
theorem xL{I I':Nat->Prop}{w w':World}(hx:Ext (bare I w) (bare I' w')):Kept w w':=⟨hx.os,hx.output,hx.size,fun b hb=>hx.l9 b hb (by simp[bare])⟩
theorem Bx{I:Nat->Prop}{w:World}{u:Value}{b:Bool}(h:b7 (bare I w) u (.d (.bool b))):u=.bool b:=by cases h with|d _ _ h=>cases h;rfl
theorem Fm{P:Program}{f:FuncId}{vals:List V}(h:CallP P f vals (.d (.bool true))){I:Nat->Prop}{w:World}{us:Array Value}(hg:GW I w)(hI:∀b,I b->b<w.heap.size)(hr:dX (bare I w) us.toList vals):Calls P f us w fun e w'=>e=.returned (.bool true)/\Kept w w':=(h.2 I w us ⟨by simp[bare],by simp[bare],by simp[bare],by simp[bare],hI,AB hg⟩ hr).mono fun e w' ⟨u,I',he,_,hx,hu⟩=>by rw[Bx hu]at he;exact⟨he,xL hx⟩
theorem El{c:Cx}:dX c [] []:=⟨rfl,sm⟩
theorem BM{c:Cx}{u:Value}{us:List Value}{v:V}{vs:List V}(h:b7 c u v)(hs:dX c us vs):dX c (u::us) (v::vs):=⟨by simp[hs.1],fun j v' x h1 h2=>by
  cases j with
  |zero=>simp at h1 h2;subst h1 h2;exact h
  |succ j=>exact hs.2 j v' x (by simpa using h1) (by simpa using h2)⟩
theorem post_kept{H:Type}{enc:TypeId×Value->H}{P:Program}{f:Func}{s:ChangeSpec}{apart fresh handsOn:Bool}{W W':World}{args:Array Value}{v:Value}{ds gs:List (DataW H)}{before pa pv:List MemPlace} (hW:DataW.Whole enc P f.params.toList s.vars apart W args.toList ds gs before) (hres:∀(b:Nat) (sp:Nat->Bool) (hd:Bool),DataW.TrodAll enc P W' b sp hd f.resultTypes.toList (v.resultList f.resultTypes.size) (s.fn H (ds++gs)).results []) (hargs:∀sp:Nat->Bool,(∀p∈before,sp p.block=true)->DataW.TrodAll enc P W' 0 sp true f.params.toList args.toList (s.fn H (ds++gs)).args pa) (hvars:∀sp:Nat->Bool,(∀p∈before,sp p.block=true)->DataW.TrodVars enc P W' sp s.vars (s.fn H (ds++gs)).vars pv) (hps:before=pa++pv) (hk:Kept W W'):s.post enc P f apart fresh handsOn false W args v W':=by
 have hold:∀p∈before,(fun b=>decide (b<W.heap.size)) p.block=true:=fun p hp=>by simpa using hW.lt p hp
 refine⟨ds,gs,before,[],pa,pv,hW,hres _ _ _,hargs _ hold,hvars _ hold,World.keptBut_mono (fun p hp=>⟨hp,?_⟩) (hk.QR (· ∈before)),fun h=>by cases h⟩;rw[hps,aU]at hp;exact .inr hp
end Go.Vx
namespace Go.Vx
open Go.ChangeShapes Go.WideShapes Go.ChangeAt Go.RowKit Go.WideElems Go.Deep
def kF(P:Program)(AG:Nat):Nat->List Field->Bool
 |o,[]=>o==AG
 |o,f::fs=>f.offset==o&&kF P AG (o+P.cellsOf f.type) fs
def Cells(w:World)(cs:List Value)(xs:List D):Prop:=xs.length=cs.length/\∀(j:Nat) (u:Value) (y:D),cs[j]? =some u->xs[j]? =some y->dV (fun b=>b<w.heap.size) w u y
theorem kV{w:World}{u:Value}{y:D}(h:dV (fun b=>b<w.heap.size) w u y):Cells w [u] [y]:=⟨rfl,fun j u' y' h1 h2=>by
  cases j with
  |zero=>simp at h1 h2;subst h1 h2;exact h
  |succ j=>simp at h1⟩
theorem tV{w:World}{c1 c2:List Value}{x1 x2:List D}(h1:Cells w c1 x1)(h2:Cells w c2 x2):Cells w (c1++c2) (x1++x2):=by
 refine⟨by simp[h1.1,h2.1],fun j u y hu hy=>?_⟩;by_cases hj:j<c1.length
 ·rw[aH hj]at hu;rw[aH (by rw[h1.1];exact hj)]at hy;exact h1.2 j u y hu hy
 ·rw[aJ om]at hu;rw[aJ (by rw[h1.1];omega),h1.1]at hy;exact h2.2 _ u y hu hy
theorem lu{w:World}{a:Addr}{v:Value}(h:w.cell? a=some v):a.block<w.heap.size/\a.spot=none:=by
 unfold World.cell? at h;split at h
 ·rename_i hh;refine⟨(Array.getElem?_eq_some_iff.1 hh).1,?_⟩;cases hs:a.spot with
  |none=>rfl
  |some _=>simp[hs]at h
 ·cases h
theorem Kept.sameAt{w w':World}(hk:Kept w w'){p:MemPlace}(hp:p.block<w.heap.size):w.sameAt w' p:=by
 cases p with
 |cell b off=>simp only[World.sameAt,World.cell?];rw[hk.2.2.2 b hp]
 |map b=>exact hk.2.2.2 b hp
theorem kept_args{H:Type}{enc:TypeId×Value->H}{P:Program}{W W':World}(hl:laidOutB P=true)(hk:Kept W W'){sp:Nat->Bool}:∀{ts:List TypeId} {vs:List Value} {ds:List (DataW H)} {ps:List MemPlace},(∀t∈ts,P.readableRec t=true/\t<P.types.size)->DataW.TrodAll enc P W 0 (fun _=>true) true ts vs ds ps->(∀p∈ps,p.block<W.heap.size)->(∀p∈ps,sp p.block=true)->DataW.TrodAll enc P W' 0 sp true ts vs ds ps:=by
 intro ts;induction ts with
 |nil=>intro vs ds ps _ h _ _;obtain⟨rfl,rfl,rfl⟩:=trodAll_nil h;exact rfl
 |cons t ts ih=>
  intro vs ds ps ht h hlt hsp
  match vs,ds,h with
  |v::vs,d::ds,⟨p,q,h1,h2,he⟩=>subst he;refine⟨p,q,?_,ih (fun t' h'=>ht t' (by simp[h'])) h2 (fun x hx=>hlt x (by simp[hx])) (fun x hx=>hsp x (by simp[hx])),rfl⟩;exact Trod_stays hl (ht t sm).1 (ht t sm).2 h1 (fun x hx=>hk.sameAt (hlt x (by simp[hx]))) fun x hx=>hsp x (by simp[hx])
section
variable{P:Program}{n:Nat}{t:TypeId}{xs:List D}
end
end Go.Vx
namespace Go.Vx
theorem uK{w:Nat}(x:BitVec w)(n:Nat):(x.toNat:Int)/2^n=((x>>>n).toNat:Int):=by rw[BitVec.toNat_ushiftRight,Nat.shiftRight_eq_div_pow,Int.natCast_ediv];simp
end Go.Vx
namespace Go.Vx
open Go.ChangeShapes Go.WideShapes Go.ChangeAt Go.RowKit Go.WideElems Go.Deep
def Py(P:Program):Nat->TypeId->List D->Prop
 |0,_,_=>False
 |n+1,t,xs=>match P.underlying t with
  |some .bool=>∃b,xs=[.bool b]
  |some (.int k)=>∃i,xs=[.int k i]/\(Lit.int k i).wf=true
  |some .string=>∃s,xs=[.str s]/\s.length<=maxLen
  |some (.slice e)=>∃es,xs=[.sl (P.cellsOf e) es]/\es.length<=maxLen/\∀x∈es,x.length=P.cellsOf e/\Py P n e x
  |some (.struct fs)=>∃yss:List (List D),yss.length=fs.size/\(∀(i:Nat) (f:Field) (ys:List D),fs[i]? =some f->yss[i]? =some ys->ys.length=P.cellsOf f.type/\Py P n f.type ys)/\xs=yss.flatten
  |some (.array k e)=>xs.length=k/\∀x∈xs,Py P n e [x]
  |_=>False
def IP(P:Program)(S:List TypeId):Bool:=S.all fun t=>match P.underlying t with
 |some .bool=>true
 |some (.int _)=>true
 |some .string=>true
 |some (.slice e)=>S.contains e&&decide (0<P.cellsOf e)
 |some (.struct fs)=>kF P (P.cellsOf t) 0 fs.toList&&fs.toList.all fun f=>S.contains f.type
 |some (.array k e)=>S.contains e&&(P.cellsOf e==1&&P.cellsOf t==k)
 |_=>false
def LA(P:Program):List TypeId->List (List D)->Prop
 |[],[]=>True
 |t::ts,xs::xss=>(∃n,Py P n t xs)/\LA P ts xss
 |_,_=>False
def argVE(P:Program)(t:TypeId)(xs:List D):V:=match P.underlying t with
 |some (.struct _)=>.agg (xs.map .d)
 |some (.array _ _)=>.agg (xs.map .d)
 |_=>match xs with
  |[x]=>.d x
  |_=>.any
def argVsE(P:Program):List TypeId->List (List D)->List V
 |t::ts,xs::xss=>argVE P t xs::argVsE P ts xss
 |_,_=>[]
theorem sU{P:Program}{w:World}{r:Reach}{base:Nat}{t:TypeId}{v:Value}{S:List TypeId}(hS:IP P S=true)(hp:t∈S)(hs:∀fs,P.underlying t≠some (.struct fs))(ha:∀k e,P.underlying t≠some (.array k e))(h:Value.okWide P w r base t v):v.cells.toList=[v]:=by
 have hp:=aG.1 hS t hp;split at hp
 ·rename_i ht;obtain⟨b,rfl⟩:=okWide_bool ht h;rfl
 ·rename_i k ht;obtain⟨b,rfl⟩:=okWide_int ht h;rfl
 ·rename_i ht;obtain⟨b,rfl⟩:=okWide_string ht h;rfl
 ·rename_i e ht;obtain⟨a,b,c,rfl⟩:=okWide_slice ht h;rfl
 ·rename_i fs ht;exact absurd ht (hs fs)
 ·rename_i k e ht;exact absurd ht (ha k e)
 ·cases hp
section
variable{P:Program}{n:Nat}{t:TypeId}{xs:List D}
end
end Go.Vx
namespace Go.Vx
def Ju:=PLift.up (ai @List.length_map.{0,0} (ai @Int.cast_ofNat_Int (ai @Int.natCast_zero (ai @Int.toNat_natCast (ai @bw.ev.eq_1 (ai @bw.ev.eq_2 (ai @tS.eq_1 (ai @tS.eq_2 (ai @xj.eq_1 (ai @xj.eq_2 (ai @xj.eq_3 (ai @Cm.eq_1 (ai @Cm.eq_2 (ai @FA.eq_1 (ai @FA.eq_2 (ai @mK.eq_1 (ai @mK.eq_2 (ai @mK.eq_3 (ai @mK.eq_4 (ai @wU.eq_1 (ai @wU.eq_2 (ai @wU.eq_3 (ai @wU.eq_4 (ai @wU.eq_5 (ai @Kq.eq_1 (ai @Kq.eq_2 (ai @wg.eq_1 (ai @wg.eq_2 (ai @xv.eq_1 (@xv.eq_2))))))))))))))))))))))))))))))
theorem Q1:type_of%Ju.down:=Ju.down
def I8:=PLift.up (ai @nO.eq_1 (ai @nO.eq_2 (ai @nO.eq_3 (ai @nO.eq_4 (ai @kN.eq_1 (ai @kN.eq_2 (ai @kN.eq_3 (ai @kN.eq_4 (ai @jg.eq_1 (ai @jg.eq_2 (ai @jg.eq_3 (ai @jg.eq_4 (ai @DH.eq_1 (ai @DH.eq_2 (ai @J4.eq_1 (ai @Oe.eq_1 (ai @JQ.eq_1 (ai @OQ.eq_1 (ai @mf.eq_1 (ai @mf.eq_2 (ai @ym.eq_1 (ai @Kl.eq_1 (ai @wP.eq_1 (ai @wP.eq_2 (ai @LK.eq_1 (ai @LH.eq_1 (ai @Ow.eq_1 (ai @Kf.eq_1 (ai @gX.eq_1 (@gX.eq_2))))))))))))))))))))))))))))))
theorem Ri:type_of%I8.down:=I8.down
def JC:=PLift.up (ai @gX.eq_3 (ai @mj.eq_1 (ai @mj.eq_2 (ai @mj.eq_3 (ai @mj.eq_4 (ai @zG.eq_1 (ai @Ea.eq_1 (ai @Ea.eq_2 (ai @qY.eq_1 (ai @qY.eq_2 (ai @Qv.eq_1 (ai @QF.eq_1 (ai @QD.eq_1 (ai @tg.eq_1 (ai @tg.eq_2 (ai @xV.eq_1 (ai @vm.eq_1 (ai @sliceB.eq_1 (ai @sliceB.eq_2 (ai @sliceB.eq_3 (ai @sliceB.eq_4 (ai @sliceB.eq_5 (ai @bI.eq_1 (ai @bI.eq_2 (ai @bI.eq_3 (ai @GU.eq_1 (ai @GU.eq_2 (ai @GU.eq_3 (ai @GU.eq_4 (@xM.eq_1))))))))))))))))))))))))))))))
theorem QQ:type_of%JC.down:=JC.down
def Jr:=PLift.up (ai @xM.eq_2 (ai @xM.eq_3 (ai @Dp.eq_1 (ai @Dp.eq_2 (ai @Dp.eq_3 (ai @OT.eq_1 (ai @nE.eq_1 (ai @nE.eq_2 (ai @nE.eq_3 (ai @nE.eq_4 (ai @nE.eq_5 (ai @Bd.eq_1 (ai @Bd.eq_2 (ai @Bd.eq_3 (ai @QE.eq_1 (ai @xI.eq_1 (ai @xI.eq_2 (ai @Hk.eq_1 (ai @Hk.eq_2 (ai @yh.eq_1 (ai @yh.eq_2 (ai @yh.eq_3 (ai @yh.eq_4 (ai @yh.eq_5 (ai @CA.eq_1 (ai @iY.eq_1 (ai @iY.eq_2 (ai @iY.eq_3 (ai @iY.eq_4 (@iY.eq_5))))))))))))))))))))))))))))))
theorem Re:type_of%Jr.down:=Jr.down
def Js:=PLift.up (ai @yL.eq_1 (ai @yL.eq_2 (ai @yL.eq_3 (ai @MB.eq_1 (ai @BR.eq_1 (ai @BR.eq_2 (ai @BR.eq_3 (ai @Mh.eq_1 (ai @Fc.eq_1 (ai @Fc.eq_2 (ai @Ln.eq_1 (ai @v9.eq_1 (ai @v9.eq_2 (ai @HH.eq_1 (ai @HH.eq_2 (ai @Be.eq_1 (ai @Be.eq_2 (ai @Iw.eq_1 (ai @Iw.eq_2 (ai @yG.eq_1 (ai @yG.eq_2 (ai @HQ.eq_1 (ai @HQ.eq_2 (ai @IK.eq_1 (ai @IK.eq_2 (ai @BN.eq_1 (ai @BN.eq_2 (ai @KG.eq_1 (ai @KG.eq_2 (@fy.eq_1))))))))))))))))))))))))))))))
theorem Q7:type_of%Js.down:=Js.down
def IT:=PLift.up (ai @fy.eq_2 (ai @fy.eq_3 (ai @fy.eq_4 (ai @Pe.eq_1 (ai @Pe.eq_2 (ai @Nk.eq_1 (ai @Nk.eq_2 (ai @pt.eq_1 (ai @pt.eq_2 (ai @pt.eq_3 (ai @HC.eq_1 (ai @kZ.eq_1 (ai @kZ.eq_2 (ai @kZ.eq_3 (ai @kZ.eq_4 (ai @fM.eq_1 (ai @fM.eq_2 (ai @V.d.injEq (ai @D.int.injEq (ai @D.bool.injEq (ai @D.str.injEq (ai @cC.eq_1 (ai @List.foldl.eq_1.{0,0} (ai @List.foldl.eq_2.{0,0} (ai @pX.eq_1 (ai @pX.eq_2 (ai @pX.eq_3 (ai @pX.eq_4 (ai @pX.eq_5 (@rowAt.eq_1))))))))))))))))))))))))))))))
theorem Q9:type_of%IT.down:=IT.down
def Jz:=PLift.up (ai @rowAt.eq_2 (ai @rowAt.eq_3 (ai @fh.eq_1 (ai @fh.eq_2 (ai @fh.eq_3 (ai @fh.eq_4 (ai @mo.eq_1 (ai @rR.eq_1 (ai @rR.eq_2 (ai @List.replicate.eq_1.{0} (ai @List.replicate.eq_2.{0} (ai @List.length.eq_1.{0} (ai @List.length.eq_2.{0} (ai @List.length_append.{0} (ai @List.cons_append.{0} (ai @List.nil_append.{0} (ai @List.append_nil.{0} (ai @List.map.eq_1.{0,0} (ai @List.map.eq_2.{0,0} (ai @List.all.eq_1.{0} (ai @List.all.eq_2.{0} (ai @List.take.eq_1.{0} (ai @List.take.eq_2.{0} (ai @List.take.eq_3.{0} (ai @List.drop.eq_1.{0} (ai @List.drop.eq_2.{0} (ai @List.drop.eq_3.{0} (ai @List.set.eq_1.{0} (ai @List.set.eq_2.{0} (@List.set.eq_3.{0}))))))))))))))))))))))))))))))
theorem QX:type_of%Jz.down:=Jz.down
def I7:=PLift.up (ai @Option.map_some.{0,0} (ai @Option.map_none.{0,0} (ai @ne_eq.{1} (ai @not_false_eq_true (ai @not_true_eq_false (ai @bne_self_eq_false.{0} (ai @beq_self_eq_true.{0} (ai @Bool.not_true (ai @Bool.not_false (ai @decide_true (ai @decide_false (ai @Bool.and_true (ai @Bool.true_and (ai @eq_self.{1} (ai @true_and (ai @and_true (ai @forall_const.{1} (ai @false_implies (ai @true_implies (ai @Nat.zero_add (ai @Nat.add_zero (ai @Nat.zero_mul (ai @Nat.le_refl (@Nat.lt_irrefl))))))))))))))))))))))))
theorem Rf:type_of%I7.down:=I7.down
def O6:=PLift.up (ai Q1 (ai Ri (ai QQ (ai Re (ai Q7 (ai Q9 (ai QX (Rf))))))))
theorem vz:type_of%O6.down:=O6.down
abbrev B:=List UInt8
theorem dt{p:Prop}[Decidable p](h:p):decide p=true:=decide_eq_true h
theorem df{p:Prop}[Decidable p](h:¬p):decide p=false:=decide_eq_false h
theorem hm:(maxLen:Int)<=9223372036854775807:=by decide
theorem bh{α:Type}{l:List α}{i:Nat}(h:i<l.length):∃x,l[i]? =some x:=⟨_,ae h⟩
theorem bg{α β:Type}{l:List α}{f:α->β}{i:Nat}{x:α}{g:β->Prop}(h:l[i]? =some x)(hk:g (f x)):gX (l.map f) (i:Int).toNat g:=fg.2 ⟨f x,by simp[h],hk⟩
theorem sd{α β:Type}{l:List α}{f:α->β}{i:Nat}{x:α}{g:β->Prop}(h:l[i]? =some x)(hk:g (f x)):gX (l.map f) i g:=fg.2 ⟨f x,by simp[h],hk⟩
theorem bt{α:Type}{l:List α}{i:Nat}{x:α}(h:l[i]? =some x):l.drop i=x::l.drop (i+1):=by obtain⟨h1,h2⟩:=ad.1 h;rw[List.drop_eq_getElem_cons h1,h2]
theorem b4{α:Type}{l:List α}{i:Nat}(h:l.length<=i):l.drop i=[]:=aR h
theorem oJ{α:Type}{l:List α}{i:Nat}{x:α}(h:l[i]? =some x):l.take (i+1)=l.take i++[x]:=by obtain⟨h1,h2⟩:=ad.1 h;rw[List.take_succ_eq_append_getElem h1,h2]
theorem Dm{α:Type}{l:List α}{i:Nat}(h:l.length<=i):l.take i=l:=al h
theorem mb{m:Nat}{rows:Rows}{fr:List V}(h:fr.all (hB m)=true):Kb m rows fr fr:=by
 induction fr with
 |nil=>trivial
 |cons x l ih=>simp only[List.all_cons,av]at h;exact⟨.same _ h.1,ih h.2⟩
def iD(x:Int):List D:=[.int .i64 x]
def sD(s:B):List D:=[.str s]
theorem Rc{l:List B}:∀e∈l.map sD,e.length=1:=fun e he=>by obtain⟨t,_,rfl⟩:=aw.1 he;rfl
theorem Ge{l:List Int}:∀e∈l.map iD,e.length=1:=fun e he=>by obtain⟨t,_,rfl⟩:=aw.1 he;rfl
theorem mO{m:Nat}{rows:Rows}{fr:List V}{i:Nat}{v v':V}(h1:fr[i]? =some v)(h2:ed (mF m rows) v v')(h3:(fr.eraseIdx i).all (hB m)=true):Kb m rows fr (fr.set i v'):=by
 induction fr generalizing i with
 |nil=>simp at h1
 |cons x l ih=>
  cases i with
  |zero=>simp at h1;subst h1;exact⟨.snap _ _ h2,mb (by simpa using h3)⟩
  |succ i=>simp only[List.eraseIdx_cons_succ,List.all_cons,av]at h3;exact⟨.same _ h3.1,ih (by simpa using h1) h3.2⟩
theorem yj{rows:Rows}{h:Nat}{cs:List D}{sz:Nat}(hrow:rows[h]? =some (.live sz [cs.map .d]))(hl:cs.length<=sz):ed rows (.aY sz h 1 0 0) (.d (.ptr cs)):=.aY sz h 1 0 0 _ _ cs hrow rfl rfl om fun j v y h1 h2=>by
  rw[Nat.zero_add,ar,h2]at h1;injection h1 with h1;subst h1
  exact .d _
theorem b8{α:Type}{l:List α}{i:Nat}{x:α}{g:α->Prop}(h:l[i]? =some x)(hk:g x):gX l i g:=fg.2 ⟨x,h,hk⟩
end Go.Vx
namespace Go.Vx
open Go.ChangeShapes Go.WideShapes Go.ChangeAt Go.RowKit Go.WideElems Go.Deep
theorem DS{a:Addr}(h:a.spot=none)(i:Nat):a.add i=⟨a.block,a.off+i,none⟩:=by
 unfold Addr.add;split
 ·rename_i h;subst h;cases a;simp_all
 ·rfl
end Go.Vx
