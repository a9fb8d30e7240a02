/- Proved: rules of a compiled form of the code, sound for the model. Conditions: none but those that each lemma states. -/
import Derived.Test.YtmhkppbollghoaaGreatDoorXj
import Derived.SizedLaws
import Derived.OpenShut
import Derived.Recover
set_option linter.unusedSectionVars false
set_option linter.unusedSimpArgs false
set_option linter.unusedVariables false
namespace Go.Vx
open Go.ChangeShapes Go.WideShapes Go.ChangeAt Go.RowKit Go.WideElems Go.Deep
def TyR(P:Program):Nat->TypeId->List D->Prop
 |0,_,_=>False
 |n+1,t,xs=>match P.underlying t with
  |some .bool=>∃b,xs=[.bool b]
  |some (.int k)=>∃i,xs=[.int k i]/\(Lit.int k i).wf=true
  |some .string=>∃s,xs=[.str s]/\s.length<=reachBytes
  |some (.slice e)=>∃es,xs=[.sl (P.cellsOf e) es]/\es.length*P.bytesOf e<=reachBytes/\∀x∈es,x.length=P.cellsOf e/\TyR P n e x
  |some (.struct fs)=>∃yss:List (List D),yss.length=fs.size/\(∀(i:Nat) (f:Field) (ys:List D),fs[i]? =some f->yss[i]? =some ys->ys.length=P.cellsOf f.type/\TyR P n f.type ys)/\xs=yss.flatten
  |some (.array k e)=>xs.length=k/\∀x∈xs,TyR P n e [x]
  |_=>False
theorem sK{P:Program}{w:World}{n:Nat}{cs:List Value}:∀(fs:List Field) (o:Nat),kF P cs.length o fs=true->o<=cs.length->(∀f∈fs,∃ys,ys.length=P.cellsOf f.type/\TyR P n f.type ys/\Cells w ((cs.drop f.offset).take (P.cellsOf f.type)) ys)->∃yss:List (List D),yss.length=fs.length/\(∀(i:Nat) (f:Field) (ys:List D),fs[i]? =some f->yss[i]? =some ys->ys.length=P.cellsOf f.type/\TyR P n f.type ys)/\Cells w (cs.drop o) yss.flatten:=by
 intro fs;induction fs with
 |nil=>intro o hc ho _;simp[kF]at hc;exact⟨[],rfl,sm,by simp[hc,Cells]⟩
 |cons f fs ih=>
  intro o hc ho hf;simp only[kF,av,beq_iff_eq]at hc;obtain⟨ho',hc⟩:=hc;obtain⟨ys,hl,hy,ma⟩:=hf f sm;have hle:o+P.cellsOf f.type<=cs.length:=by have:=ma.1;simp[hl,ho']at this;omega
  obtain⟨yss,h1,h2,h3⟩:=ih (o+P.cellsOf f.type) hc hle fun g hg=>hf g (by simp[hg]);refine⟨ys::yss,by simp[h1],fun i g zs hg hz=>?_,?_⟩
  ·cases i with
   |zero=>simp at hg hz;subst hg hz;exact⟨hl,hy⟩
   |succ i=>exact h2 i g zs (by simpa using hg) (by simpa using hz)
  ·have e:cs.drop o=(cs.drop o).take (P.cellsOf f.type)++cs.drop (o+P.cellsOf f.type):=by rw[<-List.drop_drop,List.take_append_drop]
   rw[e,List.flatten_cons];rw[ho']at ma;exact tV ma h3
theorem jd{H:Type}{P:Program}{e:TypeId}:∀{l:List (DataW H)} {d:DataW H},d∈l->∀n∈d.weights P e,n∈DataW.weightsAll P e l
 |d0::l,d,hd,n,hn=>by
  simp only[DataW.weightsAll,aU];rcases aP.1 hd with rfl|hd
  ·exact Or.inl hn
  ·exact Or.inr (jd hd n hn)
theorem xz{H:Type}{enc:TypeId×Value->H}{P:Program}{w:World}{spare:Nat->Bool}{held:Bool}{S:List TypeId}(hS:IP P S=true):∀(n:Nat) {t:TypeId} {cs:List Value} {fuel:Nat} {x:DataW H×List MemPlace},t∈S->SizeOf.sizeOf x.1<n->(∀m∈DataW.weights P t x.1,m<=reachBytes)->DataW.trod enc P w 0 spare held fuel t cs=some x->∃xs,TyR P n t xs/\Cells w cs xs:=by
 intro n;induction n with
 |zero=>intro t cs fuel x _ hz;omega
 |succ n ih=>
  intro t cs fuel x htS hz hb h;have hp:=aG.1 hS t htS;split at hp
  ·rename_i ht;simp only[TyR,ht];obtain⟨b,rfl,_⟩:=DataW.trod_bool ht h;exact⟨_,⟨b,rfl⟩,kV (.bool b)⟩
  ·rename_i k ht;simp only[TyR,ht];obtain⟨i,rfl,_,hw⟩:=DataW.trod_int ht h;exact⟨_,⟨i,rfl,hw⟩,kV (.int k i)⟩
  ·rename_i ht;simp only[TyR,ht];obtain⟨s,rfl,rfl,hw⟩:=DataW.trod_string ht h;refine⟨_,⟨s.data.toList,rfl,hb _ (by simp[DataW.weights])⟩,kV ?_⟩;have:=dV.str (I:=fun b=>b<w.heap.size) (w:=w) s.data.toList;simpa using this
  ·rename_i e ht;simp only[TyR,ht];simp only[av,aj,List.contains_iff_mem]at hp;rcases open_slice ht h with⟨rfl,_⟩|⟨a,len,cap,m,k,Dd,Pl,rfl,_,hl,hm,hmm,rfl,hx⟩
   ·exact⟨_,⟨[],rfl,sm,sm⟩,kV (.lT _)⟩
   ·have hle:len<=m:=by rw[hmm];split<;>omega
    obtain⟨E,hE⟩:=choose_lt (α:=List D) (n:=len) (p:=fun i xs=>TyR P n e xs/\∃cs',w.cells? 0 (a.add (i*P.cellsOf e)) (P.cellsOf e)=some cs'/\Cells w cs' xs) (fun i hi=>by obtain⟨cs',h1,h2⟩:=hx i om;obtain⟨xs,h3,h4⟩:=ih hp.1 (by have h5:SizeOf.sizeOf (Dd i)<SizeOf.sizeOf ((List.range len).map Dd):=List.sizeOf_lt_of_mem (aw.2 ⟨i,List.mem_range.2 hi,rfl⟩);simp at hz|-;omega) (fun w hw=>hb w (by simp only[DataW.weights,ht,aP,aU];exact .inr (.inl (jd (aw.2 ⟨i,List.mem_range.2 hi,rfl⟩) w hw)))) h2;exact⟨xs,h3,cs',h1,h4⟩);have hwt:=hb ((((List.range len).map Dd).length+((List.range (m-len)).map fun j=>Dd (len+j)).length)*P.bytesOf e) (by simp[DataW.weights,ht]);have hlen:∀i,i<len->(E i).length=P.cellsOf e:=fun i hi=>by obtain⟨_,cs',h1,h2⟩:=hE i hi;rw[h2.1,(World.cells?_some h1).2.1]
    refine⟨[.sl (P.cellsOf e) ((List.range len).map E)],⟨_,rfl,Nat.le_trans (Nat.mul_le_mul_right _ sm) hwt,?_⟩,kV ?_⟩
    ·intro x hx;obtain⟨i,hi,rfl⟩:=aw.1 hx;have hi':=List.mem_range.1 hi;exact⟨hlen i hi',(hE i hi').1⟩
    ·by_cases h0:len=0
     ·subst h0;exact .kK _ _ _
     ·obtain⟨_,cs0,h1,_⟩:=hE 0 om;obtain⟨_,hl0,hg0⟩:=World.cells?_some h1;have hg:=hg0 0 hp.2;obtain⟨v0,k7⟩:∃v,cs0[0]? =some v:=⟨cs0[0]'om,by simp[ae (show 0<cs0.length by omega)]⟩;rw[k7]at hg;simp[Addr.add]at hg;obtain⟨hb,hs⟩:=lu hg;have hadd':∀(b:Addr) (i:Nat),b.spot=none->b.add i=⟨b.block,b.off+i,none⟩:=fun b i hb=>by
       unfold Addr.add;split
       ·rename_i h;subst h;cases b;simp_all
       ·rfl
      have hadd:∀i:Nat,a.add i=⟨a.block,a.off+i,none⟩:=fun i=>hadd' a i hs;have ha:a=⟨a.block,a.off,none⟩:=by cases a;simp_all
      have ma:∀(i:Nat) (j:Nat) (v:D) (e':List D),((List.range len).map E)[i]? =some e'->e'[j]? =some v->∃u,w.cell? ⟨a.block,a.off+(i*P.cellsOf e+j),none⟩=some u/\dV (fun b=>b<w.heap.size) w u v:=by intro i j v e' he hj;simp only[ar,aa]at he;obtain⟨i',hi',rfl⟩:=he;obtain⟨hi'',rfl⟩:=ad.1 hi';simp at hi'' hj|-;obtain⟨_,cs',h1,h2⟩:=hE i hi'';obtain⟨_,hl',hg'⟩:=World.cells?_some h1;have hjl:=(ad.1 hj).1;rw[hlen i hi'']at hjl;have:=hg' j hjl;rw[hadd,hadd' _ _ rfl]at this;simp only at this;rw[show a.off+(i*P.cellsOf e+j)=a.off+i*P.cellsOf e+j by omega,this];have hu:cs'[j]? =some (cs'[j]'om):=ae om;exact⟨_,hu,h2.2 j _ _ hu hj⟩
      have key:=dV.sl (I:=fun b=>b<w.heap.size) (w:=w) (P.cellsOf e) ((List.range len).map E) a.block a.off cap (fun i j=>(w.cell? ⟨a.block,a.off+(i*P.cellsOf e+j),none⟩).getD .nilIface) (by simpa using hl) hb (fun x hx=>by obtain⟨i,hi,rfl⟩:=aw.1 hx;exact hlen i (List.mem_range.1 hi))
       (fun i e' j v he hj=>by obtain⟨u,hu,_⟩:=ma i j v e' he hj;simp[hu])
       (fun i e' j v he hj=>by obtain⟨u,hu,hr⟩:=ma i j v e' he hj;simpa[hu]using hr)
      rw[<-ha]at key;simpa using key
  ·rename_i fs ht;simp only[TyR,ht];simp only[av,aG]at hp;obtain⟨hct,hall⟩:=hp;obtain⟨xs,k,_,rfl,hl,hxl,hf⟩:=DataW.trod_struct ht h;rw[<-hl]at hct;obtain⟨yss,h1,h2,h3⟩:=sK (w:=w) (n:=n) fs.toList 0 hct om fun f hf'=>by
    obtain⟨i,hi,hif⟩:=List.getElem_of_mem hf';have hfs:fs[i]? =some f:=by simp at hi hif;rw[Array.getElem?_eq_getElem hi,hif]
    have:=hf i f hfs;have hx:xs[i]? =some (xs[i]'(by rw[hxl];simpa using hi)):=ae _;rw[hx]at this;obtain⟨ys,h3,h4⟩:=ih (List.contains_iff_mem.1 (hall f hf')) (by have h5:SizeOf.sizeOf (xs[i]'(by rw[hxl];simpa using hi)).1<SizeOf.sizeOf (xs.map (·.1)):=List.sizeOf_lt_of_mem (aw.2 ⟨_,List.getElem_mem _,rfl⟩);simp at hz|-;omega) (fun w hw=>hb w (by simp only[DataW.weights,ht];exact DataW.weights_mem_each (j:=i) (t:=f.type) (d:=(xs[i]'(by rw[hxl];simpa using hi)).1) (by simp[hfs]) (by rw[ar,hx];rfl) w hw)) this;refine⟨ys,?_,h3,h4⟩;rw[h4.1];have hcont:∀(fs:List Field) (o:Nat),kF P cs.length o fs=true->∀f∈fs,o<=f.offset/\f.offset+P.cellsOf f.type<=cs.length:=by
     intro fs;induction fs with
     |nil=>simp
     |cons g gs ihg=>
      intro o hc f hf;simp only[kF,av,beq_iff_eq]at hc;have hend:∀(fs:List Field) (o:Nat),kF P cs.length o fs=true->o<=cs.length:=by
       intro fs;induction fs with
       |nil=>intro o h;simp[kF]at h;omega
       |cons g gs ih=>intro o h;simp only[kF,av,beq_iff_eq]at h;have:=ih _ h.2;omega
      rcases aP.1 hf with rfl|hf
      ·have:=hend _ _ hc.2;omega
      ·have:=ihg _ hc.2 f hf;omega
    have:=hcont _ _ hct f hf';simp;omega
   refine⟨yss.flatten,⟨yss,by simpa using h1,fun i f ys hi=>h2 i f ys (by simpa using hi),rfl⟩,?_⟩;simpa using h3
  ·rename_i q e ht;simp only[TyR,ht];simp only[av,beq_iff_eq,List.contains_iff_mem]at hp;obtain⟨xs,k,_,rfl,hl,hxl,hf⟩:=DataW.trod_array ht h;rw[hp.2.2]at hl;obtain⟨E,hE⟩:=choose_lt (α:=D) (n:=q) (p:=fun i y=>TyR P n e [y]/\∃u,cs[i]? =some u/\dV (fun b=>b<w.heap.size) w u y) (fun i hi=>by
    have:=hf i hi;have hx:xs[i]? =some (xs[i]'om):=ae _;rw[hx,hp.2.1,Nat.mul_one]at this;obtain⟨ys,h3,h4⟩:=ih hp.1 (by have h5:SizeOf.sizeOf (xs[i]'om).1<SizeOf.sizeOf (xs.map (·.1)):=List.sizeOf_lt_of_mem (aw.2 ⟨_,List.getElem_mem _,rfl⟩);simp at hz|-;omega) (fun w hw=>hb w (by simp only[DataW.weights,ht];exact jd (aw.2 ⟨_,List.getElem_mem _,rfl⟩) w hw)) this;have hc:(cs.drop i).take 1=[cs[i]'om]:=by rw[List.drop_eq_getElem_cons om];rfl
    rw[hc]at h4;have hl1:=h4.1
    match ys,hl1 with
    |[y],_=>exact⟨y,h3,_,ae om,h4.2 0 _ _ rfl rfl⟩)
   refine⟨(List.range q).map E,⟨sm,fun x hx=>?_⟩,by simp[hl],fun j u y hu hy=>?_⟩
   ·obtain⟨i,hi,rfl⟩:=aw.1 hx;exact(hE i (List.mem_range.1 hi)).1
   ·simp only[ar,aa]at hy;obtain⟨i',hi',rfl⟩:=hy;obtain⟨hi'',rfl⟩:=ad.1 hi';simp at hi''|-;obtain⟨_,u',h1,h2⟩:=hE j hi'';rw[h1]at hu;injection hu with hu;subst hu
    exact h2
  ·cases hp
def TyAllR(P:Program):List TypeId->List (List D)->Prop
 |[],[]=>True
 |t::ts,xs::xss=>(∃n,TyR P n t xs)/\TyAllR P ts xss
 |_,_=>False
theorem tyAllR_cons{P:Program}{t:TypeId}{ts:List TypeId}{xss:List (List D)}(h:TyAllR P (t::ts) xss):∃x r n,xss=x::r/\TyR P n t x/\TyAllR P ts r:=by
 cases xss with
 |nil=>exact h.elim
 |cons x r=>obtain⟨⟨n,h1⟩,h2⟩:=h;exact⟨x,r,n,rfl,h1,h2⟩
theorem tyAllR_nil{P:Program}{xss:List (List D)}(h:TyAllR P [] xss):xss=[]:=by
 cases xss with
 |nil=>rfl
 |cons x r=>exact h.elim
theorem Bm{H:Type}{enc:TypeId×Value->H}{P:Program}{W:World}{r:Reach}{base:Nat}{S:List TypeId}(hS:IP P S=true):∀{ts:List TypeId} {vs:List Value} {ds:List (DataW H)} {ps:List MemPlace},DataW.TrodAll enc P W 0 (fun _=>true) true ts vs ds ps->(∀(j:Nat) t v,ts[j]? =some t->vs[j]? =some v->Value.okWide P W r base t v)->(∀t∈ts,t∈S)->(∀m∈DataW.weightsEach P ts ds,m<=reachBytes)->∃xss,TyAllR P ts xss/\dX (bare (fun b=>b<W.heap.size) W) vs (argVsE P ts xss):=by
 intro ts;induction ts with
 |nil=>intro vs ds ps h _ _ _;obtain⟨rfl,rfl,rfl⟩:=trodAll_nil h;exact⟨[],trivial,El⟩
 |cons t ts ih=>
  intro vs ds ps h hv ht hb
  match vs,ds,h with
  |v::vs,d::ds,⟨p,q,⟨fuel,h1⟩,h2,he⟩=>
   obtain⟨xss,h3,h4⟩:=ih h2 (fun j t v h5 h6=>hv (j+1) t v (by simpa using h5) (by simpa using h6)) (fun t' h'=>ht t' (by simp[h'])) (fun m hm=>hb m (by simp only[DataW.weightsEach,aU];exact .inr hm));have hpl:=ht t sm;obtain⟨xs,hx,ma⟩:=xz hS (SizeOf.sizeOf d+1) hpl (Nat.lt_succ_self _) (fun m hm=>hb m (by simp only[DataW.weightsEach,aU];exact .inl hm)) h1;refine⟨xs::xss,⟨⟨_,hx⟩,h3⟩,BM ?_ h4⟩;have hok:=hv 0 t v rfl rfl;have hrep:∀(j:Nat) (y:V) (x:Value),(xs.map V.d)[j]? =some y->v.cells[j]? =some x->b7 (bare (fun b=>b<W.heap.size) W) x y:=fun j y x hy hx'=>by simp only[ar]at hy;obtain⟨y0,hy0,rfl⟩:=aa.1 hy;exact .d _ _ (ma.2 j x y0 (by simpa using hx') hy0)
   unfold argVE;split
   ·rename_i fs hfs;simp only[Value.okWide,hfs]at hok;obtain⟨cs,rfl,_,_⟩:=hok;refine .agg cs _ (by simpa[Value.cells]using ma.1.symm) hrep
   ·rename_i k e hfs;simp only[Value.okWide,hfs]at hok;obtain⟨cs,rfl,_,_⟩:=hok;refine .agg cs _ (by simpa[Value.cells]using ma.1.symm) hrep
   ·rename_i hns hna;have hc:=sU hS hpl (fun fs=>hns fs) (fun k e=>hna k e) hok;rw[hc]at ma;split
    ·exact .d _ _ (ma.2 0 v _ rfl rfl)
    ·exact .any _
theorem law_callsR{H:Type}{enc:TypeId×Value->H}{P:Program}{W:World}{r:Reach}{base:Nat}{S:List TypeId}{f:FuncId}{ts:List TypeId}{args:Array Value}{ds:List (DataW H)}{ps:List MemPlace}(hg:GW (fun b=>b<W.heap.size) W)(hS:IP P S=true) (hk:∀xss,TyAllR P ts xss->CallP P f (argVsE P ts xss) (.d (.bool true))) (hp:∀t∈ts,t∈S) (hA:DataW.TrodAll enc P W 0 (fun _=>true) true ts args.toList ds ps) (hv:∀(j:Nat) t v,ts[j]? =some t->args.toList[j]? =some v->Value.okWide P W r base t v) (hsz:(DataW.weightsEach P ts ds).all (· <=reachBytes)=true):Calls P f args W fun e w'=>e=.returned (.bool true)/\Kept W w':=by obtain⟨xss,h1,h2⟩:=Bm hS hA hv hp (fun m hm=>by simpa using aG.1 hsz m hm);exact Fm (hk xss h1) hg (fun _ h=>h) h2
section
variable{P:Program}{n:Nat}{t:TypeId}{xs:List D}
theorem tr_bool(ht:P.underlying t=some .bool)(h:TyR P n t xs):∃b,xs=[.bool b]:=by cases n with|zero=>exact h.elim|succ n=>simpa[TyR,ht]using h
theorem tr_int{k:IntKind}(ht:P.underlying t=some (.int k))(h:TyR P n t xs):∃i,xs=[.int k i]/\(Lit.int k i).wf=true:=by cases n with|zero=>exact h.elim|succ n=>simpa[TyR,ht]using h
theorem DA(ht:P.underlying t=some .string)(h:TyR P n t xs):∃s,xs=[.str s]/\s.length<=reachBytes:=by cases n with|zero=>exact h.elim|succ n=>simpa[TyR,ht]using h
theorem sC{α:Type}{e:TypeId}{f:α->List D}{ok:α->Prop}(ht:P.underlying t=some (.slice e))(he:∀n ys,TyR P n e ys->∃a,ys=f a/\ok a)(h:TyR P n t xs):∃l:List α,xs=[.sl (P.cellsOf e) (l.map f)]/\l.length*P.bytesOf e<=reachBytes/\∀a∈l,ok a:=by
 cases n with
 |zero=>exact h.elim
 |succ n=>
  simp only[TyR,ht]at h;obtain⟨es,rfl,hl,hes⟩:=h;have:∀es:List (List D),(∀x∈es,TyR P n e x)->∃l:List α,es=l.map f/\∀a∈l,ok a:=by
   intro es;induction es with
   |nil=>intro _;exact⟨[],rfl,sm⟩
   |cons x es ih=>
    intro h;obtain⟨a,rfl,ha⟩:=he n x (h x sm);obtain⟨l,rfl,hl⟩:=ih (fun y hy=>h y (by simp[hy]));refine⟨a::l,rfl,fun b hb=>?_⟩;rcases aP.1 hb with rfl|hb
    ·exact ha
    ·exact hl b hb
  obtain⟨l,rfl,hl'⟩:=this es (fun x hx=>(hes x hx).2);exact⟨l,rfl,by simpa using hl,hl'⟩
theorem pA{fs:Array Field}(ht:P.underlying t=some (.struct fs))(h:TyR P n t xs):∃(m:Nat) (yss:List (List D)),yss.length=fs.size/\(∀(i:Nat) (f:Field) (ys:List D),fs[i]? =some f->yss[i]? =some ys->ys.length=P.cellsOf f.type/\TyR P m f.type ys)/\xs=yss.flatten:=by
 cases n with
 |zero=>exact h.elim
 |succ n=>simp only[TyR,ht]at h;exact⟨n,h⟩
theorem yk{f0 f1:Field}(ht:P.underlying t=some (.struct #[f0,f1]))(h:TyR P n t xs):∃m a b,xs=a++b/\TyR P m f0.type a/\TyR P m f1.type b:=by
 obtain⟨m,yss,h1,h2,rfl⟩:=pA ht h
 match yss,h1 with
 |[a,b],_=>exact⟨m,a,b,sm,(h2 0 f0 a rfl rfl).2,(h2 1 f1 b rfl rfl).2⟩
theorem sg{f0 f1 f2 f3:Field}(ht:P.underlying t=some (.struct #[f0,f1,f2,f3]))(h:TyR P n t xs):∃m a b c d,xs=a++b++c++d/\TyR P m f0.type a/\TyR P m f1.type b/\TyR P m f2.type c/\TyR P m f3.type d:=by
 obtain⟨m,yss,h1,h2,rfl⟩:=pA ht h
 match yss,h1 with
 |[a,b,c,d],_=>exact⟨m,a,b,c,d,sm,(h2 0 f0 a rfl rfl).2,(h2 1 f1 b rfl rfl).2,(h2 2 f2 c rfl rfl).2,(h2 3 f3 d rfl rfl).2⟩
end
end Go.Vx
namespace Go.Vx
section
variable[bf]{P:Program}
end
theorem jC{l:Rows}{h g:Nat}{r:bd}(hl:h<l.length):(l.set h r)[g]? =if g=h then some r else l[g]? :=by
 rw[List.getElem?_set];by_cases hg:h=g
 ·subst hg;simp[hl]
 ·simp[hg,Ne.symm hg]
def NP(_:Cx)(e:List V):Prop:=∀v∈e,fh v=true
theorem wE{c:Cx}(ok:Ok c){h sz:Nat}{es es':List (List V)}(hr:c.rows[h]? =some (.live sz es))(hl:es.length=es'.length) (hc:∀(i:Nat) (e e':List V),es[i]? =some e->es'[i]? =some e'->e.length=e'.length/\∀(j:Nat) (v v':V),e[j]? =some v->e'[j]? =some v'->fh v'=true/\∀x,b7 c x v->b7 c x v'):Ok ⟨c.ρ,c.I,c.rows.set h (.live sz es'),c.w⟩/\Ext c ⟨c.ρ,c.I,c.rows.set h (.live sz es'),c.w⟩:=by
 have hlt:h<c.rows.length:=(ad.1 hr).1;have hx:Ext c ⟨c.ρ,c.I,c.rows.set h (.live sz es'),c.w⟩:=by
  refine⟨rfl,rfl,rfl,aq _,fun _ _ _=>rfl,fun _ h=>h,fun _ h=>.inl h,fun _ _ h=>.inl h,fun g=>?_⟩;by_cases hg:g=h
  ·subst hg;unfold bK;rw[hr];refine .inr ⟨es',by simp only;rw[jC hlt,if_pos rfl],.inr ⟨hl,rfl,fun b arr ty fz _ hb=>⟨arr,fz,hb,rfl⟩⟩⟩
  ·exact bK.of_eq (by simp only;rw[jC hlt,if_neg hg]) rfl (fun _ _=>rfl)
 refine⟨⟨ok.inj,fun g b hb=>?_,fun g b sz1 es1 hb hr1=>?_,fun g sz1 es1 hn hr1=>?_,ok.jP,.step ok hx fun g o hr1=>?_⟩,hx⟩
 ·obtain⟨h1,h2,r,h3,h4⟩:=ok.own g b hb;by_cases hg:g=h
  ·subst hg;exact⟨h1,h2,.live sz es',by simp only;rw[jC hlt,if_pos rfl],trivial⟩
  ·exact⟨h1,h2,r,by simp only;rw[jC hlt,if_neg hg];exact h3,h4⟩
 ·simp only at hr1;rw[jC hlt]at hr1;by_cases hg:g=h
  ·subst hg;rw[if_pos rfl]at hr1;injection hr1 with hr1;injection hr1 with e1 e2;subst e1 e2
   obtain⟨arr,ty,fz,h1,h2,h3,h4,h5⟩:=ok.cont g b sz es hb hr;refine⟨arr,ty,fz,h1,h2,fun e' he'=>?_,by rw[<-hl];exact h4,fun i e' j v' h6 h7=>?_⟩
   ·obtain⟨i,hi⟩:=List.getElem?_of_mem he';have hil:i<es.length:=by rw[hl];exact(ad.1 hi).1
    obtain⟨k1,k2⟩:=hc i _ e' (ae hil) hi;have:=h3 _ (List.getElem_mem hil);refine⟨by rw[<-k1];exact this.1,fun v' hv'=>?_⟩;obtain⟨j,hj⟩:=List.getElem?_of_mem hv';have hjl:j<(es[i]'hil).length:=by rw[k1];exact(ad.1 hj).1
    exact(k2 j _ v' (ae hjl) hj).1
   ·have hil:i<es.length:=by rw[hl];exact(ad.1 h6).1
    obtain⟨k1,k2⟩:=hc i _ e' (ae hil) h6;have hjl:j<(es[i]'hil).length:=by rw[k1];exact(ad.1 h7).1
    obtain⟨x,hx1,hx2⟩:=h5 i _ j _ (ae hil) (ae hjl);exact⟨x,hx1,((k2 j _ v' (ae hjl) h7).2 x hx2).mono hx ok⟩
  ·rw[if_neg hg]at hr1;obtain⟨arr,ty,fz,h1,h2,h3⟩:=ok.cont g b sz1 es1 hb hr1;exact⟨arr,ty,fz,h1,h2,h3.mono hx ok⟩
 ·simp only at hr1 hn;rw[jC hlt]at hr1;by_cases hg:g=h
  ·subst hg;rw[if_pos rfl]at hr1;injection hr1 with hr1;injection hr1 with e1 e2;subst e1 e2
   have:=ok.je g sz es hn hr;subst this;exact aQ hl.symm
  ·rw[if_neg hg]at hr1;exact ok.je g sz1 es1 hn hr1
 ·simp only at hr1;rw[jC hlt]at hr1;by_cases hg:g=h
  ·rw[if_pos hg]at hr1;simp at hr1
  ·rw[if_neg hg]at hr1;exact⟨hr1,rfl,fun _ _=>rfl⟩
theorem yK{b0:Nat}{fr:List V}{rows:Rows}(h sz:Nat)(hr:rows[h]? =some (.live 1 [[.d .bm]])):fb b0 ⟨fr,rows⟩ ⟨fr,rows.set h (.live 1 [[.cl sz rows.length 0 0 0]])++[.live sz []]⟩:=by
 rintro c0 a w-hs;have hlt:h<rows.length:=(ad.1 hr).1;obtain⟨ρ,I,ok,hx,hd,hl,hf⟩:=hs.grow 1;have hu:(rows++List.replicate 1 bd.un)[rows.length]? =some .un:=by simp
 have hv2:=qy ok rows.length sz hu;have hset:(rows++List.replicate 1 bd.un).set rows.length (.live sz [])=rows++[.live sz []]:=by simp
 simp only[St.grow]at hv2;rw[hset]at hv2;obtain⟨ok2,hx2⟩:=hv2;have hρ:ρ rows.length=none:=ok.mi (by simp[St.grow]);have hr2:(rows++[bd.live sz []])[h]? =some (.live 1 [[.d .bm]]):=by rw[aH hlt];exact hr
 obtain⟨ok3,hx3⟩:=wE ok2 (h:=h) (es':=[[.cl sz rows.length 0 0 0]]) hr2 rfl (fun i e e' h1 h2=>by
  cases i with
  |succ i=>simp at h1
  |zero=>
   simp at h1 h2;subst h1 h2;refine⟨rfl,fun j v v' h3 h4=>?_⟩;cases j with
   |succ j=>simp at h3
   |zero=>
    simp at h3 h4;subst h3 h4;refine⟨rfl,fun x hxr=>?_⟩;cases hxr with|d _ _ hxr=>
    cases hxr;exact .c8 sz rows.length sm hρ)
 have e:(rows++[bd.live sz []]).set h (.live 1 [[.cl sz rows.length 0 0 0]])=rows.set h (.live 1 [[.cl sz rows.length 0 0 0]])++[.live sz []]:=by rw[List.set_append_left _ _ hlt]
 simp only[e]at ok3 hx3;refine⟨ρ,I,ok3,(hx.trans hx2).trans hx3,(hd.mono hx2).mono hx3,hl,fun j=>?_⟩;exact((hf j).mono hx2 ok).mono hx3 ok2
theorem nW{b0:Nat}{fr:List V}{rows:Rows}(h s sz j:Nat)(e:List V)(hr:rows[h]? =some (.live s [e]))(hj:e[j]? =some (.d .bm)):fb b0 ⟨fr,rows⟩ ⟨fr,rows.set h (.live s [e.set j (.cl sz rows.length 0 0 0)])++[.live sz []]⟩:=by
 rintro c0 a w-hs;have hlt:h<rows.length:=(ad.1 hr).1;obtain⟨ρ,I,ok,hx,hd,hl,hf⟩:=hs.grow 1;have hu:(rows++List.replicate 1 bd.un)[rows.length]? =some .un:=by simp
 have hv2:=qy ok rows.length sz hu;have hset:(rows++List.replicate 1 bd.un).set rows.length (.live sz [])=rows++[.live sz []]:=by simp
 simp only[St.grow]at hv2;rw[hset]at hv2;obtain⟨ok2,hx2⟩:=hv2;have hρ:ρ rows.length=none:=ok.mi (by simp[St.grow]);have hr2:(rows++[bd.live sz []])[h]? =some (.live s [e]):=by rw[aH hlt];exact hr
 have hone:NP ⟨ρ,I,rows++[bd.live sz []],w⟩ e:=fun v hv=>by
  cases hρh:ρ h with
  |none=>have:=ok2.je h s [e] hρh hr2;simp at this
  |some b=>obtain⟨arr,ty,fz,h1,h2,h3,h4,h5⟩:=ok2.cont h b s [e] hρh hr2;exact(h3 e sm).2 v hv
 obtain⟨ok3,hx3⟩:=wE ok2 (h:=h) (es':=[e.set j (.cl sz rows.length 0 0 0)]) hr2 rfl (fun i e0 e' h1 h2=>by
  cases i with
  |succ i=>simp at h1
  |zero=>
   simp at h1 h2;subst h1 h2;refine⟨sm,fun k v v' h3 h4=>?_⟩;rw[List.getElem?_set]at h4;by_cases hk:j=k
   ·subst hk;rw[hj]at h3;injection h3 with h3;subst h3
    rw[if_pos rfl]at h4;split at h4
    ·injection h4 with h4;subst h4
     refine⟨rfl,fun x hxr=>?_⟩;cases hxr with|d _ _ hxr=>
     cases hxr;exact .c8 sz rows.length sm hρ
    ·cases h4
   ·rw[if_neg hk,h3]at h4;injection h4 with h4;subst h4
    exact⟨hone v (af h3),fun x hx=>hx⟩)
 have e1:(rows++[bd.live sz []]).set h (.live s [e.set j (.cl sz rows.length 0 0 0)])=rows.set h (.live s [e.set j (.cl sz rows.length 0 0 0)])++[.live sz []]:=by rw[List.set_append_left _ _ hlt]
 simp only[e1]at ok3 hx3;refine⟨ρ,I,ok3,(hx.trans hx2).trans hx3,(hd.mono hx2).mono hx3,hl,fun j=>?_⟩;exact((hf j).mono hx2 ok).mono hx3 ok2
inductive Ks(l:List Nat)(rows:Rows):V->V->Prop where
 |same (v:V):Ks l rows v v
 |snap (v v':V) (h:dN rows v) (hg:∀g∈fi v,g∈l) (he:dJ rows v=v') (ho:fh v'=true):Ks l rows v v'
 |mp (g:Nat) (es:List (List UInt8×Int)) (hr:rows[g]? =some (.obj (.mp (BT es)))) (hg:g∈l):Ks l rows (.aY 0 g 0 1 0) (.d (.mp es))
theorem yz{b0:Nat}{fr:List V}{rows rows':Rows}{h sz:Nat}{e e':List V}(l:List Nat)(hr:rows[h]? =some (.live sz [e]))(hn:h∉l)(hl:e.length=e'.length) (hk:∀(j:Nat) (v v':V),e[j]? =some v->e'[j]? =some v'->Ks l rows v v') (he:(bq rows (l.map fun h=>(h,bd.dead))).set h (.live sz [e'])=rows'):fb b0 ⟨fr,rows⟩ ⟨fr,rows'⟩:=by
 subst he;rintro c0 a w-⟨ρ,I,ok,hx,hd,hlen,hf⟩;obtain⟨ok2,hx2⟩:=zI ok l;have hr2:(bq rows (l.map fun h=>(h,bd.dead)))[h]? =some (.live sz [e]):=by have:=lF l rows h;rw[if_neg (fun x=>hn x.1),hr]at this;exact this
 have hlt:=(ad.1 hr2).1;obtain⟨c3,hc3⟩:∃c3:Cx,c3=⟨(fK ⟨ρ,I,rows,w⟩ l).ρ,(fK ⟨ρ,I,rows,w⟩ l).I,(bq rows (l.map fun h=>(h,bd.dead))).set h (.live sz [e']),w⟩:=⟨_,rfl⟩;have hrow:∀g,g≠h->c3.rows[g]? =(fK ⟨ρ,I,rows,w⟩ l).rows[g]? :=fun g hg=>by rw[hc3];simp only[fK];rw[List.getElem?_set_ne (fun x=>hg x.symm)]
 have hrowh:c3.rows[h]? =some (.live sz [e']):=by rw[hc3];simp only;rw[List.getElem?_set_self hlt]
 have hx3:Ext (fK ⟨ρ,I,rows,w⟩ l) c3:=by
  refine⟨by rw[hc3];rfl,by rw[hc3];rfl,by rw[hc3];rfl,by rw[hc3];exact aq _,fun _ _ _=>by rw[hc3];rfl,fun b hb=>by rw[hc3];exact hb,fun b hb=>by rw[hc3]at hb;exact .inl hb,fun g b hb=>by rw[hc3]at hb;exact .inl hb,fun g=>?_⟩;by_cases hg:g=h
  ·subst hg;unfold bK;have e1:(fK ⟨ρ,I,rows,w⟩ l).rows[g]? =some (.live sz [e]):=hr2;rw[e1];exact .inr ⟨_,hrowh,.inr ⟨rfl,by rw[hc3],fun b arr ty fz _ hb=>⟨arr,fz,by rw[hc3];exact hb,rfl⟩⟩⟩
  ·cases hg2:(fK ⟨ρ,I,rows,w⟩ l).rows[g]? with
   |none=>unfold bK;rw[hg2];trivial
   |some r=>exact bK.of_eq (hrow g hg) (by rw[hc3]) (fun _ _=>by rw[hc3];rfl)
 have ok3:Ok c3:=by
  refine⟨fun g g' b h1 h2=>?_,fun g b hb=>?_,fun g b sz' es hb hr'=>?_,fun g sz' es hb hr'=>?_,fun b hb=>?_,.step ok2 hx3 fun g o hr'=>?_⟩
  ·rw[hc3]at h1 h2;exact ok2.inj g g' b h1 h2
  ·rw[hc3]at hb;obtain⟨h1,h2,r,h3,h4⟩:=ok2.own g b hb;refine⟨by rw[hc3];exact h1,by rw[hc3];exact h2,?_⟩;by_cases hg:g=h
   ·subst hg;exact⟨_,hrowh,by have e1:(fK ⟨ρ,I,rows,w⟩ l).rows[g]? =some (.live sz [e]):=hr2;rw[e1]at h3;injection h3 with h3;subst h3;exact h4⟩
   ·exact⟨r,by rw[hrow g hg];exact h3,h4⟩
  ·have hb':(fK ⟨ρ,I,rows,w⟩ l).ρ g=some b:=by rw[hc3]at hb;exact hb
   by_cases hg:g=h
   ·subst hg;rw[hrowh]at hr';injection hr' with hr';injection hr' with e1 e2;subst e1 e2
    obtain⟨arr,ty,fz,h1,h2,h3,h4,h5⟩:=ok2.cont g b sz [e] hb' hr2;have hbρ:ρ g=some b:=by simp only[fK]at hb';rw[if_neg hn]at hb';exact hb'
    obtain⟨arr0,ty0,fz0,k1,k2,k3,k4,k5⟩:=ok.cont g b sz [e] hbρ hr;have ea:arr0=arr:=by
     have:w.heap[b]? =some (.cells arr ty fz):=h1;have k1':w.heap[b]? =some (.cells arr0 ty0 fz0):=k1;rw[this]at k1';injection k1' with k1'
     injection k1' with k1' _ _
     exact k1'.symm
    subst ea;have hel:e.length=sz:=(h3 e sm).1;refine⟨arr0,ty,fz,by rw[hc3];exact h1,h2,fun x hx=>?_,by simpa using h4,fun i x j v' h6 h7=>?_⟩
    ·simp only[aP,List.not_mem_nil,or_false]at hx;subst hx;refine⟨om,fun v' hv'=>?_⟩;obtain⟨j,hj,rfl⟩:=List.getElem_of_mem hv';have hje:j<e.length:=om;have h8:=hk j _ _ (ae hje) (ae hj);generalize hq:x[j]=y at h8;generalize hq2:e[j]=z at h8;cases h8 with
     |same=>exact(h3 e sm).2 _ (hq2▸List.getElem_mem hje)
     |snap _ _ _ _ _ ho=>exact ho
     |mp=>rfl
    ·cases i with
     |succ i=>simp at h6
     |zero=>
      simp at h6;subst h6;have hj:=(ad.1 h7).1;have hje:j<e.length:=om;obtain⟨y,h8,h9⟩:=h5 0 e j _ sm (ae hje);obtain⟨y2,m8,m9⟩:=k5 0 e j _ sm (ae hje);rw[h8]at m8;injection m8 with m8;subst m8
      refine⟨y,h8,?_⟩;have hK:=hk j _ _ (ae hje) h7;generalize e[j]=z at hK h9 m9;cases hK with
      |same=>exact h9.mono hx3 ok2
      |snap _ _ hsn hg hev ho=>subst hev;have:=nP ok (J:=(fK ⟨ρ,I,rows,w⟩ l).I) (fun b hb=>.inl hb) m9 hsn (fun g hgm b hgb=>.inr ⟨g,hg g hgm,hgb⟩);rw[hc3];exact jr this _ _
      |mp g' es' hrg hgl=>
       have hb:∃b,y=.map (some b)/\ρ g'=some b:=by
        cases m9 with
        |aY _ _ _ _ _ _ _ hrow'=>simp only at hrow';rw[hrg]at hrow';cases hrow'
        |cD _ _ _ _ _ _ _ hs=>rcases hs with hs|⟨_,_,hs,_⟩<;>(simp only at hs;rw[hrg]at hs;cases hs)
        |oh _ _ _ b' o hrow' hρ' _ _ h1'=>exact⟨b',h1' rfl,hρ'⟩
       obtain⟨b',rfl,hρ'⟩:=hb;obtain⟨b2,hb2,ents,clock,m1,m2,_⟩:=ok.g.xS g' _ hrg;simp only at hb2;rw[hρ']at hb2;injection hb2 with hb2;subst hb2
       rw[hc3];refine .d _ _ (.mp es' b' (.inr ⟨g',hgl,hρ'⟩) ents clock m1 ?_);rw[m2,BT,List.map_map];rfl
   ·rw[hrow g hg]at hr';obtain⟨arr,ty,fz,h1,h2,h3⟩:=ok2.cont g b sz' es hb' hr';exact⟨arr,ty,fz,by rw[hc3];exact h1,h2,h3.mono hx3 ok2⟩
  ·have hb':(fK ⟨ρ,I,rows,w⟩ l).ρ g=none:=by rw[hc3]at hb;exact hb
   by_cases hg:g=h
   ·subst hg;have:=ok2.je g sz [e] hb' hr2;cases this
   ·rw[hrow g hg]at hr';exact ok2.je g sz' es hb' hr'
  ·rw[hc3]at hb|-;exact ok2.jP b hb
  ·by_cases hg:g=h
   ·subst hg;rw[hrowh]at hr';injection hr' with hr';cases hr'
   ·rw[hrow g hg]at hr';exact⟨hr',by rw[hc3],fun _ _=>by rw[hc3];rfl⟩
 have hx4:=hx2.trans hx3;subst hc3;exact⟨_,_,ok3,hx.trans hx4,hd.mono hx4,hlen,fun i=>(hf i).mono hx4 ok⟩
section
variable[bf]{P:Program}{base hi:Nat}{fr:List V}{rows:Rows}{dst:Option Nat}{κ:KV}
def L8:V->V->V->KV->Prop
 | .d (.int k a),.d (.int _ b),.d (.int _ c),K=>K (.d (.int k (min a (min b c)))) []
 |_,_,_,_=>False
def Kw:V->V->V->KV->Prop
 | .d (.int k a),.d (.int _ b),.d (.int _ c),K=>K (.d (.int k (max a (max b c)))) []
 |_,_,_,_=>False
def Mz:V->KV->Prop
 | .d .bm,K=>K (.d (.int .i64 0)) []
 |_,_=>False
def p8(sz:Nat):V->V->V->KV->Prop
 | .d (.sl s es),.d (.int _ h),.d (.int _ m),K=>sz≠0/\s=sz/\h=es.length/\m=es.length/\K (.d (.BZ sz es)) []
 |_,_,_,_=>False
def Ew(sz bytes:Nat)(zero:List D)(hf:Nat):V->V->KV->Prop
 | .d .bm,.d (.int .i64 n),K=>0<n/\n*bytes<=bM/\K (.cl sz hf n.toNat 0 n.toNat) [(hf,.live sz (List.replicate n.toNat (zero.map .d)))]
 |_,_,_=>False
def CQ(T:TypeId):V->KV->Prop
 | .agg cs,K=>BQ (dG cs) fun ns=>K (.gV T (kq ns)) []
 |_,_=>False
def Np(n:Nat)(okf:Bool)(z:D):bd->Option (List Int)->KV->Prop
 | .obj (.mq m es),some s,κ=>m=n/\s.length=n/\IK okf (fY z es s) (gZ es s) κ
 |_,_,_=>False
def GG(rows:Rows)(n:Nat)(okf:Bool)(z:D):V->V->KV->Prop
 | .aY 0 h 0 1 0,.agg cs,κ=>fy z=true/\Np n okf z (rowAt rows h) (dG cs) κ
 |_,_,_=>False
def MN(n h:Nat):bd->Option (List Int)->D->KV->Prop
 | .obj (.mq m es),some s,x,κ=>m=n/\s.length=n/\κ .any [(h,.obj (.mq n (gN es s x)))]
 |_,_,_,_=>False
def HB(rows:Rows)(n:Nat):V->V->V->KV->Prop
 | .aY 0 h 0 1 0,.agg cs,.d x,κ=>fy x=true/\MN n h (rowAt rows h) (dG cs) x κ
 |_,_,_,_=>False
theorem MT{x y z:bw}:bP P base ⟨dst,hi,none,.op (.Jo x y z)⟩ ⟨fr,rows⟩ κ=L8 (x.ev fr) (y.ev fr) (z.ev fr) κ:=by
 rw[eo rfl];simp only[bU];split
 ·rename_i h1 h2 h3;rw[h1,h2,h3];rfl
 ·rename_i h;rw[L8];exact h
theorem N8{x y z:bw}:bP P base ⟨dst,hi,none,.op (.JI x y z)⟩ ⟨fr,rows⟩ κ=Kw (x.ev fr) (y.ev fr) (z.ev fr) κ:=by
 rw[eo rfl];simp only[bU];split
 ·rename_i h1 h2 h3;rw[h1,h2,h3];rfl
 ·rename_i h;rw[Kw];exact h
theorem Oc{x:bw}:bP P base ⟨dst,hi,none,.op (.cap x)⟩ ⟨fr,rows⟩ κ=Mz (x.ev fr) κ:=by
 rw[eo rfl];simp only[bU];split
 ·rename_i h1;rw[h1];rfl
 ·rename_i h;rw[Mz];exact h
theorem Mv{sz:Nat}{x h m:bw}:bP P base ⟨dst,hi,none,.op (.clip sz x h m)⟩ ⟨fr,rows⟩ κ=p8 sz (x.ev fr) (h.ev fr) (m.ev fr) κ:=by
 rw[eo rfl];simp only[bU];cases x.ev fr with
 |d y=>
  cases y with
  |sl s es=>
   simp only[lV];cases h.ev fr with
   |d y=>
    cases y with
    |int k n=>
     cases m.ev fr with
     |d y=>cases y<;>simp[p8]
     |_=>simp[p8]
    |_=>simp[p8]
   |_=>simp[p8]
  |_=>simp[p8]
 |_=>simp[p8]
theorem Lu{sz bytes:Nat}{zero:List D}{s x:bw}:bP P base ⟨dst,hi,none,.op (.sM sz bytes zero s x)⟩ ⟨fr,rows⟩ κ=(rowAt rows (base+hi)=.un/\Ew sz bytes zero (base+hi) (s.ev fr) (x.ev fr) κ):=by
 rw[ny rfl];simp only[bU];congr 1;split
 ·rename_i h1 h2;rw[h1,h2];rfl
 ·rename_i h;rw[Ew];exact h
theorem JY{T:TypeId}{x:bw}:bP P base ⟨dst,hi,none,.op (.qi T x)⟩ ⟨fr,rows⟩ κ=CQ T (x.ev fr) κ:=by
 rw[eo rfl];simp only[bU];split
 ·rename_i h1;rw[h1];rfl
 ·rename_i h;rw[CQ];exact h
def wI(T:TypeId)(z:List D):V->KV->Prop
 | .gV T' u,K=>tB T z T' u K
 |_,_=>False
def yd(neg:Bool):V->KV->Prop
 | .gV _ .nilIface,K=>K (.d (.bool !neg)) []
 |_,_=>False
theorem Mn{T:TypeId}{z:List D}{x:bw}:bP P base ⟨dst,hi,none,.op (.xq T z x)⟩ ⟨fr,rows⟩ κ=wI T z (x.ev fr) κ:=by
 rw[eo rfl];simp only[bU];split
 ·rename_i h1;rw[h1];rfl
 ·rename_i h;rw[wI];exact h
theorem Iy{neg:Bool}{x:bw}:bP P base ⟨dst,hi,none,.op (.nu neg x)⟩ ⟨fr,rows⟩ κ=yd neg (x.ev fr) κ:=by
 rw[eo rfl];simp only[bU];split
 ·rename_i h1;rw[h1];rfl
 ·rename_i h;rw[yd];exact h
theorem Mk{T T':TypeId}{z:List D}:wI T z (.gV T' .nilIface) κ=κ (.cm [.agg (z.map .d),.d (.bool false)]) []:=rfl
theorem Lg{T T':TypeId}{z:List D}{ns:List Int}:wI T z (.gV T' (kq ns)) κ=(T'=T/\κ (.cm [.agg (ns.map fun n=>.d (.int .i64 n)),.d (.bool true)]) []):=by
 simp only[wI];unfold tB;split
 ·rename_i h;cases h
 ·simp only[Gj]
theorem GD{T:TypeId}{neg:Bool}:yd neg (.gV T .nilIface) κ=κ (.d (.bool !neg)) []:=rfl
theorem O0{ns:List Int}{K:List Int->Prop}:BQ (some ns) K=K ns:=rfl
theorem Qu:dG []=some []:=rfl
theorem PC{n:Int}{l:List V}:dG (.d (.int .i64 n)::l)=(dG l).map (n:: ·):=rfl
theorem J8{n:Nat}:bP P base ⟨dst,hi,none,.op (.q7 n)⟩ ⟨fr,rows⟩ κ=(rowAt rows (base+hi)=.un/\κ (.aY 0 (base+hi) 0 1 0) [(base+hi,.obj (.mq n []))]):=ny rfl
theorem O2{n:Nat}{okf:Bool}{z:D}{m k:bw}:bP P base ⟨dst,hi,none,.op (.DK n okf z m k)⟩ ⟨fr,rows⟩ κ=GG rows n okf z (m.ev fr) (k.ev fr) κ:=by
 rw[eo rfl];simp only[bU];split
 ·rename_i h cs e1 e2;rw[e1,e2];simp only[GG,dR,Db];congr 1;cases rows[h]? with
  |none=>rfl
  |some r=>cases r with
   |obj o=>cases o with
    |mq m es=>cases dG cs<;>cases okf<;>rfl
    |_=>cases dG cs<;>rfl
   |_=>cases dG cs<;>rfl
 ·rename_i hh;simp only[eq_iff_iff,false_iff];unfold GG;split
  ·rename_i e1 e2;exact(hh _ _ e1 e2).elim
  ·exact id
theorem Ny{n:Nat}{m k v:bw}:bP P base ⟨dst,hi,none,.op (.B9 n m k v)⟩ ⟨fr,rows⟩ κ=HB rows n (m.ev fr) (k.ev fr) (v.ev fr) κ:=by
 rw[eo rfl];simp only[bU];split
 ·rename_i h cs x e1 e2 e3;rw[e1,e2,e3];simp only[HB,dR,Ih];congr 1;cases rows[h]? with
  |none=>rfl
  |some r=>cases r with
   |obj o=>cases o with
    |mq m es=>cases dG cs<;>rfl
    |_=>cases dG cs<;>rfl
   |_=>cases dG cs<;>rfl
 ·rename_i hh;simp only[eq_iff_iff,false_iff];unfold HB;split
  ·rename_i e1 e2 e3;exact(hh _ _ _ e1 e2 e3).elim
  ·exact id
def Gy(P:Program)(s:bn)(Q:AX->St->Prop):St->Prop:=fun S=>oM P s S fun ch ups=>Q (.fL ch) ⟨S.fr,bq S.rows ups⟩
def AZ(P:Program)(fv:V)(args:List V)(rows:Rows)(K:List PanicEntry->List (Nat×bd)->Prop):Prop:=match fv with
 | .fn (.func g) first cap=>∃ch ups,(lh P g (first++args++cap) rows ch ups\/Cf P g (first++args++cap) rows ch ups)/\K ch ups
 |_=>False
def Ob(v:V)(K:List PanicEntry->Prop):Prop:=match v with
 | .gV T (.agg a)=>K [{v:=.iface T (.agg a),recovered:=false}]
 |_=>False
def Lx(Q:AX->St->Prop)(fr:List V)(rows:Rows):List PanicEntry->List (Nat×bd)->Prop:=fun ch ups=>Q (.fL ch) ⟨fr,bq rows ups⟩
def Ez(P:Program)(fv:V)(args:List V)(rows:Rows)(K:V->Rows->Prop)(Kp:List PanicEntry->Rows->Prop):Prop:=match fv with
 | .fn (.func g) first cap=>kS P g (first++args++cap) rows K Kp
 |_=>False
def ET(P:Program)(base:Nat)(r:List bn)(Q:AX->St->Prop)(dst:Option Nat)(fr:List V):V->Rows->Prop:=fun v rows'=>jG P base r (Q .normal) ⟨eg fr dst v,rows'⟩
def xd(Q:AX->St->Prop)(fr:List V):List PanicEntry->Rows->Prop:=fun ch rows'=>Q (.fL ch) ⟨fr,rows'⟩
def Qo(P:Program)(base:Nat)(s:bn)(r:List bn)(Q:AX->St->Prop):St->Prop:=fun S=>qt P s S (ET P base r Q s.dst S.fr) (xd Q S.fr)
variable{Q:AX->St->Prop}{b0:Nat}
theorem LR{f:bw}{as:List bw}:Gy P ⟨dst,hi,none,.call f as⟩ Q ⟨fr,rows⟩=AZ P (f.ev fr) (tS fr as) rows (Lx Q fr rows):=by rw[iA];exact propext ⟨fun h=>h.2,fun h=>⟨trivial,h⟩⟩
theorem Kz{t:Nat}{w:Bool}{f:bw}{as:List bw}:Gy P ⟨dst,hi,some (t,w),.call f as⟩ Q ⟨fr,rows⟩=(nth fr t=.d (.bool w)/\AZ P (f.ev fr) (tS fr as) rows (Lx Q fr rows)):=by rw[iA];rfl
theorem Mt{x:bw}:Gy P ⟨dst,hi,none,.fL x⟩ Q ⟨fr,rows⟩=Ob (x.ev fr) (fun ch=>Q (.fL ch) ⟨fr,rows⟩):=by refine propext ⟨fun h=>h.2,fun h=>⟨trivial,h⟩⟩
theorem Ke{T:TypeId}{ns:List Int}{K:List PanicEntry->Prop}:Ob (.gV T (kq ns)) K=K [{v:=.iface T (kq ns),recovered:=false}]:=rfl
theorem KW{ch:List PanicEntry}{ups:List (Nat×bd)}:Lx Q fr rows ch ups=Q (.fL ch) ⟨fr,bq rows ups⟩:=rfl
theorem JZ{r:List bn}{f:bw}{as:List bw}:Qo P base ⟨dst,hi,none,.call f as⟩ r Q ⟨fr,rows⟩=Ez P (f.ev fr) (tS fr as) rows (ET P base r Q dst fr) (xd Q fr):=by rw[iA];exact propext ⟨fun h=>h.2,fun h=>⟨trivial,h⟩⟩
theorem Ms{r:List bn}{v:V}{rows':Rows}:ET P base r Q dst fr v rows'=jG P base r (Q .normal) ⟨eg fr dst v,rows'⟩:=rfl
theorem Ld{ch:List PanicEntry}{rows':Rows}:xd Q fr ch rows'=Q (.fL ch) ⟨fr,rows'⟩:=rfl
theorem x9{f:FuncId}{first cap args:List V}{K:V->Rows->Prop}{Kp:List PanicEntry->Rows->Prop}(h:kS P f (first++args++cap) rows K Kp):Ez P (.fn (.func f) first cap) args rows K Kp:=h
theorem b9(h0:Nat){f:FuncId}{first cap args vals0:List V}{sz:Nat}{es:List (List V)}{ch:List PanicEntry}{K:List PanicEntry->List (Nat×bd)->Prop}(hv:first++args++cap=vals0.map (cJ h0))(hz:vals0.all hZ=true)(hin:h0∈(first++args++cap).flatMap fi) (hrow:rows[h0]? =some (.live sz es)) (hd:lS es) (hc:nZ P f vals0 sz es ch) (h:K ch [(h0,.dead)]):AZ P (.fn (.func f) first cap) args rows K:=⟨_,_,.inl ⟨h0,sz,es,vals0,hrow,hd,hv,fun x hx=>aG.1 hz x hx,hin,hc,rfl⟩,h⟩
theorem MO{f:FuncId}{first cap args:List V}{ch:List PanicEntry}{ups:List (Nat×bd)}{K:List PanicEntry->List (Nat×bd)->Prop}(hl:rows.length<64)(hh:((first++args++cap).flatMap fi).isEmpty=false) (hc:kS P f (first++args++cap) rows (fun _ _=>False) (fun ch' R=>ch'=ch/\R=bq rows ups)) (h:K ch ups):AZ P (.fn (.func f) first cap) args rows K:=⟨_,_,.inr ⟨hl,hh,hc⟩,h⟩
theorem xU{s:bn}{S:St}{K K':V->List (Nat×bd)->Prop}(hk:∀v u,K v u->K' v u)(h:iU P base s S K):iU P base s S K':=by
 unfold iU at h|-;split at h
 ·rename_i o e;exact⟨h.1,(yT o (bw.ev S.fr) S.rows (base+s.hi)).mono (fun p=>K p.1 p.2) (fun p=>K' p.1 p.2) (fun p hp=>hk _ _ hp) h.2⟩
 ·unfold pW at h|-;split at h
  ·obtain⟨v,ups,h1,h2⟩:=h;exact⟨v,ups,h1,hk _ _ h2⟩
  ·obtain⟨v,ups,h1,h2⟩:=h;exact⟨v,ups,h1,hk _ _ h2⟩
  ·exact h
 ·exact h
theorem rZ{s:bn}{S:St}{K K':V->List (Nat×bd)->Prop}(hk:∀v u,K v u->K' v u)(h:bP P base s S K):bP P base s S K':=by
 unfold bP at h|-;split at h
 ·exact xU hk h
 ·split at h
  ·exact⟨fun e=>xU hk (h.1 e),fun e=>hk _ _ (h.2 e)⟩
  ·exact hk _ _ h
  ·exact h
theorem tQ{K K':St->Prop}(hk:∀S,K S->K' S):∀{l:List bn} {S:St},jG P base l K S->jG P base l K' S
 |[],_,h=>hk _ h
 |_::_,_,h=>rZ (fun _ _ h=>tQ hk h) h
theorem te{K K':St->Prop}(hk:∀S,K S->K' S):∀{l:List (bn×List Nat)} {acc:List (List Nat×List Nat)} {S:St},fU P base l acc K S->fU P base l acc K' S
 |[],_,_,h=>hk _ h
 |(_,_)::_,_,_,h=>rZ (fun _ _ ⟨F,h0,h1,h2,h3⟩=>⟨F,h0,h1,h2,te hk h3⟩) h
theorem cI{m:Nat}{l:List bn}(h:jG P rows.length l (Q .normal) ⟨fr,rows++List.replicate m .un⟩):dW P b0 (.AR m l) Q ⟨fr,rows⟩:=.inl h
theorem cr(k:Nat){m:Nat}{l:List bn}{s:bn}(hk:l[k]? =some s)(h:jG P rows.length (l.take k) (Gy P s Q) ⟨fr,rows++List.replicate m .un⟩):dW P b0 (.AR m l) Q ⟨fr,rows⟩:=.inr ⟨k,s,hk,tQ (fun S hS=>.inl hS) h⟩
def kj(j:Nat):Nat->List (bn×List Nat)->List (bn×List Nat)
 |_,[]=>[]
 |i,(s,pre)::l=>(if(i==j||pre.contains j)=true then(kD,pre)else(s,pre))::kj j (i+1) l
theorem PE{j i:Nat}:kj j i []=[]:=rfl
theorem PF{j i:Nat}{s:bn}{pre:List Nat}{l:List (bn×List Nat)}(h:(i==j||pre.contains j)=true):kj j i ((s,pre)::l)=(kD,pre)::kj j (i+1) l:=by simp only[kj,h,if_true]
theorem Qc{j i:Nat}{s:bn}{pre:List Nat}{l:List (bn×List Nat)}(h:(i==j||pre.contains j)=false):kj j i ((s,pre)::l)=(s,pre)::kj j (i+1) l:=by simp only[kj,h,Bool.false_eq_true,if_false]
theorem tE(j:Nat):∀(l:List (bn×List Nat)) (i k:Nat),(kj j i l)[k]? =(l[k]?).map fun x=>if(i+k==j||x.2.contains j)=true then(kD,x.2)else x
 |[],_,_=>by simp[kj]
 |(s,pre)::l,i,k=>by
  cases k with
  |zero=>simp only[kj,List.getElem?_cons_zero,Option.map_some,Nat.add_zero]
  |succ k=>simp only[kj,List.getElem?_cons_succ];rw[tE j l (i+1) k];congr 1;funext x;rw[show i+1+k=i+(k+1) by omega]
theorem GH(j:Nat)(l:List (bn×List Nat)):dr (gq l j) l=kj j 0 l:=by
 refine List.ext_getElem? fun k=>?_;rw[tE];cases h:l[k]? with
 |none=>rw[aA];rfl;rw[eQ];exact List.getElem?_eq_none_iff.1 h
 |some x=>rw[eP h];simp only[Option.map_some,gq,h,Nat.zero_add]
def Fl(P:Program)(base:Nat)(l:List (bn×List Nat))(acc:List (List Nat×List Nat))(K:List (List Nat×List Nat)->St->Prop)(dst:Option Nat)(pre F:List Nat)(g:Option (Nat×Bool))(act:ep)(fr:List V)(rows:Rows):KV:=fun v ups=>∃F',(F'=F\/Ck P g act fr rows v ups F')/\eM acc pre F' (ups.map (·.1))=true/\(ups.map (·.1)).all F'.contains=true/\lR P base l (acc++[(F',ups.map (·.1))]) K ⟨eg fr dst v,bq rows ups⟩
theorem Ki{acc:List (List Nat×List Nat)}{K:List (List Nat×List Nat)->St->Prop}{S:St}:lR P base [] acc K S=K acc S:=rfl
theorem J5{acc:List (List Nat×List Nat)}{K:List (List Nat×List Nat)->St->Prop}{dl:List (bn×List Nat)}{pre:List Nat}:lR P base ((kD,pre)::dl) acc K ⟨fr,rows⟩=lR P base dl (acc++[([],[])]) K ⟨fr,rows⟩:=by
 have h:∀κ:KV,bP P base kD ⟨fr,rows⟩ κ=κ .any []:=fun κ=>Dr;simp only[lR,h];have hf:bn.ng kD base fr=[]:=rfl;have hc:eM acc pre [] (List.map (fun x:Nat×bd=>x.1) [])=true:=by unfold eM;rw[aG];intro p _;simp[yW]
 rw[hf];refine propext ⟨fun⟨F,h1,_,_,h⟩=>?_,fun h=>⟨_,.inl rfl,hc,rfl,h⟩⟩;rcases h1 with rfl|⟨_,h1⟩
 ·exact h
 ·exact h1.elim
theorem Hr{acc:List (List Nat×List Nat)}{K:List (List Nat×List Nat)->St->Prop}{dl:List (bn×List Nat)}{pre:List Nat}{g:Option (Nat×Bool)}{act:ep}:lR P base ((⟨dst,hi,g,act⟩,pre)::dl) acc K ⟨fr,rows⟩=bP P base ⟨dst,hi,g,act⟩ ⟨fr,rows⟩ (Fl P base dl acc K dst pre (bn.ng ⟨dst,hi,g,act⟩ base fr) g act fr rows):=rfl
theorem dC{acc:List (List Nat×List Nat)}{K:List (List Nat×List Nat)->St->Prop}{dl:List (bn×List Nat)}{pre F:List Nat}{g:Option (Nat×Bool)}{act:ep}{v:V}{u:List (Nat×bd)}(h1:eM acc pre F (u.map (·.1))=true)(h2:(u.map (·.1)).all F.contains=true) (h:lR P base dl (acc++[(F,u.map (·.1))]) K ⟨eg fr dst v,bq rows u⟩):Fl P base dl acc K dst pre F g act fr rows v u:=⟨F,.inl rfl,h1,h2,h⟩
def Jw(P:Program)(base:Nat)(x:bn×List Nat)(Q:AX->St->Prop):List (List Nat×List Nat)->St->Prop:=fun acc S=>DZ P base x acc S fun ch=>Q (.fL ch)
def zp(P:Program)(Q:AX->St->Prop)(acc:List (List Nat×List Nat))(pre F:List Nat)(act:ep)(fr:List V)(rows:Rows):List PanicEntry->List (Nat×bd)->Prop:=fun ch ups=>(∃F',(F'=F\/AL P act fr rows ch ups F')/\eM acc pre F' (ups.map (·.1))=true)/\((acc.zipIdx.all (fun p=>pre.contains p.2||p.1.2.isEmpty)=true/\∀fr',Q (.fL ch) ⟨fr',bq rows ups⟩)\/∀S',Q (.fL ch) S')
theorem Hu{pre:List Nat}{acc:List (List Nat×List Nat)}{f:bw}{as:List bw}:Jw P base (⟨dst,hi,none,.call f as⟩,pre) Q acc ⟨fr,rows⟩=AZ P (f.ev fr) (tS fr as) rows (zp P Q acc pre (bn.ng ⟨dst,hi,none,.call f as⟩ base fr) (.call f as) fr rows):=by rw[iA];exact propext ⟨fun h=>h.2,fun h=>⟨trivial,h⟩⟩
theorem AN{act:ep}{acc:List (List Nat×List Nat)}{pre F:List Nat}{ch:List PanicEntry}{ups:List (Nat×bd)}(h1:eM acc pre F (ups.map (·.1))=true)(h:∀S',Q (.fL ch) S'):zp P Q acc pre F act fr rows ch ups:=⟨⟨F,.inl rfl,h1⟩,.inr h⟩
theorem OU{act:ep}{acc:List (List Nat×List Nat)}{pre F:List Nat}{ch:List PanicEntry}{ups:List (Nat×bd)}(h1:eM acc pre F (ups.map (·.1))=true)(h2:acc.zipIdx.all (fun p=>pre.contains p.2||p.1.2.isEmpty)=true)(h:∀fr',Q (.fL ch) ⟨fr',bq rows ups⟩):zp P Q acc pre F act fr rows ch ups:=⟨⟨F,.inl rfl,h1⟩,.inl ⟨h2,h⟩⟩
theorem Mu(h0:Nat)(F':List Nat){fo:bw}{as:List bw}{f:FuncId}{first cap args vals0:List V}{sz:Nat}{es:List (List V)}{ch:List PanicEntry}{acc:List (List Nat×List Nat)}{pre F:List Nat} (hf:fo.ev fr=.fn (.func f) first cap) (ha:as.map (bw.ev fr)=args) (hF:(first++args++cap).flatMap fi=F') (hv:first++args++cap=vals0.map (cJ h0)) (hz:vals0.all hZ=true) (hin:h0∈(first++args++cap).flatMap fi) (hrow:rows[h0]? =some (.live sz es)) (hd:lS es) (hc:nZ P f vals0 sz es ch) (h1:eM acc pre F' [h0]=true) (h:∀S',Q (.fL ch) S'):AZ P (.fn (.func f) first cap) args rows (zp P Q acc pre F (.call fo as) fr rows):=by have hX:lh P f (first++args++cap) rows ch [(h0,.dead)]:=⟨h0,sz,es,vals0,hrow,hd,hv,fun x hx=>aG.1 hz x hx,hin,hc,rfl⟩;refine⟨_,_,.inl hX,⟨F',.inr ?_,h1⟩,.inr h⟩;unfold AL;simp only[hf,ha];exact⟨hX,hF.symm⟩
theorem dj{m:Nat}{l:List (bn×List Nat)}(h:dW P b0 (.iK m l) Q ⟨fr,rows⟩):dW P b0 (.ri m l) Q ⟨fr,rows⟩:=.inl h
theorem cv(k:Nat){m:Nat}{l:List (bn×List Nat)}{x:bn×List Nat}(hk:l[k]? =some x)(h:lR P rows.length (kj k 0 l) [] (Jw P rows.length x Q) ⟨fr,rows++List.replicate m .un⟩):dW P b0 (.ri m l) Q ⟨fr,rows⟩:=.inr (.inl ⟨k,x,hk,by rw[GH];exact h⟩)
def Jm(P:Program)(base:Nat)(x:bn×List Nat)(r:List (bn×List Nat))(k:Nat)(Q:AX->St->Prop):St->Prop:=fun S=>qt P x.1 S (fun v rows'=>fU P base r (List.replicate (k+1) ([],[])) (Q .normal) ⟨eg S.fr x.1.dst v,rows'⟩) (xd Q S.fr)
def Jf(P:Program)(base:Nat)(r:List (bn×List Nat))(k:Nat)(Q:AX->St->Prop)(dst:Option Nat)(fr:List V):V->Rows->Prop:=fun v rows'=>fU P base r (List.replicate (k+1) ([],[])) (Q .normal) ⟨eg fr dst v,rows'⟩
theorem Hz{pre:List Nat}{r:List (bn×List Nat)}{k:Nat}{f:bw}{as:List bw}:Jm P base (⟨dst,hi,none,.call f as⟩,pre) r k Q ⟨fr,rows⟩=Ez P (f.ev fr) (tS fr as) rows (Jf P base r k Q dst fr) (xd Q fr):=by rw[iA];exact propext ⟨fun h=>h.2,fun h=>⟨trivial,h⟩⟩
theorem Ii{r:List (bn×List Nat)}{k:Nat}{v:V}{rows':Rows}:Jf P base r k Q dst fr v rows'=fU P base r (List.replicate (k+1) ([],[])) (Q .normal) ⟨eg fr dst v,rows'⟩:=rfl
theorem xK{K:St->Prop}{acc:List (List Nat×List Nat)}{dl:List (bn×List Nat)}{pre:List Nat}{S:St}(h:fU P base dl (acc++[([],[])]) K S):fU P base ((kD,pre)::dl) acc K S:=by obtain⟨fr,rows⟩:=S;have h2:∀κ:KV,bP P base kD ⟨fr,rows⟩ κ=κ .any []:=fun κ=>Dr;simp only[fU,h2];have hf:bn.ng kD base fr=[]:=rfl;refine⟨_,.inl hf.symm,?_,rfl,h⟩;unfold eM;rw[aG];intro p _;simp[yW]
theorem tp{K:St->Prop}:∀(n:Nat) (l:List (bn×List Nat)) (pres:List (List Nat)) (acc:List (List Nat×List Nat)) (S:St),pres.length=n->fU P base l (acc++List.replicate n ([],[])) K S->fU P base (pres.map (fun p=>(kD,p))++l) acc K S
 |0,l,pres,acc,S,hl,h=>by obtain rfl:=aQ hl;simpa using h
 |n+1,l,[],acc,S,hl,h=>by simp at hl
 |n+1,l,p::pres,acc,S,hl,h=>by refine xK (tp n l pres _ S (by simpa using hl) ?_);rw[List.replicate_succ]at h;simpa using h
theorem sv{K:St->Prop}:∀(l1 l2:List (bn×List Nat)) (acc:List (List Nat×List Nat)) (S:St),(∀x∈l2,x.1=kD)->fU P base l1 acc K S->fU P base (l1++l2) acc K S
 |[],[],acc,S,_,h=>h
 |[],(s,p)::l2,acc,S,hn,h=>by obtain rfl:s=kD:=hn (s,p) sm;exact xK (sv [] l2 _ S (fun x hx=>hn x (by simp[hx])) h)
 |(s,p)::l1,l2,acc,S,hn,h=>rZ (fun _ _ ⟨F,h0,h1,h2,h3⟩=>⟨F,h0,h1,h2,sv l1 l2 _ _ hn h3⟩) h
theorem H0(k:Nat)(l:List (bn×List Nat)):dr (fun j=>decide (k<=j)) l=l.take k++(l.drop k).map fun x=>(kD,x.2):=by
 refine List.ext_getElem? fun j=>?_;cases h:l[j]? with
 |none=>have:=List.getElem?_eq_none_iff.1 h;rw[aA (by rw[eQ];exact this),aA so]
 |some x=>
  have hj:=(ad.1 h).1;rw[eP h];by_cases hk:k<=j
  ·rw[aJ so];simp only[hk,decide_true,if_true,List.length_take,ar,List.getElem?_drop];rw[show k+(j-min k l.length)=j by omega,h];rfl
  ·rw[aH so,List.getElem?_take];simp only[hk,decide_false,Bool.false_eq_true,if_false];rw[if_pos om,h]
theorem IL(k:Nat)(l:List (bn×List Nat)):dr (fun j=>decide (j<=k)) l=((l.take (k+1)).map (·.2)).map (fun p=>(kD,p))++l.drop (k+1):=by
 refine List.ext_getElem? fun j=>?_;cases h:l[j]? with
 |none=>have:=List.getElem?_eq_none_iff.1 h;rw[aA (by rw[eQ];exact this),aA so]
 |some x=>
  have hj:=(ad.1 h).1;rw[eP h];by_cases hk:j<=k
  ·rw[aH so];simp only[hk,decide_true,if_true,List.map_map,ar,List.getElem?_take];rw[if_pos om,h];rfl
  ·rw[aJ so];simp only[hk,decide_false,an,List.length_take,List.getElem?_drop];rw[show k+1+(j-min (k+1) l.length)=j by omega,h];rfl
theorem BC{s:bn}{S:St}{K K':V->Rows->Prop}{Kp:List PanicEntry->Rows->Prop}(hk:∀v r,K v r->K' v r)(h:qt P s S K Kp):qt P s S K' Kp:=by
 unfold qt at h|-;split at h
 ·refine⟨h.1,?_⟩;have h:=h.2;split at h
  ·refine⟨h.1,fun c args ok hG hr ha=>(h.2 c args ok hG hr ha).mono ?_⟩;rintro e w' (⟨u,c',v,e1,e2,e3,e4,e5,e6⟩|h2)
   ·exact .inl ⟨u,c',v,e1,e2,e3,e4,e5,hk _ _ e6⟩
   ·exact .inr h2
  ·exact h
 ·exact h
theorem ug(k:Nat){m:Nat}{l:List (bn×List Nat)}{x:bn×List Nat}(hk:l[k]? =some x)(hbar:FC l k=true)(h:fU P rows.length (l.take k) [] (Jm P rows.length x (l.drop (k+1)) k Q) ⟨fr,rows++List.replicate m .un⟩):dW P b0 (.ri m l) Q ⟨fr,rows⟩:=by refine .inr (.inr ⟨k,x,hk,hbar,?_⟩);have hkl:=(ad.1 hk).1;rw[H0];refine sv _ _ _ _ (fun y hy=>by obtain⟨z,_,rfl⟩:=aw.1 hy;rfl) (te (fun S hS=>?_) h);refine BC (fun v r hr=>?_) hS;rw[IL];exact tp (k+1) _ _ [] _ so hr
def AC.pn:AC->AC
 | .bV m l=>.AR m l
 | .iK m l=>.ri m l
 |a=>a
theorem Fb{f:FuncId}{fn:Func}{ac:AC}{vals:List V}{K:V->Rows->Prop}{Kp:List PanicEntry->Rows->Prop}{rs:List RS}{n:Nat}(hf:P.funcs[f]? =some fn)(hname:(fn.name== "runtime.NumGoroutine")=false) (hr:fn.results.toList.mapM (fk P)=some rs) (hn:fn.ntmps=n) (hc:fn.body.bind (cV P)=some ac.erase) (hw:dW P rows.length ac (Bv rs K Kp) ⟨vals++List.replicate (n-vals.length) (.cm []),rows⟩):kS P f vals rows K Kp:=by obtain⟨code,hb,hc⟩:=ab.1 hc;exact Ar hf hname hb hr n hn hc hw
theorem LL{rs:List RS}{ch ch':List PanicEntry}{S:St}:E0 rs ch (.fL ch') S=(ch'=ch):=rfl
theorem LX{rs:List RS}{K:V->Rows->Prop}{Kp:List PanicEntry->Rows->Prop}{ch:List PanicEntry}{S:St}:Bv rs K Kp (.fL ch) S=Kp ch S.rows:=rfl
end
theorem zg{P:Program}{f:FuncId}{fn:Func}{ac:AC}{vals:List V}{sz:Nat}{es:List (List V)}{ch:List PanicEntry}{rs:List RS}{n:Nat}(hf:P.funcs[f]? =some fn)(hname:(fn.name== "runtime.NumGoroutine")=false) (hr:fn.results.toList.mapM (fk P)=some rs) (hn:fn.ntmps=n) (hc:fn.body.bind (cV P)=some ac.erase) (hw:dW P 1 ac (E0 rs ch) ⟨vals++List.replicate (n-vals.length) (.cm []),[.live sz es]⟩):nZ P f vals sz es ch:=by obtain⟨code,hb,hc⟩:=ab.1 hc;exact BO hf hname hb hr n hn hc hw
abbrev aO(d h:Nat)(a:iE):bn:=⟨some d,h,none,.op a⟩
abbrev aN(h:Nat)(a:iE):bn:=⟨none,h,none,.op a⟩
abbrev aM(d t:Nat):bn:=⟨some d,0,none,.op (.gC (.t t))⟩
abbrev aK(d:Nat)(n:Int):bn:=⟨some d,0,none,.op (.gC (.k (.d (.int .i64 n))))⟩
abbrev aI(n:Int):bw:=.k (.d (.int .i64 n))
abbrev aB(d:Nat)(op:BinOp)(a b:Nat):bn:=⟨some d,0,none,.op (.bin op (.t a) (.t b))⟩
abbrev aD(d:Nat)(op:BinOp)(a:Nat)(n:Int):bn:=⟨some d,0,none,.op (.bin op (.t a) (.k (.d (.int .i64 n))))⟩
abbrev aL(d:Nat)(g:Bool)(sz a:Nat):bn:=⟨some d,0,none,.op (.load g sz (.t a))⟩
abbrev aS(sz a x:Nat):bn:=⟨none,0,none,.op (.store sz (.t a) (.t x))⟩
abbrev aF(d o x:Nat):bn:=⟨some d,0,none,.op (.nf o (.t x))⟩
abbrev aE(d x i:Nat):bn:=⟨some d,0,none,.op (.ext (.t x) i)⟩
abbrev aC(d f:Nat)(as:List bw):bn:=⟨some d,0,none,.call (.k (.fn (.func f) [] [])) as⟩
abbrev aV(d t:Nat)(as:List bw):bn:=⟨some d,0,none,.call (.t t) as⟩
abbrev QT(d x:Nat):bn:=⟨some d,0,none,.op (.len false (.t x))⟩
abbrev Rj(d x:Nat):bn:=⟨some d,0,none,.op (.g7 (.t x))⟩
abbrev aX(d sz x i:Nat):bn:=⟨some d,0,none,.op (.fD sz none (.t x) (.t i))⟩
abbrev rg(l:List bn):AC:=.bV 0 l
abbrev rd(l:List (bn×List Nat)):AC:=.iK 0 l
abbrev sq(a b:AC):AC:=.seq a b
theorem OM{x:D}:fh (.d x)=true:=rfl
theorem G9{a b c d e:Nat}:fh (.cl a b c d e)=true:=rfl
theorem Ei{a b c d e:Nat}:fh (.aY a b c d e)=true:=rfl
theorem Le{f:Fn}{a b:List V}:fh (.fn f a b)=true:=rfl
structure wF(P:Program)(f:FuncId)(n:Nat)(rs:List RS)(ac0:AC):Prop where
 ok:∃fn,P.funcs[f]? =some fn/\(fn.name== "runtime.NumGoroutine")=false/\fn.results.toList.mapM (fk P)=some rs/\fn.ntmps=n/\fn.body.bind (cV P)=some ac0
section
variable{P:Program}{f:FuncId}{n:Nat}{rs:List RS}{ac0:AC}
theorem Q8{fn:Func}(h1:P.funcs[f]? =some fn)(h2:(fn.name== "runtime.NumGoroutine")=false)(h3:fn.results.toList.mapM (fk P)=some rs)(h4:fn.ntmps=n)(h5:fn.body.bind (cV P)=some ac0):wF P f n rs ac0:=⟨fn,h1,h2,h3,h4,h5⟩
theorem wF.go(h:wF P f n rs ac0){vals:List V}{v:V}(ac:AC)(he:ac.erase=ac0)(hw:dW P 0 ac (ow rs v) ⟨vals++List.replicate (n-vals.length) (.cm []),[]⟩):CallP P f vals v:=by obtain⟨fn,h1,h2,h3,h4,h5⟩:=h.ok;exact FV h1 h2 h3 h4 (h5.trans (congrArg some he.symm)) hw
theorem wF.gi[bf](h:wF P f n rs ac0){vals:List V}{rows:Rows}{K:V->Rows->Prop}(ac:AC)(he:ac.erase=ac0)(hw:dW P rows.length ac (xe rs K) ⟨vals++List.replicate (n-vals.length) (.cm []),rows⟩):dn P f vals rows K:=by obtain⟨fn,h1,h2,h3,h4,h5⟩:=h.ok;exact HX h1 h2 h3 h4 (h5.trans (congrArg some he.symm)) hw
theorem wF.gx[bf](h:wF P f n rs ac0){vals:List V}{rows:Rows}{K:V->Rows->Prop}{Kp:List PanicEntry->Rows->Prop}(ac:AC)(he:ac.erase=ac0)(hw:dW P rows.length ac (Bv rs K Kp) ⟨vals++List.replicate (n-vals.length) (.cm []),rows⟩):kS P f vals rows K Kp:=by obtain⟨fn,h1,h2,h3,h4,h5⟩:=h.ok;exact Fb h1 h2 h3 h4 (h5.trans (congrArg some he.symm)) hw
theorem wF.gm(h:wF P f n rs ac0){vals:List V}{v:V}{sz:Nat}{es es':List (List V)}(ac:AC)(he:ac.erase=ac0)(hw:dW P 1 ac (yx rs v sz es') ⟨vals++List.replicate (n-vals.length) (.cm []),[.live sz es]⟩):qZ P f vals sz es v es':=by obtain⟨fn,h1,h2,h3,h4,h5⟩:=h.ok;exact AP h1 h2 h3 h4 (h5.trans (congrArg some he.symm)) hw
theorem wF.gp(h:wF P f n rs ac0){vals:List V}{sz:Nat}{es:List (List V)}{ch:List PanicEntry}(ac:AC)(he:ac.erase=ac0)(hw:dW P 1 ac (E0 rs ch) ⟨vals++List.replicate (n-vals.length) (.cm []),[.live sz es]⟩):nZ P f vals sz es ch:=by obtain⟨fn,h1,h2,h3,h4,h5⟩:=h.ok;exact zg h1 h2 h3 h4 (h5.trans (congrArg some he.symm)) hw
end
section
variable[bf]
def NC:=PLift.up (ai @MT (ai @N8 (ai @Oc (ai @Mv (ai @Lu (ai @JY (ai @Mn (ai @Iy (ai @Mk (ai @Lg (ai @GD (ai @O0 (ai @Qu (ai @PC (ai @J8 (ai @O2 (ai @Ny (ai @LR (ai @Kz (ai @Mt (ai @Ke (ai @KW (ai @JZ (ai @Ms (ai @Ld (ai @Ki (ai @J5 (ai @Hr (ai @Hu (ai @Hz (ai @Ii (ai @PE (ai @PF (ai @Qc (ai @LL (ai @LX (ai @Pa (ai @Hf (ai @Ka (ai @P2 (ai @OM (ai @G9 (ai @Ei (ai @Le (ai @HT.eq_1 (ai @HT.eq_2 (ai @L8.eq_1 (ai @Kw.eq_1 (ai @Mz.eq_1 (ai @p8.eq_1 (ai @Ew.eq_1 (ai @CQ.eq_1 (ai @Np.eq_1 (ai @GG.eq_1 (ai @MN.eq_1 (ai @HB.eq_1 (ai @yL.eq_2 (ai @yG.eq_2 (ai @bq.eq_1 (ai @List.take_zero.{0} (ai @List.take_succ_cons.{0} (ai @List.take_nil.{0} (ai @List.drop_zero.{0} (ai @List.drop_succ_cons.{0} (ai @List.drop_nil.{0} (ai @List.contains_cons.{0} (ai @List.contains_nil.{0} (ai @Bool.or_false (ai @Bool.or_true (ai @Bool.false_or @Bool.true_or))))))))))))))))))))))))))))))))))))))))))))))))))))))))))))))))))))))
theorem vp:type_of%NC.down:=NC.down
end
def Rl(c0:Cx)(S:St)(a:Act)(w:World):Prop:=∃ρ I,Ok ⟨ρ,I,S.rows,w⟩/\Ext c0 ⟨ρ,I,S.rows,w⟩/\S.fr.length<=a.tmps.size/\∀i,b7 ⟨ρ,I,S.rows,w⟩ (a.tmps.getD i undef) (nth S.fr i)
section
variable{P:Program}{c0:Cx}{S:St}{a:Act}{w:World}
theorem Rl.put{ρ:Nat->Option Nat}{I:Nat->Prop}{rows:Rows}(ok:Ok ⟨ρ,I,rows,w⟩)(hx:Ext c0 ⟨ρ,I,rows,w⟩)(hl:S.fr.length<=a.tmps.size) (hf:∀i,b7 ⟨ρ,I,rows,w⟩ (a.tmps.getD i undef) (nth S.fr i)) (dst:Option Nat) {u:Value} {v:V} (hu:b7 ⟨ρ,I,rows,w⟩ u v):Rl c0 ⟨eg S.fr dst v,rows⟩ (a.put dst u) w:=by
 have hx1:Ext ⟨ρ,I,rows,w⟩ ⟨ρ,I,rows,w⟩:=Ext.refl _;obtain⟨ρ',I',h1,h2,_,h4,h5⟩:=Sat.put (c0:=c0) (S:=S) (a:={a with defers:=[]}) ok hx trivial hl hf dst hu;refine⟨ρ',I',h1,h2,?_,fun i=>?_⟩
 ·cases dst<;>exact h4
 ·have:=h5 i;cases dst<;>exact this
theorem Rp[bf]{ops:Array Oper}{o:Oper}{hi base:Nat}{s:bn}{K:V->List (Nat×bd)->Prop}(hc:jk P ops o hi=some s)(hg:s.guard=none)(hop:∃ao,s.act=.op ao)(hst:bP P base s S K)(hs:Rl c0 S a w):Region.wanted o (yielded ops a.tmps)=true/\∃u w' v ups,((execOp a.eval o).run P w=.ok (.value u) w'\/((execOp a.eval o).run P w=.ok .skip w'/\u=undef))/\K v ups/\Rl c0 (S.after s v ups) (a.put o.dst u) w':=by
 obtain⟨g,hg1,hc⟩:=ab.1 hc;obtain⟨ac,hac,rfl⟩:=aa.1 hc;simp only at hg;subst hg;obtain⟨ao,hop⟩:=hop;simp only at hop;subst hop;have hog:o.guard=none:=by
  cases h:o.guard with
  |none=>rfl
  |some jw=>rw[h]at hg1;obtain⟨j,b⟩:=jw;simp only[pd]at hg1;obtain⟨t,_,h2⟩:=aa.1 hg1;cases h2
 have hw:Region.wanted o (yielded ops a.tmps)=true:=by simp[Region.wanted,hog]
 obtain⟨ρ,I,ok,hx,hl,hf⟩:=hs;have hopd:=n9 (c:=⟨ρ,I,S.rows,w⟩) ok (a:=a) hf;have hao:ao=iz P o.op o.type:=by
  unfold qw at hac;split at hac
  ·split at hac
   ·injection hac with hac;injection hac with hac;exact hac.symm
   ·obtain⟨_,_,h⟩:=ab.1 hac;obtain⟨_,_,h⟩:=aa.1 h;cases h
  ·obtain⟨_,_,h⟩:=aa.1 hac;cases h
  ·injection hac with hac;injection hac with hac;exact hac.symm
 subst hao;simp only[bP,iU]at hst;obtain⟨hm,hact⟩:=hst;obtain⟨v,ups,n,c',hk,hrun,ok',hx',hrows,hn⟩:=wh (o:=o) ok (fun _=>rfl) rfl hopd hm hact;have hc':c'=⟨c'.ρ,c'.I,bq S.rows ups,c'.w⟩:=by cases c';simp only at hrows;subst hrows;rfl
 have hf':∀i,b7 c' (a.tmps.getD i undef) (nth S.fr i):=fun i=>(hf i).mono hx' ok;rcases hn with⟨u,rfl,hu⟩|⟨rfl,rfl⟩
 ·refine⟨hw,u,c'.w,v,ups,.inl hrun,hk,?_⟩;exact Rl.put (S:=S) (ρ:=c'.ρ) (I:=c'.I) (rows:=bq S.rows ups) (by rw[<-hc'];exact ok') (by rw[<-hc'];exact hx.trans hx') hl (fun i=>by rw[<-hc'];exact hf' i) o.dst (by rw[<-hc'];exact hu)
 ·refine⟨hw,undef,c'.w,_,ups,.inr ⟨hrun,rfl⟩,hk,?_⟩;exact Rl.put (S:=S) (ρ:=c'.ρ) (I:=c'.I) (rows:=bq S.rows ups) (by rw[<-hc'];exact ok') (by rw[<-hc'];exact hx.trans hx') hl (fun i=>by rw[<-hc'];exact hf' i) o.dst (.any _)
def Rq(s:bn):Bool:=(match s.guard with|none=>true|_=>false)&&(match s.act with| .op _=>true|_=>false)
def Rm(P:Program)(ops:Array Oper):List Nat->Nat->Option (List bn)
 |[],_=>some []
 |i::l,n=>(ops[i]?).bind fun o=>(jk P ops o n).bind fun s=>if Rq s=true then(Rm P ops l (if s.makes then n+1 else n)).map fun r=>s::r else none
theorem Ro{s:bn}(h:Rq s=true):s.guard=none/\∃ao,s.act=.op ao:=by
 unfold Rq at h;rw[av]at h;obtain⟨h1,h2⟩:=h;constructor
 ·split at h1
  ·assumption
  ·cases h1
 ·split at h2
  ·exact⟨_,by assumption⟩
  ·cases h2
theorem Rk[bf]{ops:Array Oper}{base:Nat}{Q:Exit->Act->List Frame->World->Prop}{cs:List Frame}(l2:List Nat):∀(l:List Nat) (sl:List bn) (n:Nat) (K:St->Prop) (S:St) (a:Act) (w:World),Rm P ops l n=some sl->jG P base sl K S->Rl c0 S a w->(∀S' a' w',K S'->Rl c0 S' a' w'->a'.defers=a.defers->wpOpsS P ops Q l2 a' cs w')->wpOpsS P ops Q (l++l2) a cs w
 |[],sl,n,K,S,a,w,hc,hw,hs,hk=>by
  injection hc with hc;subst hc
  exact hk S a w hw hs rfl
 |i::l,sl,n,K,S,a,w,hc,hw,hs,hk=>by
  obtain⟨o,ho,hc⟩:=ab.1 hc;obtain⟨s,h1,hc⟩:=ab.1 hc;split at hc
  ·rename_i hp;obtain⟨r,h2,rfl⟩:=aa.1 hc;obtain⟨hg,hop⟩:=Ro hp;obtain⟨hwant,u,w',v,ups,hrun,hrest,hs'⟩:=Rp h1 hg hop hw hs;have ih:=Rk (Q:=Q) (cs:=cs) l2 l r _ K _ _ w' h2 hrest hs' (fun S' a' w' e1 e2 e3=>hk S' a' w' e1 e2 (e3.trans (by cases o.dst<;>rfl)));simp only[List.cons_append,wpOpsS,ho,hwant,if_true];rcases hrun with hrun|⟨hrun,rfl⟩
   ·rw[hrun];exact ih
   ·rw[hrun];exact ih
  ·cases hc
theorem Rn[bf]{ops:Array Oper}{base:Nat}{Q:Exit->Act->World->Prop}(l2:List Nat):∀(l:List Nat) (sl:List bn) (n:Nat) (K:St->Prop) (S:St) (a:Act) (w:World),Rm P ops l n=some sl->jG P base sl K S->Rl c0 S a w->(∀S' a' w',K S'->Rl c0 S' a' w'->a'.defers=a.defers->wpOps P ops Q l2 a' w')->wpOps P ops Q (l++l2) a w
 |[],sl,n,K,S,a,w,hc,hw,hs,hk=>by
  injection hc with hc;subst hc
  exact hk S a w hw hs rfl
 |i::l,sl,n,K,S,a,w,hc,hw,hs,hk=>by
  obtain⟨o,ho,hc⟩:=ab.1 hc;obtain⟨s,h1,hc⟩:=ab.1 hc;split at hc
  ·rename_i hp;obtain⟨r,h2,rfl⟩:=aa.1 hc;obtain⟨hg,hop⟩:=Ro hp;obtain⟨hwant,u,w',v,ups,hrun,hrest,hs'⟩:=Rp h1 hg hop hw hs;have ih:=Rn (Q:=Q) l2 l r _ K _ _ w' h2 hrest hs' (fun S' a' w' e1 e2 e3=>hk S' a' w' e1 e2 (e3.trans (by cases o.dst<;>rfl)));simp only[List.cons_append,wpOps,ho,hwant,if_true];refine .inl ?_;unfold Oper.wp;rcases hrun with hrun|⟨hrun,rfl⟩
   ·rw[hrun];exact ih
   ·rw[hrun];exact ih
  ·cases hc
theorem Rl.grow{S:St}(h:Rl c0 S a w)(m:Nat):Rl c0 (S.grow m) a w:=by obtain⟨ρ,I,h1,h2,h3,h4⟩:=h;obtain⟨ρ',I',e1,e2,_,e4,e5⟩:=Sat.grow (c0:=c0) (S:=S) (a:={a with defers:=[]}) (w:=w) ⟨ρ,I,h1,h2,trivial,h3,h4⟩ m;exact⟨ρ',I',e1,e2,e4,e5⟩
end
end Go.Vx
