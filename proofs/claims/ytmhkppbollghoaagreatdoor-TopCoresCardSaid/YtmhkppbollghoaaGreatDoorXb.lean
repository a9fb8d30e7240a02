/- Proved: rules of a compiled form of the code, sound for the model. Conditions: none but those that each lemma states. -/
import Derived.Test.YtmhkppbollghoaaGreatDoorXa
import Derived.Laws.StructEq
import Derived.Laws.BytesArg
set_option linter.unusedSectionVars false
set_option linter.unusedSimpArgs false
set_option linter.unusedVariables false
namespace Go.Vx
section
variable{P:Program}{c:Cx}{K:V->List (Nat×bd)->Prop}
theorem oW{t:TypeId}(ht:P.underlying t=some .bool)(a b:Bool)(w:World)(n:Nat):(Op.equalIn (n+1) t (.bool a) (.bool b)).run P w=.ok (a==b) w:=by simp[Op.equalIn,run_underlying ht]
theorem zM(ok:Ok c){op:BinOp}{neg:Bool}{t:TypeId}{x y:Operand}{ax ay:bw}{ev:bw->V}{hf:Nat}{ux uy:Value}(ht:P.underlying t=some .bool) (hop:op=(if neg then .neq else .eql)) (hx:b7 c ux (ev ax)) (hy:b7 c uy (ev ay)) (h:bU (.Ft neg ax ay) ev c.rows hf K):cX c ((do eqGuard op t x y ux uy;binOp op t ux uy:Sem Value).run P c.w) K:=by
 simp only[bU]at h;split at h
 ·rename_i a b e1 e2;rw[e1]at hx;rw[e2]at hy;have ex:=gH hx;have ey:=gH hy;subst ex ey;refine cX.same ok h ?_ (ew _);have he:(Op.equal t (.bool a) (.bool b)).run P c.w=.ok (a==b) c.w:=oW ht a b c.w 9999;cases neg
  ·simp only[Bool.false_eq_true,if_false]at hop|-;subst hop;simp[eqGuard_at_bool,binOp,he]
  ·simp only[if_true]at hop|-;subst hop;simp[eqGuard_at_bool,binOp,he,bne]
 ·exact h.elim
def nw(P:Program):Nat->List Field->Option (List Nat)
 |_,[]=>some []
 |i,f::fs=>
  if f.offset=i/\f.name≠ "_" then
   (match P.underlying f.type with|some (.int _)=>some 0|some .bool=>some 1|some .string=>some 2|_=>none).bind fun k=>(nw P (i+1) fs).map (k:: ·)
  else none
theorem nF{w:World}(hw:c.w=w){xs ys:Array Value}{d:Nat}:∀(fs:List Field) (i:Nat) (ks:List Nat) (a b:List V) (r:Bool),nw P i fs=some ks->wU ks a b=some r->(∀(j:Nat) (v:V),a[j]? =some v->∃x,xs[i+j]? =some x/\b7 c x v)->(∀(j:Nat) (v:V),b[j]? =some v->∃x,ys[i+j]? =some x/\b7 c x v)->(Op.eqFields (d+1) xs ys fs).run P w=.ok r w:=by
 intro fs;induction fs with
 |nil=>
  intro i ks a b r hk he hx hy;injection hk with hk;subst hk
  unfold wU at he;split at he<;>simp_all[Op.eqFields]
 |cons f fs ih=>
  intro i ks a b r hk he hx hy;simp only[nw]at hk;split at hk
  ·rename_i hc;obtain⟨hoff,hname⟩:=hc;obtain⟨k,hk1,hk⟩:=ab.1 hk;obtain⟨ks',hk2,rfl⟩:=aa.1 hk;have htail:∀{l:List V} {v0:V} {zs:Array Value},(∀(j:Nat) (v:V),(v0::l)[j]? =some v->∃x,zs[i+j]? =some x/\b7 c x v)->∀(j:Nat) (v:V),l[j]? =some v->∃x,zs[i+1+j]? =some x/\b7 c x v:=by intro l v0 zs h j v hv;obtain⟨x,h1,h2⟩:=h (j+1) v (by simpa using hv);exact⟨x,by rw[show i+1+j=i+(j+1) by omega];exact h1,h2⟩
   have step:∀(u v:Value) (r0 r1:Bool),xs[i]? =some u->ys[i]? =some v->vU P f.type false->(Op.equalIn (d+1) f.type u v).run P w=.ok r0 w->(Op.eqFields (d+1) xs ys fs).run P w=.ok r1 w->r=(r0&&r1)->(Op.eqFields (d+1) xs ys (f::fs)).run P w=.ok r w:=by
    intro u v r0 r1 hu hv hag h0 h1 hr;simp only[Op.eqFields,if_pos hname];have p1:(part f.type xs f.offset).run P w=.ok u w:=by simp[part,dQ hag,hoff,hu]
    have p2:(part f.type ys f.offset).run P w=.ok v w:=by simp[part,dQ hag,hoff,hv]
    simp only[Sem.run_bind,p1,p2,h0,Result.andThen_ok];subst hr;cases r0
    ·simp
    ·simpa using h1
   unfold wU at he;split at he
   ·rename_i _ _ h0;cases h0
   ·rename_i ks0 kk p l kk' q m h0;injection h0 with h0 h0';subst h0 h0'
    split at he
    ·rename_i hkk;subst hkk;obtain⟨r1,h1,rfl⟩:=aa.1 he;obtain⟨u,hu,hur⟩:=hx 0 _ rfl;obtain⟨v,hv,hvr⟩:=hy 0 _ rfl;have e1:=dw hur;have e2:=dw hvr;subst e1 e2;have hut:∃k0,P.underlying f.type=some (.int k0):=by split at hk1<;>first|exact⟨_,by assumption⟩|(injection hk1 with hk1;cases hk1)|cases hk1
     obtain⟨k0,hut⟩:=hut;exact step _ _ _ _ hu hv ⟨_,hut,rfl⟩ (run_equalIn_int w d f.type kk k0 p q hut) (ih _ _ _ _ _ hk2 h1 (htail hx) (htail hy)) (by congr 1)
    ·cases he
   ·rename_i ks0 p l q m h0;injection h0 with h0 h0';subst h0 h0'
    obtain⟨r1,h1,rfl⟩:=aa.1 he;obtain⟨u,hu,hur⟩:=hx 0 _ rfl;obtain⟨v,hv,hvr⟩:=hy 0 _ rfl;have e1:=gH hur;have e2:=gH hvr;subst e1 e2;have hut:P.underlying f.type=some .bool:=by split at hk1<;>first|assumption|(injection hk1 with hk1;cases hk1)|cases hk1
    exact step _ _ _ _ hu hv ⟨_,hut,rfl⟩ (oW hut p q w d) (ih _ _ _ _ _ hk2 h1 (htail hx) (htail hy)) rfl
   ·rename_i ks0 p l q m h0;injection h0 with h0 h0';subst h0 h0'
    obtain⟨r1,h1,rfl⟩:=aa.1 he;obtain⟨u,hu,hur⟩:=hx 0 _ rfl;obtain⟨v,hv,hvr⟩:=hy 0 _ rfl;have e1:=iw hur;have e2:=iw hvr;subst e1 e2;have hut:P.underlying f.type=some .string:=by split at hk1<;>first|assumption|(injection hk1 with hk1;cases hk1)|cases hk1
    refine step _ _ _ _ hu hv ⟨_,hut,rfl⟩ (run_equalIn_string w d f.type _ _ hut) (ih _ _ _ _ _ hk2 h1 (htail hx) (htail hy)) ?_;congr 1;rw[ByteArray.toList_eq,ByteArray.toList_eq];simp only[List.toList_toArray];rw[Bool.eq_iff_iff];simp
   ·cases he
  ·cases hk
theorem z9(ok:Ok c){op:BinOp}{neg:Bool}{ks:List Nat}{t:TypeId}{fs:Array Field}{x y:Operand}{ax ay:bw}{ev:bw->V}{hf:Nat}{ux uy:Value}(ht:P.underlying t=some (.struct fs)) (hks:nw P 0 fs.toList=some ks) (hst:P.stoodInHeld t=false) (hg:P.eqGuardType P.depth t=false) (hop:op=(if neg then .neq else .eql)) (hx:b7 c ux (ev ax)) (hy:b7 c uy (ev ay)) (h:bU (.FK neg ks ax ay) ev c.rows hf K):cX c ((do eqGuard op t x y ux uy;binOp op t ux uy:Sem Value).run P c.w) K:=by
 simp only[bU]at h;split at h
 ·rename_i a b e1 e2;rw[e1]at hx;rw[e2]at hy;cases hx with|agg xs _ hlx hrx=>
  cases hy with|agg ys _ hly hry=>
  unfold Kq at h;split at h
  ·rename_i r hr;refine cX.same ok h ?_ (ew _);have hfo:P.fieldsOf t=fs:=by simp[Program.fieldsOf,ht]
   have h1:(Op.eqFields 9999 xs ys fs.toList).run P c.w=.ok r c.w:=nF (d:=9998) rfl fs.toList 0 ks a b r hks hr (fun j v hv=>by
     have hj:j<xs.size:=by rw[hlx];exact(ad.1 hv).1
     exact⟨xs[j],by simp[hj],hrx j v _ hv (by simp[hj])⟩)
    (fun j v hv=>by
     have hj:j<ys.size:=by rw[hly];exact(ad.1 hv).1
     exact⟨ys[j],by simp[hj],hry j v _ hv (by simp[hj])⟩)
   have h2:(Op.equalIn 10000 t (.agg xs) (.agg ys)).run P c.w=.ok r c.w:=by rw[run_equalIn_struct c.w 9999 t xs ys (by rw[hfo];exact ht) hst,hfo];exact h1
   cases neg
   ·simp only[Bool.false_eq_true,if_false]at hop|-;subst hop;rw[Sem.run_bind,run_eqGuard_agg c.w _ t x y xs ys hg,Result.andThen_ok,run_eql_struct,h2];rfl
   ·simp only[if_true]at hop|-;subst hop;rw[Sem.run_bind,run_eqGuard_agg c.w _ t x y xs ys hg,Result.andThen_ok,run_neq_struct,h2];rfl
  ·exact h.elim
 ·exact h.elim
theorem wJ{t e:TypeId}(ht:P.underlying t=some (.slice e))(a:Option Addr)(n k:Nat)(w:World)(m:Nat):(Op.equalIn (m+1) t (.slice a n k) (.slice none 0 0)).run P w=.ok a.isNone w:=by cases a<;>simp[Op.equalIn,run_underlying ht]
theorem tL(ok:Ok c){op:BinOp}{neg:Bool}{t e:TypeId}{x y:Operand}{ax ay:bw}{ev:bw->V}{hf:Nat}{ux uy:Value}(ht:P.underlying t=some (.slice e)) (hop:op=(if neg then .neq else .eql)) (hx:b7 c ux (ev ax)) (hy:b7 c uy (ev ay)) (h:bU (.isNil neg ax ay) ev c.rows hf K):cX c ((do eqGuard op t x y ux uy;binOp op t ux uy:Sem Value).run P c.w) K:=by
 have key:∀(a:Option Addr) (n k:Nat),(do eqGuard op t x y (.slice a n k) (.slice none 0 0);binOp op t (.slice a n k) (.slice none 0 0):Sem Value).run P c.w=.ok (.bool (if neg then !a.isNone else a.isNone)) c.w:=by
  intro a n k;have he:(Op.equal t (.slice a n k) (.slice none 0 0)).run P c.w=.ok a.isNone c.w:=wJ ht a n k c.w 9999;cases neg
  ·simp only[Bool.false_eq_true,if_false]at hop|-;subst hop;simp[eqGuard_at_slice,binOp,he]
  ·simp only[if_true]at hop|-;subst hop;simp[eqGuard_at_slice,binOp,he]
 simp only[bU]at h;split at h
 ·rename_i e1 e2;rw[e1]at hx;rw[e2]at hy;have:=fx hy;subst this;cases hx with|d _ _ hx=>
  cases hx;exact cX.same ok h (by rw[key];cases neg<;>rfl) (ew _)
 ·rename_i e1 e2;rw[e1]at hx;rw[e2]at hy;have:=fx hy;subst this;cases hx with|d _ _ hx=>
  cases hx;exact cX.same ok h (by rw[key];cases neg<;>rfl) (ew _)
 ·rename_i e1 e2;rw[e1]at hx;rw[e2]at hy;have:=fx hy;subst this;have:∃a n k,ux=.slice a n k:=by
   cases hx with|d _ _ hx=>
   cases hx<;>exact⟨_,_,_,rfl⟩
  obtain⟨a,n,k,rfl⟩:=this;exact cX.same ok h (key _ _ _) (.d _ _ (.ke _))
 ·rename_i e1 e2;rw[e1]at hx;rw[e2]at hy;have:=fx hy;subst this;rcases gQ hx h.1 with⟨rfl,rfl,_⟩|⟨_,_,_,_,_,_,rfl,_⟩
  ·exact cX.same ok h.2 (key _ _ _) (.d _ _ (.ke _))
  ·rename_i n _ _ _ _ _ _ _ _ _;refine cX.same ok h.2 (key _ _ _) ?_;cases n with
   |zero=>exact .d _ _ (.ke _)
   |succ n=>cases neg<;>exact ew _
 ·exact h.elim
theorem Ly(ok:Ok c){op:UnOp}{x:bw}{ev:bw->V}{hf:Nat}{u:Value}(hr:b7 c u (ev x))(h:bU (.un op x) ev c.rows hf K):cX c ((Op.unary op u).run P c.w) K:=by
 simp only[bU]at h;unfold Jv at h;split at h
 ·rename_i k n e;rw[e]at hr;have:=dw hr;subst this;exact cX.same ok h (by simp[Op.unary,Op.intArith]) (cP _ _)
 ·rename_i k n e;rw[e]at hr;have:=dw hr;subst this;refine cX.same ok h ?_ (cP _ _);rfl
 ·rename_i b e;rw[e]at hr;have:=gH hr;subst this;exact cX.same ok h (by simp[Op.unary]) (ew _)
 ·exact h.elim
theorem Ec(ok:Ok c){src dst:TypeId}{k:IntKind}{x:bw}{ev:bw->V}{hf:Nat}{u:Value}(hs:∃d,P.underlying src=some d)(hd:P.underlying dst=some (.int k)) (hr:b7 c u (ev x)) (h:bU (.conv k x) ev c.rows hf K):cX c ((convert src dst u).run P c.w) K:=by
 simp only[bU]at h;split at h
 ·rename_i k' n e;rw[e]at hr;have:=dw hr;subst this;obtain⟨d,hs⟩:=hs;refine cX.same ok h ?_ (cP _ _);simp[convert,run_underlying hs,run_underlying hd,Conv.intToInt]
 ·exact h.elim
theorem Dv(ok:Ok c){src dst:TypeId}{x:bw}{ev:bw->V}{hf:Nat}{u:Value}(hs:∃d,P.underlying src=some d)(hd:P.underlying dst=some .string) (hr:b7 c u (ev x)) (h:bU (.same x) ev c.rows hf K):cX c ((convert src dst u).run P c.w) K:=by
 simp only[bU]at h;split at h
 ·rename_i s e;rw[e]at hr;have:=iw hr;subst this;obtain⟨d,hs⟩:=hs;refine cX.same ok h ?_ (uW _);simp[convert,run_underlying hs,run_underlying hd]
 ·exact h.elim
theorem CG(ok:Ok c){s:TypeId}{fs:Array Field}{n off:Nat}{f:Field}{x:bw}{ev:bw->V}{hf:Nat}{u:Value}(hs:P.underlying s=some (.struct fs))(hfld:fs[n]? =some f) (ho:f.offset=off) (hsz:∃sz,nL P f.type sz/\sz≠0) (hr:b7 c u (ev x)) (h:bU (.nf off x) ev c.rows hf K):cX c ((Instr.fieldAt s u n).run P c.w) K:=by
 obtain⟨sz,hsz,hne⟩:=hsz;simp only[bU]at h;split at h
 ·rename_i cs e;rw[e]at hr;cases hr with|d _ _ hr=>
  cases hr with|ptr _ b o uu hI hcell hrep=>
  refine cX.same ok h (u:=.pointer (some ⟨b,o+off,none⟩)) ?_ ?_
  ·simp[Instr.fieldAt,run_underlying hs,hfld,Instr.sureAddr,fieldPlace,cu hsz,hne,gJ,ho]
  ·refine .d _ _ (.ptr _ b (o+off) (fun j=>uu (off+j)) hI (fun j v hj=>?_) (fun j v hj=>?_))
   ·rw[List.getElem?_drop]at hj;rw[Nat.add_assoc];exact hcell _ v hj
   ·rw[List.getElem?_drop]at hj;exact hrep _ v hj
 ·rename_i s' hh m i o e;rw[e]at hr;obtain⟨hlive,hk⟩:=h;obtain⟨b,hρ,rfl⟩:=jM hr hlive;obtain⟨es,hrow,hn⟩:=hlive;refine cX.same ok hk (u:=.pointer (some ⟨b,i*s'+(o+off),none⟩)) ?_ (.aY _ _ _ _ _ b es hrow hn hρ);simp[Instr.fieldAt,run_underlying hs,hfld,Instr.sureAddr,fieldPlace,cu hsz,hne,gJ,ho,Nat.add_assoc]
 ·exact h.elim
theorem nC{vs:Array Value}{cs:List V}(hr:b7 c (.agg vs) (.agg cs))(off sz:Nat)(h:off+sz<=cs.length):b7 c (.agg (vs.extract off (off+sz))) (.agg ((cs.drop off).take sz)):=by
 cases hr with|agg _ _ hlen hrep=>
 refine .agg _ _ so (fun j v x h1 h2=>?_);rw[List.getElem?_take]at h1;split at h1
 ·rw[List.getElem?_drop]at h1;rw[Array.getElem?_extract]at h2;split at h2
  ·exact hrep _ v x h1 h2
  ·cases h2
 ·cases h1
theorem Ig(ok:Ok c){s:TypeId}{fs:Array Field}{n off sz:Nat}{agg:Bool}{f:Field}{x:bw}{ev:bw->V}{hf:Nat}{u:Value}(hs:P.underlying s=some (.struct fs))(hfld:fs[n]? =some f) (ho:f.offset=off) (hsz:nL P f.type sz) (ha:vU P f.type agg) (hr:b7 c u (ev x)) (h:bU (.H8 off sz agg x) ev c.rows hf K):cX c ((Instr.field s u n).run P c.w) K:=by
 simp only[bU]at h;split at h
 ·rename_i cs e;rw[e]at hr;cases hr with|agg vs _ hlen hrep=>
  cases agg with
  |true=>obtain⟨hle,hk⟩:=h;refine cX.same ok hk ?_ (nC (.agg vs cs hlen hrep) off sz hle);simp[Instr.field,run_underlying hs,hfld,asAgg,part,dQ ha,cu hsz,ho]
  |false=>obtain⟨hlt,hk⟩:=h;have h1:cs[off]? =some (cs[off]'hlt):=ae hlt;have h2:vs[off]? =some (vs[off]'om):=Array.getElem?_eq_getElem om;refine cX.same ok (hk _ h1) ?_ (hrep _ _ _ h1 h2);simp[Instr.field,run_underlying hs,hfld,asAgg,part,dQ ha,ho,h2]
 ·exact h.elim
theorem mc{u:Value}{v:V}{K':Int->Prop}(hr:b7 c u v)(h:lV v K'):∃k n,u=.int k n/\K' n:=by
 unfold lV at h;split at h
 ·rename_i k n;exact⟨k,n,dw hr,h⟩
 ·exact h.elim
theorem wu(ok:Ok c){t e:TypeId}{sz:Nat}{arr:Option Nat}{x i:bw}{ev:bw->V}{hf:Nat}{u ui:Value} (ht:match arr with|none=>P.underlying t=some (.slice e)|some m=>P.underlying t=some (.array m e)) (hs:nL P e sz) (hr:b7 c u (ev x)) (hi:b7 c ui (ev i)) (h:bU (.fD sz arr x i) ev c.rows hf K):cX c ((Instr.indexAt t u ui).run P c.w) K:=by
 simp only[bU]at h;obtain⟨k,j,rfl,h2⟩:=mc hi h;clear h;have h:=h2;clear h2;split at h
 ·rename_i s es e1;rw[e1]at hr;obtain⟨rfl,h0,hlt,hk⟩:=h;simp only at ht;have hjl:j.toNat<es.length:=om;have hje:es[j.toNat]? =some (es[j.toNat]'hjl):=ae hjl;cases hr with|d _ _ hr=>
  generalize hes:es=es' at*;cases hr with
  |lT=>subst hes;simp at hjl
  |kK=>subst hes;simp at hjl
  |sl _ _ b off cap uu hcap hI hsz hcell hrep=>
  refine cX.same ok (hk _ hje) (u:=.pointer (some ⟨b,off+j.toNat*s,none⟩)) ?_ ?_
  ·simp[Instr.indexAt,asIntOf,run_underlying ht,h0,hlt,cu hs,gJ]
  ·refine .d _ _ (.ptr _ b _ (fun m=>uu j.toNat m) hI (fun m v hm=>?_) (fun m v hm=>hrep _ _ _ v hje hm));have:=hcell _ _ _ v hje hm
   rwa [Nat.add_assoc]
 ·rename_i s hh n off len e1;rw[e1]at hr;obtain⟨rfl,hlive,h0,hlt,hk⟩:=h;simp only at ht;rcases gQ hr hlive with⟨rfl,rfl,rfl,rfl,_⟩|⟨cap,b,o,arr,ty,fz,rfl,hρ,hb,ho,hcap,hlc,hlen⟩
  ·omega
  ·obtain⟨es,hrow,hn⟩:=hlive;have ho':o=off*s:=ho.resolve_right om;subst ho';refine cX.same ok hk (u:=.pointer (some ⟨b,(off+j.toNat)*s+0,none⟩)) ?_ (.aY _ _ _ _ _ b es hrow hn hρ);simp[Instr.indexAt,asIntOf,run_underlying ht,h0,hlt,cu hs,gJ,Nat.add_mul]
 ·rename_i m cs e1;rw[e1]at hr;obtain⟨h0,hlt,hk⟩:=h;simp only at ht;cases hr with|d _ _ hr=>
  cases hr with|ptr _ b o uu hI hcell hrep=>
  refine cX.same ok hk (u:=.pointer (some ⟨b,o+j.toNat*sz,none⟩)) ?_ ?_
  ·simp[Instr.indexAt,asIntOf,run_underlying ht,Instr.sureAddr,h0,hlt,cu hs,gJ]
  ·refine .d _ _ (.ptr _ b _ (fun q=>uu (j.toNat*sz+q)) hI (fun q v hq=>?_) (fun q v hq=>?_))
   ·rw[List.getElem?_drop]at hq;rw[Nat.add_assoc];exact hcell _ v hq
   ·rw[List.getElem?_drop]at hq;exact hrep _ v hq
 ·rename_i m s' hh n i' o e1;rw[e1]at hr;obtain⟨hlive,h0,hlt,hk⟩:=h;simp only at ht;obtain⟨b,hρ,rfl⟩:=jM hr hlive;obtain⟨es,hrow,hn⟩:=hlive;refine cX.same ok hk (u:=.pointer (some ⟨b,i'*s'+(o+j.toNat*sz),none⟩)) ?_ (.aY _ _ _ _ _ b es hrow hn hρ);simp[Instr.indexAt,asIntOf,run_underlying ht,Instr.sureAddr,h0,hlt,cu hs,gJ,Nat.add_assoc]
 ·exact h.elim
theorem Ga(ok:Ok c){t e:TypeId}{sz n:Nat}{agg:Bool}{x i:bw}{ev:bw->V}{hf:Nat}{u ui:Value}(ht:P.underlying t=some (.array n e))(hs:nL P e sz)(ha:vU P e agg) (hr:b7 c u (ev x)) (hi:b7 c ui (ev i)) (h:bU (.idx sz n agg x i) ev c.rows hf K):cX c ((Instr.index t u ui).run P c.w) K:=by
 simp only[bU]at h;obtain⟨k,j,rfl,h2⟩:=mc hi h;clear h;have h:=h2;clear h2;split at h
 ·rename_i cs e1;rw[e1]at hr;obtain⟨h0,hlt,ma,h⟩:=h;cases hr with|agg vs _ hlen hrep=>
  have hm:j.toNat*sz+sz<=cs.length:=by have:(j.toNat+1)*sz<=n*sz:=Nat.mul_le_mul_right _ om;rw[Nat.succ_mul]at this;omega
  cases agg with
  |true=>refine cX.same ok h ?_ (nC (.agg vs cs hlen hrep) _ sz hm);simp[Instr.index,asIntOf,run_underlying ht,h0,hlt,cu hs,part,dQ ha]
  |false=>obtain⟨rfl,hk⟩:=h;have h1:cs[j.toNat]? =some (cs[j.toNat]'om):=ae _;have h2:vs[j.toNat]? =some (vs[j.toNat]'om):=Array.getElem?_eq_getElem _;refine cX.same ok (hk _ h1) ?_ (hrep _ _ _ h1 h2);simp[Instr.index,asIntOf,run_underlying ht,h0,hlt,cu hs,part,dQ ha,h2]
 ·exact h.elim
theorem Ep(ok:Ok c){t:TypeId}{x i:bw}{ev:bw->V}{hf:Nat}{u ui:Value}(ht:P.underlying t=some .string) (hr:b7 c u (ev x)) (hi:b7 c ui (ev i)) (h:bU (.iL x i) ev c.rows hf K):cX c ((Instr.index t u ui).run P c.w) K:=by
 simp only[bU]at h;obtain⟨k,j,rfl,h2⟩:=mc hi h;clear h;have h:=h2;clear h2;split at h
 ·rename_i s e1;rw[e1]at hr;obtain⟨h0,hlt,hk⟩:=h;have:=iw hr;subst this;have h1:s[j.toNat]? =some (s[j.toNat]'om):=ae _;refine cX.same ok (hk _ h1) ?_ (cP _ _);have hg:(⟨s.toArray⟩:ByteArray)[j.toNat]? =some (s[j.toNat]'om):=by rw[getElem?_pos (⟨s.toArray⟩:ByteArray) j.toNat (by simp[ByteArray.size];omega)];rfl
  simp[Instr.index,asIntOf,run_underlying ht,h0,hg]
 ·exact h.elim
theorem HS(ok:Ok c){x:bw}{n:Nat}{ev:bw->V}{hf:Nat}{u:Value}(hr:b7 c u (ev x))(h:bU (.ext x n) ev c.rows hf K):cX c ((Instr.extract u n).run P c.w) K:=by
 simp only[bU]at h;split at h
 ·rename_i vs e1;rw[e1]at hr;obtain⟨hlt,hk⟩:=h;cases hr with|cm us _ hlen hrep=>
  have h1:vs[n]? =some (vs[n]'hlt):=ae _;have h2:us[n]? =some (us[n]'om):=Array.getElem?_eq_getElem _;refine cX.same ok (hk _ h1) ?_ (hrep _ _ _ h1 h2);simp[Instr.extract,h2]
 ·exact h.elim
theorem Ma(ok:Ok c){t:Array TypeId}{ty:TypeId}{x y:bw}{ev:bw->V}{hf:Nat}{ux uy:Value}(hx:b7 c ux (ev x))(hy:b7 c uy (ev y))(h:bU (.mn x y) ev c.rows hf K):cX c ((Builtin.min_ t ty #[ux,uy]).run P c.w) K:=by
 simp only[bU]at h;split at h
 ·rename_i k a k' b e1 e2;rw[e1]at hx;rw[e2]at hy;have ex:=dw hx;have ey:=dw hy;subst ex ey;refine cX.same ok h ?_ (cP _ _);simp[Builtin.min_,Builtin.min2]
 ·exact h.elim
theorem Ku(ok:Ok c){t:Array TypeId}{ty:TypeId}{x y:bw}{ev:bw->V}{hf:Nat}{ux uy:Value}(hx:b7 c ux (ev x))(hy:b7 c uy (ev y))(h:bU (.mx x y) ev c.rows hf K):cX c ((Builtin.max_ t ty #[ux,uy]).run P c.w) K:=by
 simp only[bU]at h;split at h
 ·rename_i k a k' b e1 e2;rw[e1]at hx;rw[e2]at hy;have ex:=dw hx;have ey:=dw hy;subst ex ey;refine cX.same ok h ?_ (cP _ _);simp[Builtin.max_,Builtin.max2]
 ·exact h.elim
end
section
variable{P:Program}{c:Cx}{K:V->List (Nat×bd)->Prop}
def uf(c:Cx)(ev:bw->V):Option bw->Option Value->Prop
 |none,none=>True
 |some x,some u=>b7 c u (ev x)
 |_,_=>False
theorem mD{ev:bw->V}{o:Option bw}{o':Option Value}{d:Int}{K':Int->Prop}(hb:uf c ev o o')(h:jT ev o d K'):∃n,K' n/\((o'=none/\n=d)\/∃k,o'=some (.int k n)):=by
 unfold jT at h;cases o with
 |none=>
  cases o' with
  |none=>exact⟨d,h,.inl ⟨rfl,rfl⟩⟩
  |some u=>exact hb.elim
 |some x=>
  cases o' with
  |none=>exact hb.elim
  |some u=>obtain⟨k,n,rfl,h⟩:=mc hb h;exact⟨n,h,.inr ⟨k,rfl⟩⟩
theorem qV{w:World}{isS:Bool}{len cap:Nat}{lo hi:Option Value}{l h:Int}(hlo:(lo=none/\l=0)\/∃k,lo=some (.int k l)) (hhi:(hi=none/\h=len)\/∃k,hi=some (.int k h)) (h0:0<=l) (hlh:l<=h) (hc:h<=cap):(Instr.sliceBounds isS len cap lo hi none).run P w=.ok (l.toNat,h.toNat,cap) w:=by
 have h2:0<=h:=om;have h3:((h.toNat:Nat):Int)=h:=om;rcases hlo with⟨rfl,rfl⟩|⟨k,rfl⟩<;>rcases hhi with⟨rfl,rfl⟩|⟨k',rfl⟩
 ·simp[Instr.sliceBounds]
 ·simp[Instr.sliceBounds,Instr.sliceBound,asIntOf,h2,hc]
 ·simp[Instr.sliceBounds,Instr.sliceBound,asIntOf,h0,hlh]
 ·simp[Instr.sliceBounds,Instr.sliceBound,asIntOf,h2,hc,h0,h3,hlh]
theorem pU(s:List UInt8)(l h:Nat):(⟨s.toArray⟩:ByteArray).extract l h=⟨((s.take h).drop l).toArray⟩:=by apply ByteArray.ext;apply Array.ext';rw[Lib.extract_data];simp[List.drop_take]
theorem oo(s:List UInt8):(⟨s.toArray⟩:ByteArray).size=s.length:=by simp[<-ByteArray.size_data]
theorem s7(ok:Ok c){t e:TypeId}{sz:Nat}{x:bw}{lo hi:Option bw}{ev:bw->V}{hf:Nat}{u:Value}{lo' hi':Option Value}(ht:if sz=0 then P.underlying t=some .string else P.underlying t=some (.slice e))(hs:sz≠0->nL P e sz) (hr:b7 c u (ev x)) (hl:uf c ev lo lo') (hh:uf c ev hi hi') (h:bU (.slice sz x lo hi) ev c.rows hf K):cX c ((Instr.sliceAt t u lo' hi' none).run P c.w) K:=by
 simp only[bU]at h;have fin:∀(a:Option Addr) (len cap:Nat) (l r:Int),sz≠0->((lo'=none/\l=0)\/∃k,lo'=some (.int k l))->((hi'=none/\r=len)\/∃k,hi'=some (.int k r))->0<=l->l<=r->r<=cap->(Instr.sliceAt t (.slice a len cap) lo' hi' none).run P c.w=.ok (.slice (if cap=l.toNat then a else a.map (·.add (l.toNat*sz))) (r.toNat-l.toNat) (cap-l.toNat)) c.w:=by intro a len cap l r gW el er h0 h1 h2;rw[if_neg gW]at ht;have hs:=hs gW;have hb:=qV (P:=P) (w:=c.w) (isS:=true) (len:=len) (cap:=cap) el er h0 h1 h2;simp[Instr.sliceAt,run_underlying ht,Instr.slice,hb,cu hs]
 split at h
 ·rename_i e1;rw[e1]at hr;have:=fx hr;subst this;obtain⟨gW,h⟩:=h;obtain⟨l,h,el⟩:=mD hl h;obtain⟨r,h,er⟩:=mD hh h;obtain⟨rfl,rfl,hk⟩:=h;refine cX.same ok hk ?_ (.d _ _ .bm);rw[fin none 0 0 0 0 gW el er om om om];simp
 ·rename_i s es e1;rw[e1]at hr;obtain⟨gW,rfl,h⟩:=h;obtain⟨l,h,el⟩:=mD hl h;obtain⟨r,h,er⟩:=mD hh h;obtain⟨h0,h1,h2,hk⟩:=h;cases hr with|d _ _ hr=>
  generalize hes:es=es' at*;cases hr with
  |lT=>subst hes;simp at h2;have:l=0:=om;have:r=0:=om;subst l r;refine cX.same ok hk ?_ (.d _ _ (.lT _));rw[fin none 0 0 0 0 gW el (by simpa using er) om om om];simp
  |kK _ a cap=>
   subst hes;simp at h2;have:l=0:=om;have:r=0:=om;subst l r;refine cX.same ok hk (u:=.slice (if cap=0 then some a else some (a.add (0*s))) 0 cap) ?_ ?_
   ·rw[fin (some a) 0 cap 0 0 gW el (by simpa using er) om om om];simp
   ·split<;>exact .d _ _ (.kK _ _ _)
  |sl _ _ b off cap uu hcap hI hsz hcell hrep=>
   have hlen:((es'.take r.toNat).drop l.toNat).length=r.toNat-l.toNat:=by simp;omega
   by_cases ma:cap=l.toNat
   ·have hz:(es'.take r.toNat).drop l.toNat=[]:=aQ om;have hz2:r.toNat-l.toNat=0:=om;rw[hz]at hk;refine cX.same ok hk (u:=.slice (some ⟨b,off,none⟩) 0 (cap-l.toNat)) ?_ (.d _ _ (.kK _ _ _));rw[fin _ _ _ l r gW el er h0 h1 om,if_pos ma,hz2]
   ·refine cX.same ok hk (u:=.slice (some ⟨b,off+l.toNat*s,none⟩) ((es'.take r.toNat).drop l.toNat).length (cap-l.toNat)) ?_ ?_
    ·rw[fin _ _ _ l r gW el er h0 h1 om,if_neg ma,hlen];simp[gJ]
    ·have hget:∀i e',((es'.take r.toNat).drop l.toNat)[i]? =some e'->es'[l.toNat+i]? =some e':=fun i e' h=>by
      rw[List.getElem?_drop,List.getElem?_take]at h;split at h
      ·exact h
      ·cases h
     refine .d _ _ (.sl s _ b _ _ (fun i j=>uu (l.toNat+i) j) om hI (fun e' he=>hsz e' (List.mem_of_mem_take (List.mem_of_mem_drop he))) (fun i e' j v h3 h4=>?_) (fun i e' j v h3 h4=>hrep _ _ _ _ (hget i e' h3) h4));have:=hcell _ _ _ _ (hget i e' h3) h4;rw[Nat.add_mul]at this;rw[<-this];congr 2;omega
 ·rename_i s e1;rw[e1]at hr;obtain⟨gW,h⟩:=h;rw[if_pos gW]at ht;have:=iw hr;subst this;obtain⟨l,h,el⟩:=mD hl h;obtain⟨r,h,eh⟩:=mD hh h;obtain⟨h0,h1,h2,hk⟩:=h;refine cX.same ok hk ?_ (uW _);have hb:=qV (P:=P) (w:=c.w) (isS:=false) (len:=s.length) (cap:=s.length) el eh h0 h1 om;simp[Instr.sliceAt,run_underlying ht,Instr.slice,oo,hb,pU]
 ·rename_i s hh' n off len e1;rw[e1]at hr;obtain⟨gW,rfl,hlive,h⟩:=h;obtain⟨l,h,el⟩:=mD hl h;obtain⟨r,h,er⟩:=mD hh h;obtain⟨h0,h1,h2,hk⟩:=h;rcases gQ hr hlive with⟨rfl,rfl,rfl,rfl,hρ⟩|⟨cap,b,o,arr,ty,fz,rfl,hρ,hb,ho,hcap,hlc,hlen⟩
  ·have:l=0:=om;have:r=0:=om;subst l r;obtain⟨es,hrow,hn⟩:=hlive;have hes:es=[]:=aQ hn;subst hes;refine cX.same ok hk ?_ (.c8 _ _ hrow hρ);rw[fin none 0 0 0 0 gW el (by simpa using er) om om om];simp
  ·obtain⟨es,hrow,hn⟩:=hlive;refine cX.same ok hk (u:=.slice (some ⟨b,if cap=l.toNat then o else o+l.toNat*s,none⟩) (r.toNat-l.toNat) (cap-l.toNat)) ?_ ?_
   ·rw[fin _ _ _ l r gW el er h0 h1 om];split<;>simp[gJ]
   ·refine .cl _ _ _ _ _ _ b _ es arr ty fz hrow hn hρ hb ?_ ?_ om om
    ·by_cases ma:cap=l.toNat
     ·exact .inr om
     ·rw[if_neg ma];refine .inl ?_;rw[ho.resolve_right om,Nat.add_mul]
    ·rw[show off+l.toNat+(cap-l.toNat)=off+cap by omega];exact hcap
 ·exact h.elim
theorem zE(ok:Ok c){t ty:TypeId}{str:Bool}{x:bw}{ev:bw->V}{hf:Nat}{u:Value}(ht:if str then P.underlying t=some .string else∃e,P.underlying t=some (.slice e)) (hr:b7 c u (ev x)) (h:bU (.len str x) ev c.rows hf K):cX c ((Builtin.len_ #[t] ty #[u]).run P c.w) K:=by
 simp only[bU]at h;have fin:∀(a:Option Addr) (n cap:Nat),str=false->(Builtin.len_ #[t] ty #[.slice a n cap]).run P c.w=.ok (.int .i64 n) c.w:=by intro a n cap hs;rw[hs]at ht;obtain⟨e,he⟩:=ht;simp[Builtin.len_,run_underlying he,goInt]
 split at h
 ·rename_i e1;rw[e1]at hr;have:=fx hr;subst this;exact cX.same ok h (fin _ _ _ rfl) (cP _ _)
 ·rename_i s es e1;rw[e1]at hr;cases hr with|d _ _ hr=>
  generalize hes:es=es' at*;cases hr with
  |lT=>subst hes;exact cX.same ok h (by simpa using fin none 0 0 rfl) (cP _ _)
  |kK _ a cap=>subst hes;exact cX.same ok h (by simpa using fin (some a) 0 cap rfl) (cP _ _)
  |sl _ _ b off cap uu hcap hI hsz hcell hrep=>exact cX.same ok h (fin _ _ _ rfl) (cP _ _)
 ·rename_i s e1;rw[e1]at hr;have:=iw hr;subst this;simp only[if_true]at ht;refine cX.same ok h ?_ (cP _ _);simp[Builtin.len_,run_underlying ht,goInt,oo]
 ·rename_i s hh n off len e1;rw[e1]at hr;obtain⟨hlive,hk⟩:=h;rcases gQ hr hlive with⟨rfl,rfl,rfl,rfl,_⟩|⟨cap,b,o,arr,ty,fz,rfl,hρ,hb,ho,hcap,hlc,hlen⟩
  ·exact cX.same ok hk (fin _ _ _ rfl) (cP _ _)
  ·exact cX.same ok hk (fin _ _ _ rfl) (cP _ _)
 ·exact h.elim
end
section
variable{P:Program}{c:Cx}{K:V->List (Nat×bd)->Prop}
theorem rQ{m n sz:Nat}(h:m<n*sz):m/sz<n/\m%sz<sz:=by
 have hpos:0<sz:=by rcases Nat.eq_zero_or_pos sz with h0|h0<;>simp_all
 exact⟨(Nat.div_lt_iff_lt_mul hpos).2 h,Nat.mod_lt _ hpos⟩
theorem vD{i j sz:Nat}(h:j<sz):(i*sz+j)/sz=i/\(i*sz+j)%sz=j:=by have hpos:0<sz:=om;rw[Nat.mul_comm i sz];exact⟨by rw[Nat.mul_add_div hpos,Nat.div_eq_of_lt h,Nat.add_zero],by rw[Nat.mul_add_mod,Nat.mod_eq_of_lt h]⟩
def Src(P:Program)(c:Cx)(sz:Nat)(u:Value)(es:List (List V))(fl:List Value):Prop:=fl.length=es.length*sz/\fC c sz es fl.toArray/\(Builtin.lenOf u).run P c.w=.ok es.length c.w/\∀w',(∀b o,b<c.w.heap.size->w'.cell? ⟨b,o,none⟩=c.w.cell? ⟨b,o,none⟩)->∀n,n<=es.length->(Builtin.firstCells sz n u).run P w'=.ok (fl.take (n*sz)).toArray w'
theorem GI{w:World}{b o:Nat}{v:Value}(h:w.cell? ⟨b,o,none⟩=some v):b<w.heap.size:=World.block_lt_of_cell? w _ h
theorem mB{α:Type}(f:Nat->α)(m k:Nat)(h:k<=m):((List.range m).map f).take k=(List.range k).map f:=by rw[<-List.map_take,List.take_range,Nat.min_eq_left h]
theorem uo(ok:Ok c){sz:Nat}{u:Value}{v:V}{K':List (List V)->Prop}(hr:b7 c u v)(h:eF c.rows sz v K'):∃es fl,K' es/\Src P c sz u es fl:=by
 unfold eF at h;split at h
 ·have:=fx hr;subst this;exact⟨[],[],h,sm,⟨sm,sm,sm⟩,by simp[Builtin.lenOf],fun w' _ n hn=>by simp[Builtin.firstCells]⟩
 ·rename_i s es;obtain⟨rfl,hk⟩:=h;cases hr with|d _ _ hr=>
  refine⟨es.map (·.map .d),?_⟩;generalize hes:es=es' at*;cases hr with
  |lT=>subst hes;exact⟨[],hk,sm,⟨sm,sm,sm⟩,by simp[Builtin.lenOf],fun w' _ n hn=>by simp[Builtin.firstCells]⟩
  |kK _ a cap=>
   subst hes;refine⟨[],hk,sm,⟨sm,sm,sm⟩,by simp[Builtin.lenOf],fun w' _ n hn=>?_⟩;have hn0:n=0:=by simpa using hn
   subst hn0;simp[Builtin.firstCells,loadCells,loadCellsFrom]
  |sl _ _ b off cap uu hcap hI hsz hcell hrep=>
   have hel:∀m,m<es'.length*s->∃e v,es'[m/s]? =some e/\e[m%s]? =some v:=fun m hm=>by obtain⟨h1,h2⟩:=rQ hm;have h3:es'[m/s]? =some (es'[m/s]'h1):=ae h1;have h4:=hsz _ (af h3);exact⟨_,_,h3,ae om⟩
   refine⟨(List.range (es'.length*s)).map (fun m=>uu (m/s) (m%s)),hk,sm,⟨?_,sm,?_⟩,by simp[Builtin.lenOf],?_⟩
   ·intro e he;obtain⟨e',he',rfl⟩:=aw.1 he;exact⟨by simpa using hsz e' he',pC e'⟩
   ·intro i e j v h1 h2;simp only[ar]at h1;obtain⟨e',he',rfl⟩:=aa.1 h1;simp only[ar]at h2;obtain⟨d,hd,rfl⟩:=aa.1 h2;have hj:j<s:=by have:=(ad.1 hd).1;have:=hsz _ (af he');omega
    have hi:i<es'.length:=(ad.1 he').1;have hlt:=fJ (sz:=s) hi hj;refine⟨uu i j,?_,.d _ _ (hrep i e' j d he' hd)⟩;simp[hlt,(vD hj).1,(vD hj).2]
   ·intro w' hw' n hn;rw[an]at hn;rw[mB _ _ _ (Nat.mul_le_mul_right _ hn)];refine iJ b off (n*s) _ (fun m hm=>?_);have hm':m<es'.length*s:=Nat.lt_of_lt_of_le hm (Nat.mul_le_mul_right _ hn);obtain⟨e,v,h1,h2⟩:=hel m hm';have h3:=hcell _ _ _ _ h1 h2;have h4:m/s*s+m%s=m:=by rw[Nat.mul_comm];exact Nat.div_add_mod m s
    rw[h4]at h3;rw[hw' _ _ (GI h3),h3]
 ·rename_i s;obtain⟨rfl,hk⟩:=h;have:=iw hr;subst this;refine⟨_,s.map fun b=>.int .u8 b.toNat,hk,sm,⟨?_,sm,?_⟩,by simp[Builtin.lenOf,oo],?_⟩
  ·intro e he;obtain⟨b,_,rfl⟩:=aw.1 he;exact⟨rfl,by simp[fh]⟩
  ·intro i e j v h1 h2;simp only[ar]at h1;obtain⟨b,hb,rfl⟩:=aa.1 h1;cases j with
   |zero=>simp at h2;subst h2;exact⟨.int .u8 b.toNat,by simp[hb],cP _ _⟩
   |succ j=>simp at h2
  ·intro w' _ n hn;have:(⟨s.toArray⟩:ByteArray).extract 0 n=⟨(s.take n).toArray⟩:=by simpa using pU s 0 n
   simp[Builtin.firstCells,this]
 ·rename_i s hh n off len;obtain⟨rfl,hlive,hk⟩:=h;rcases gQ hr hlive with⟨rfl,rfl,rfl,rfl,hρ⟩|⟨cap,b,o,arr,ty,fz,rfl,hρ,hb,ho,hcap,hlc,hlen⟩
  ·obtain⟨es,hrow,hn⟩:=hlive;have hes:es=[]:=aQ hn;subst hes;refine⟨_,[],hk _ hrow,sm,⟨sm,sm,sm⟩,by simp[Builtin.lenOf],fun w' _ n hn=>?_⟩;simp[Builtin.firstCells]
  ·obtain⟨es,hrow,hn⟩:=hlive;obtain⟨arr',ty',fz',hb',hfz,hc⟩:=fj ok hrow hρ;rw[hb]at hb';injection hb' with hb';injection hb' with e1 e2 e3;subst e1 e2 e3
   have hll:((es.drop off).take len).length=len:=by simp;omega
   have hfit:(off+len)*s<=arr.size:=Nat.le_trans (Nat.mul_le_mul_right _ om) hc.2.1;rw[Nat.add_mul]at hfit;refine⟨_,(List.range (len*s)).map (fun m=>arr.getD (off*s+m) undef),hk _ hrow,by simp[hll],⟨?_,by rw[hll];simp,?_⟩,by rw[hll];simp[Builtin.lenOf],?_⟩
   ·intro e he;exact hc.1 e (List.mem_of_mem_drop (List.mem_of_mem_take he))
   ·intro i e j v h1 h2;have hi:i<len:=by have:=(ad.1 h1).1;omega
    rw[List.getElem?_take,if_pos hi,List.getElem?_drop]at h1;have hj:j<s:=by have:=(ad.1 h2).1;have:=(hc.1 _ (af h1)).1;omega
    have hlt:=fJ (sz:=s) hi hj;obtain⟨x,hx,hxr⟩:=hc.2.2 _ _ _ _ h1 h2;refine⟨x,?_,hxr⟩;rw[Nat.add_mul,Nat.add_assoc]at hx;simp[hlt,au,hx]
   ·intro w' hw' n hn;rw[hll]at hn;rw[mB _ _ _ (Nat.mul_le_mul_right _ hn)];refine iJ b o (n*s) _ (fun m hm=>?_);have hm':m<len*s:=Nat.lt_of_lt_of_le hm (Nat.mul_le_mul_right _ hn);have hcp:cap≠0:=by intro h0;have:len=0:=om;subst this;simp at hm'
    rw[ho.resolve_right hcp,hw' _ _ (Array.getElem?_eq_some_iff.1 hb).1,cell_of hb];simp[au,show off*s+m<arr.size by omega]
 ·exact h.elim
theorem jK{sz:Nat}{es xs:List (List V)}{A B:List Value}{rest:List Value}(hA:A.length=es.length*sz)(hB:B.length=xs.length*sz) (h1:fC c sz es A.toArray) (h2:fC c sz xs B.toArray):fC c sz (es++xs) (A++B++rest).toArray:=by
 refine⟨fun e he=>?_,by simp[hA,hB,Nat.add_mul],fun i e j v h3 h4=>?_⟩
 ·rcases aU.1 he with he|he
  ·exact h1.1 e he
  ·exact h2.1 e he
 ·rw[List.getElem?_append]at h3;split at h3
  ·rename_i hi;obtain⟨x,hx,hr⟩:=h1.2.2 i e j v h3 h4;have hj:j<sz:=by have:=(ad.1 h4).1;have:=(h1.1 _ (af h3)).1;omega
   have hlt:=fJ (sz:=sz) hi hj;refine⟨x,?_,hr⟩;simp only[List.getElem?_toArray]at hx|-;rw[List.append_assoc,aH om];exact hx
  ·rename_i hi;obtain⟨x,hx,hr⟩:=h2.2.2 _ e j v h3 h4;have hj:j<sz:=by have:=(ad.1 h4).1;have:=(h2.1 _ (af h3)).1;omega
   have hi2:i-es.length<xs.length:=(ad.1 h3).1;have hlt:=fJ (sz:=sz) hi2 hj;refine⟨x,?_,hr⟩;simp only[List.getElem?_toArray]at hx|-;have hge:es.length*sz<=i*sz:=Nat.mul_le_mul_right _ om;have heq:i*sz+j-A.length=(i-es.length)*sz+j:=by rw[hA,Nat.sub_mul];omega
   rw[List.append_assoc,aJ om,heq,aH om];exact hx
theorem ir{sz:Nat}{es:List (List V)}{arr:Array Value}(h:fC c sz es arr)(n:Nat)(hn:n<=es.length):fC c sz (es.take n) (arr.toList.take (n*sz)).toArray:=by
 have hm:n*sz<=es.length*sz:=Nat.mul_le_mul_right _ hn;have h0:=h.2.1;refine⟨fun e he=>h.1 e (List.mem_of_mem_take he),by simp;rw[Nat.min_eq_left hn];omega,fun i e j v h1 h2=>?_⟩;rw[List.getElem?_take]at h1;split at h1
 ·rename_i hi;obtain⟨x,hx,hr⟩:=h.2.2 i e j v h1 h2;have hj:j<sz:=by have:=(ad.1 h2).1;have:=(h.1 _ (af h1)).1;omega
  have hlt:=fJ (sz:=sz) hi hj;refine⟨x,?_,hr⟩;simp only[List.getElem?_toArray,List.getElem?_take,if_pos hlt];simpa using hx
 ·cases h1
theorem s8{sz:Nat}{es:List (List V)}{arr:Array Value}(h:fC c sz es arr)(n:Nat)(hn:n<=es.length):fC c sz (es.drop n) (arr.toList.drop (n*sz)).toArray:=by have hm:n*sz<=es.length*sz:=Nat.mul_le_mul_right _ hn;have h0:=h.2.1;refine⟨fun e he=>h.1 e (List.mem_of_mem_drop he),by simp[Nat.sub_mul];omega,fun i e j v h1 h2=>?_⟩;rw[List.getElem?_drop]at h1;obtain⟨x,hx,hr⟩:=h.2.2 _ e j v h1 h2;refine⟨x,?_,hr⟩;simp only[List.getElem?_toArray,List.getElem?_drop];rw[<-Nat.add_assoc,<-Nat.add_mul];simpa using hx
theorem gM{rows:Rows}{h:Nat}{r:bd}(hr:rows[h]? =some r):rows.set h r=rows:=by
 apply List.ext_getElem?;intro k;by_cases hk:h=k
 ·subst hk;obtain⟨h1,h2⟩:=ad.1 hr;simp[h1,h2]
 ·rw[List.getElem?_set_ne hk]
theorem run_append_grow{t t' ty e:TypeId}{sz bytes len cap m:Nat}{base:Option Addr}{x:Value}{old news:List Value}{w:World}{d:TypeDesc}{zero:List D} (ht:P.underlying t=some (.slice e)) (ht':P.underlying t'=some d) (hd:d=.string\/∃e',d=.slice e') (hi:∃i,P.info? e=some i/\i.size=sz/\i.bytes=bytes) (hz:iX P e zero) (hzl:zero.length=sz) (hb0:bytes≠0) (hlen:(Builtin.lenOf x).run P w=.ok m w) (hbytes:(len+m)*bytes<=bM) (hgrow:cap<len+m) (hold:(Builtin.firstCells sz len (.slice base len cap)).run P w.drew=.ok old.toArray w.drew) (hnew:(Builtin.firstCells sz m x).run P w.drew=.ok news.toArray w.drew):∃newCap zs w',(Builtin.append_ #[t,t'] ty #[.slice base len cap,x]).run P w=.ok (.slice (some ⟨w.heap.size,0,none⟩) (len+m) newCap) w'/\w'.heap=w.heap.push (.cells (old++news++zs).toArray e (0,0))/\w'.os=w.os/\w'.tape=w.tape/\w'.output=w.output/\len+m<=newCap/\zs.length=(newCap-(len+m))*sz:=by
 obtain⟨i,hi,hs,hby⟩:=hi;obtain⟨i',z,hi',hz1,hz2,hz3,_⟩:=hz;rw[hi]at hi';injection hi' with hi';subst hi'
 have hfit:=growslice_fits (need:=len+m) (old:=cap) (bytes:=bytes) hgrow hbytes;have hforce:(Question.appendCap (len+m) cap e).forced=false:=rfl;refine⟨(Question.appendCap (len+m) cap e).cut (w.tape w.drawn (.appendCap (len+m) cap e)),(Builtin.zeroCells z.cells ((Question.appendCap (len+m) cap e).cut (w.tape w.drawn (.appendCap (len+m) cap e))-(len+m))).toList,w.drew.alloc (.cells (old++news++(Builtin.zeroCells z.cells ((Question.appendCap (len+m) cap e).cut (w.tape w.drawn (.appendCap (len+m) cap e))-(len+m))).toList).toArray e),?_,rfl,rfl,rfl,rfl,?_,?_⟩
 ·have h1:¬(len+m<=cap):=om;have h2:¬(281474976710656<Builtin.nextslicecap (len+m) cap*bytes):=om;rcases hd with rfl|⟨e',rfl⟩
  ·simp[Builtin.append_,run_underlying ht,run_underlying ht',sizeOf,typeInfo,hi,hs,hby,hlen,h1,h2,hb0,hold,hnew,zeroValue,hz1,newRow,hforce];congr 2;apply Array.ext';simp
  ·simp[Builtin.append_,run_underlying ht,run_underlying ht',sizeOf,typeInfo,hi,hs,hby,hlen,h1,h2,hb0,hold,hnew,zeroValue,hz1,newRow,hforce];congr 2;apply Array.ext';simp
 ·simp only[Question.cut];omega
 ·simp[Builtin.zeroCells,hz3,hzl]
end
section
variable{P:Program}{c:Cx}{K:V->List (Nat×bd)->Prop}
theorem gr(rows:Rows)(h:Nat)(r:bd):bq rows [(h,r)]=rows.set h r:=rfl
theorem wS{sz:Nat}{u:Value}{es:List (List V)}{fl:List Value}(h:Src P c sz u es fl)(n:Nat)(hn:n<=es.length):(Builtin.firstCells sz n u).run P c.w.drew=.ok (fl.take (n*sz)).toArray c.w.drew:=h.2.2.2 c.w.drew (fun _ _ _=>rfl) n hn
theorem mA{sz:Nat}{es:List (List V)}{fl:List Value}(hl:fl.length=es.length*sz)(h:fC c sz es fl.toArray):∀v∈fl,v.oneCell'=true:=by
 intro v hv;obtain⟨m,hm,rfl⟩:=List.getElem_of_mem hv;rw[hl]at hm;obtain⟨h1,h2⟩:=rQ hm;have h3:es[m/sz]? =some (es[m/sz]'h1):=ae h1;obtain⟨h4,h5⟩:=h.1 _ (af h3);have h6:(es[m/sz]'h1)[m%sz]? =some ((es[m/sz]'h1)[m%sz]'om):=ae _;obtain⟨x,hx,hr⟩:=h.2.2 _ _ _ _ h3 h6;have h7:m/sz*sz+m%sz=m:=by rw[Nat.mul_comm];exact Nat.div_add_mod m sz
 rw[h7]at hx;simp only[List.getElem?_toArray]at hx;have:=(ad.1 hx).2;rw[this];exact hr.one (h5 _ (af h6))
theorem y5(ok:Ok c){t t' ty e:TypeId}{sz bytes:Nat}{s x:bw}{ev:bw->V}{hf:Nat}{us ux:Value}{d:TypeDesc}{zero:List D}(hu:c.rows[hf]? =some .un) (ht:P.underlying t=some (.slice e)) (ht':P.underlying t'=some d) (hd:d=.string\/∃e',d=.slice e') (hi:∃i,P.info? e=some i/\i.size=sz/\i.bytes=bytes) (hz:iX P e zero) (hzl:zero.length=sz) (hb0:bytes≠0) (hs0:sz≠0) (hrs:b7 c us (ev s)) (hrx:b7 c ux (ev x)) (h:bU (.append sz bytes s x) ev c.rows hf K):cX c ((Builtin.append_ #[t,t'] ty #[us,ux]).run P c.w) K:=by
 simp only[bU]at h;obtain⟨xs,fl,h,hsrc⟩:=uo (P:=P) ok hrx h;have hlt:hf<c.rows.length:=(ad.1 hu).1;have hflen:=hsrc.1;have hfull:fl.take (xs.length*sz)=fl:=al om;have hnew:=wS hsrc xs.length (aq _);rw[hfull]at hnew;have hnew0:=hsrc.2.2.2 c.w (fun _ _ _=>rfl) xs.length (aq _);rw[hfull]at hnew0;have hfits:∀(base:Option Addr) (len cap:Nat),len+xs.length<=cap->(Builtin.append_ #[t,t'] ty #[.slice base len cap,ux]).run P c.w=((match base with|some a=>storeCells (a.add (len*sz)) fl|none=>pure ()).run P c.w).andThen fun _ w'=>.ok (.slice base (len+xs.length) cap) w':=by
  intro base len cap hle;obtain⟨i,hi,hs,hby⟩:=hi;rcases hd with rfl|⟨e',rfl⟩<;>cases base<;>
   simp[Builtin.append_,run_underlying ht,run_underlying ht',sizeOf,typeInfo,hi,hs,hsrc.2.2.1,hle,hnew0]
 have fresh:∀(g:Nat) (base:Option Addr) (len cap:Nat) (es:List (List V)) (old:List Value),cap<len+xs.length->(len+xs.length)*bytes<=bM->(c.rows[g]? =some .un\/∃es0,c.rows[g]? =some (.live sz es0)/\es0.length<(es++xs).length)->es.length=len->old.length=es.length*sz->fC c sz es old.toArray->(Builtin.firstCells sz len (.slice base len cap)).run P c.w.drew=.ok old.toArray c.w.drew->K (.cl sz g (len+xs.length) 0 (len+xs.length)) [(g,.live sz (es++xs))]->cX c ((Builtin.append_ #[t,t'] ty #[.slice base len cap,ux]).run P c.w) K:=by
  intro g base len cap es old hgrow hby hg hel hol hco hold hk;obtain⟨newCap,zs,w',hrun,hheap,h1,h2,h3,h4,h5⟩:=run_append_grow (base:=base) (ty:=ty) (cap:=cap) (news:=fl) ht ht' hd hi hz hzl hb0 hsrc.2.2.1 hby hgrow hold hnew;have hc2:=jK (rest:=zs) hol hflen hco hsrc.2.1;have hal:=jI ok g sz (es++xs) (old++fl++zs).toArray e (0,0) hg (fun i _=>sm) hc2 w' hheap h1 h2 h3;have hglt:g<c.rows.length:=by rcases hg with hg|⟨_,hg,_⟩<;>exact(ad.1 hg).1
  refine⟨_,_,_,_,hk,hrun,hal.1,hal.2,rfl,?_⟩;refine .cl _ _ _ _ _ newCap c.w.heap.size 0 (es++xs) (old++fl++zs).toArray e (0,0) (by simp[hglt]) (by simp[hel]) sm (by rw[hheap];simp) (.inl sm) ?_ h4 om;simp only[Nat.zero_add,List.size_toArray,az,hol,hflen,h5,hel];rw[<-Nat.add_mul,<-Nat.add_mul,Nat.add_sub_cancel' h4];exact aq _
 split at h
 ·rename_i e1;rw[e1]at hrs;have:=fx hrs;subst this;obtain⟨hby,hk⟩:=h;by_cases hx0:xs=[]
  ·subst hx0;have hv:=qy ok hf sz hu;refine⟨_,_,.slice none 0 0,_,hk,?_,hv.1,hv.2,rfl,?_⟩
   ·rw[hfits none 0 0 sm];simp
   ·exact .c8 _ _ (by simp[hlt]) (ok.mi (by simp[hu]))
  ·have hpos:0<xs.length:=List.length_pos_iff.2 hx0;exact fresh hf none 0 0 [] [] om (by simpa using hby) (.inl hu) rfl sm ⟨sm,sm,sm⟩ (by simp[Builtin.firstCells]) (by simpa using hk)
 ·rename_i s0 es0 e1;rw[e1]at hrs;obtain⟨rfl,hne,hby,hk⟩:=h;cases hrs with|d _ _ hrs=>
  cases hrs with|BZ _ _ _ hr2 hc2=>
  obtain⟨a,n,rfl⟩:=hc2;obtain⟨es',fl',hes,hs2⟩:=uo (P:=P) (c:=c) (v:=.d (.sl s0 es0)) (K':=fun e=>e=es0.map (·.map .d)) ok (.d _ _ hr2) ⟨rfl,rfl⟩;subst hes;have hnl:n=es0.length:=by have:=hs2.2.2.1;simpa[Builtin.lenOf]using this
  have hpos:0<xs.length:=List.length_pos_iff.2 hne;have hfc:=wS hs2 n (by simp[hnl]);rw[al (by rw[hs2.1];simp[hnl])]at hfc;refine fresh hf a n n (es0.map (·.map .d)) fl' om (by rw[hnl];exact hby) (.inl hu) (by simp[hnl]) hs2.1 hs2.2.1 hfc ?_;rw[hnl];exact hk
 ·rename_i s' g n off len e1;rw[e1]at hrs;obtain⟨rfl,rfl,rfl,hlive,hby,hk⟩:=h;rcases gQ hrs hlive with⟨rfl,rfl,-,-,hρ⟩|⟨cap,b,o,arr,ty',fz,rfl,hρ,hb,ho,hcap,hlc,hlen⟩
  ·obtain⟨es,hrow,hn⟩:=hlive;have hes:es=[]:=aQ hn;subst hes;by_cases hx0:xs=[]
   ·subst hx0;refine⟨_,_,.slice none 0 0,c,hk _ hrow,?_,ok,.refl c,?_,?_⟩
    ·rw[hfits none 0 0 sm];simp
    ·simp[gr,gM hrow]
    ·exact .c8 _ _ hrow hρ
   ·have hpos:0<xs.length:=List.length_pos_iff.2 hx0;exact fresh g none 0 0 [] [] om (by simpa using hby) (.inr ⟨[],hrow,by simpa using hpos⟩) rfl sm ⟨sm,sm,sm⟩ (by simp[Builtin.firstCells]) (by simpa using hk _ hrow)
  ·obtain⟨es,hrow,hn⟩:=hlive;obtain⟨arr',ty2,fz',hb',hfz,hc⟩:=fj ok hrow hρ;rw[hb]at hb';injection hb' with hb';injection hb' with e1 e2 e3;subst e1 e2 e3
   have hk:=hk _ hrow;simp only[Nat.zero_add]at hcap;by_cases hle:len+xs.length<=cap
   ·have hone:=mA hflen hsrc.2.1;have hcz:cap≠0\/(len=0/\xs=[]):=by
     by_cases h0:cap=0
     ·exact .inr ⟨om,aQ om⟩
     ·exact .inl h0
    have hfit2:len*s'+fl.length<=arr.size:=by have:(len+xs.length)*s'<=cap*s':=Nat.mul_le_mul_right _ hle;rw[Nat.add_mul]at this;omega
    have hes:es.length=len:=hn;have hco:fC c s' (es++xs) (arr.toList.take (len*s')++fl++arr.toList.drop (len*s'+fl.length)).toArray:=by
     refine jK ?_ hflen ?_ hsrc.2.1
     ·have hh:=hc.2.1;rw[hes]at hh|-;rw[List.length_take,Nat.min_eq_left (by simpa using hh)]
     ·have:=ir hc es.length (aq _);rw[List.take_length,hes]at this;exact this
    have hup:=vM ok g b s' es (es++xs) arr _ ty' fz hrow hρ hb hfz so sm hco;rcases hcz with hcz|⟨rfl,rfl⟩
    ·have ho':=ho.resolve_right hcz;simp only[Nat.zero_mul]at ho';subst ho';have hst:=dZ (P:=P) b (len*s') ty' fz fl 0 arr c.w hb hfz om hone;simp only[Nat.add_zero]at hst;refine⟨_,_,.slice (some ⟨b,0,none⟩) (len+xs.length) cap,_,hk,?_,hup.1,hup.2,rfl,?_⟩
     ·rw[hfits _ _ _ hle];simp[gJ,hst]
     ·have hglt:g<c.rows.length:=(ad.1 hrow).1;refine .cl _ _ _ _ _ cap b 0 (es++xs) _ ty' fz (by simp[hglt]) (by simp[hes]) hρ (setRow_heap _ _ _ _ _ _ hb) (.inl sm) ?_ hle om;simp only[Nat.zero_add,List.size_toArray];rw[hH _ _ _ (by simpa using hfit2)];simpa using hcap
    ·simp only[List.append_nil]at hk;have hfl:fl=[]:=aQ (by simpa using hflen);subst hfl;refine⟨_,_,.slice (some ⟨b,o,none⟩) 0 cap,c,hk,?_,ok,.refl c,?_,?_⟩
     ·rw[hfits _ _ _ hle];simp[storeCells]
     ·simp[gr,gM hrow]
     ·exact .cl _ _ _ _ _ cap b o es arr ty' fz hrow hn hρ hb ho (by simpa using hcap) hlc hlen
   ·have ma:len<=cap:=hlc;have hes:es.length=len:=hn;refine fresh g (some ⟨b,o,none⟩) len cap es (arr.toList.take (len*s')) om hby (.inr ⟨es,hrow,by simp;omega⟩) hes ?_ ?_ ?_ hk
    ·have hh:=hc.2.1;rw[hes]at hh|-;rw[List.length_take,Nat.min_eq_left (by simpa using hh)]
    ·have:=ir hc es.length (aq _);rw[List.take_length,hes]at this;exact this
    ·have h0:=hc.2.1;rw[hes]at h0;have hl:=iJ (P:=P) (w:=c.w.drew) b o (len*s') (fun m=>arr.getD m undef) (fun m hm=>by
      have hcz:cap≠0:=by intro hz;have:len=0:=om;subst this;simp at hm
      have ho':=ho.resolve_right hcz;simp only[Nat.zero_mul]at ho';subst ho';rw[World.cell?_drew,cell_of hb];simp[au,show m<arr.size by omega])
     simp only[Builtin.firstCells,hl];congr 2;apply List.ext_getElem?;intro m;by_cases hm:m<len*s'
     ·simp[hm,au,show m<arr.size by omega]
     ·rw[aA so,aA so]
 ·exact h.elim
end
section
variable{P:Program}{c:Cx}{K:V->List (Nat×bd)->Prop}
theorem kp(off:Nat):∀(l:List Value) (k:Nat) (cells:Array Value) (m:Nat),((l.zipIdx k).foldl (fun(cs:Array Value) (x:Value×Nat)=>cs.setIfInBounds (off+x.2) x.1) cells)[m]? =if off+k<=m/\m<off+k+l.length/\m<cells.size then l[m-(off+k)]? else cells[m]?
 |[],k,cells,m=>by simp;intro h1 h2;omega
 |v::l,k,cells,m=>by
  simp only[List.zipIdx_cons,List.foldl_cons];rw[kp off l (k+1)];simp only[Array.size_setIfInBounds,List.length_cons];by_cases h1:m=off+k
  ·subst h1;rw[if_neg om];by_cases h2:off+k<cells.size
   ·rw[if_pos om];simp[h2]
   ·rw[if_neg om];simp[h2]
  ·by_cases h2:off+(k+1)<=m/\m<off+(k+1)+l.length/\m<cells.size
   ·rw[if_pos h2,if_pos om,show m-(off+k)=(m-(off+(k+1)))+1 by omega];rfl
   ·rw[if_neg h2,if_neg om];rw[Array.getElem?_setIfInBounds_ne om]
theorem nG(off:Nat)(v:Value)(cells:Array Value):v.cells.zipIdx.foldl (fun cs (x:Value×Nat)=>cs.setIfInBounds (off+x.2) x.1) cells=(v.cells.toList.zipIdx).foldl (fun(cs:Array Value) (x:Value×Nat)=>cs.setIfInBounds (off+x.2) x.1) cells:=by rw[<-Array.foldl_toList,Array.toList_zipIdx]
theorem jv(off:Nat):∀(l:List Value) (k:Nat) (cells:Array Value),((l.zipIdx k).foldl (fun(cs:Array Value) (x:Value×Nat)=>cs.setIfInBounds (off+x.2) x.1) cells).size=cells.size
 |[],k,cells=>rfl
 |v::l,k,cells=>by simp only[List.zipIdx_cons,List.foldl_cons];rw[jv];simp
theorem A7{cells:Array Value}{vs:List V}(h:dX c cells.toList vs){off:Nat}{us:List Value}{cs:List V}(hl:dX c us cs)(hfit:off+cs.length<=vs.length):dX c ((us.zipIdx).foldl (fun(a:Array Value) (x:Value×Nat)=>a.setIfInBounds (off+x.2) x.1) cells).toList (mo vs off cs):=by
 have hlen:(mo vs off cs).length=vs.length:=hH vs cs off hfit;have hcs:cells.size=vs.length:=by have:=h.1;simpa using this
 refine⟨by rw[hlen,Array.length_toList,jv,hcs],fun j v x h1 h2=>?_⟩;rw[Array.getElem?_toList,kp]at h2;simp only[mo]at h1;rw[lp vs cs off j hfit]at h1;simp only[Nat.add_zero,hl.1,hcs]at h2;by_cases h3:j<off
 ·rw[if_pos h3]at h1;rw[if_neg om]at h2;exact h.2 j v x h1 (by simpa using h2)
 ·rw[if_neg h3]at h1;by_cases h4:j<off+cs.length
  ·rw[if_pos h4]at h1;rw[if_pos om]at h2;exact hl.2 _ v x h1 h2
  ·rw[if_neg h4]at h1;rw[if_neg om]at h2;exact h.2 j v x h1 (by simpa using h2)
theorem nR{ev:bw->V}{place:Nat->Option (Nat×Nat)}:∀(ps:List (Nat×Nat×bw)) (ps':List (Nat×Value)) (cells:Array Value) (vs:List V) (K':List V->Prop),dX c cells.toList vs->ps.length=ps'.length->(∀(k:Nat) (p:Nat×Nat×bw) (p':Nat×Value),ps[k]? =some p->ps'[k]? =some p'->place p'.1=some (p.1,p.2.1)/\b7 c p'.2 (ev p.2.2))->iW ev ps vs K'->∃cells' vs',Instr.fill place cells ps'=some cells'/\dX c cells'.toList vs'/\K' vs'
 |[],ps',cells,vs,K',h,hl,_,hk=>by have:ps'=[]:=aQ (by simpa using hl.symm);subst this;exact⟨cells,vs,rfl,h,hk⟩
 |(off,sz,x)::ps,ps',cells,vs,K',h,hl,hp,hk=>by
  cases ps' with
  |nil=>simp at hl
  |cons p' ps'=>
   obtain⟨i,u⟩:=p';obtain⟨hpl,hr⟩:=hp 0 _ _ rfl rfl;simp only at hpl hr;obtain⟨hfit,hk⟩:=hk;obtain⟨cs,ma,ho,hrl,hk⟩:=oH hr hk;have hcs:cells.size=vs.length:=by have:=h.1;simpa using this
   have hus:u.cells.size=sz:=by have:=hrl.1;simp at this;omega
   obtain⟨cells',vs',e1,e2,e3⟩:=nR ps ps' _ _ K' (A7 h hrl om) (by simpa using hl) (fun k p p' h1 h2=>hp (k+1) p p' (by simpa using h1) (by simpa using h2)) hk;refine⟨cells',vs',?_,e2,e3⟩;simp only[Instr.fill,hpl];have hcond:¬((decide (u.cells.size≠sz)||decide (off+u.cells.size>cells.size))=true):=by simp;omega
   rw[if_neg hcond,nG];exact e1
theorem run_places{w:World}(f:Field->Nat):∀(l:List Field),(∀x∈l,nL P x.type (f x))->(l.mapM fun x=>(do pure (x.offset,<-sizeOf x.type):Sem (Nat×Nat))).run P w=.ok (l.map fun x=>(x.offset,f x)) w
 |[],_=>rfl
 |x::l,h=>by have h1:=cu (h x sm) w;have ih:=run_places (w:=w) f l (fun y hy=>h y (by simp[hy]));simp only[bind_pure_comp]at ih;simp[List.mapM_cons,h1,ih]
theorem Bi(ok:Ok c){t:TypeId}{zero:List D}{ps:List (Nat×Nat×bw)}{ps':Array (Nat×Value)}{ev:bw->V}{hf:Nat}{fs:Array Field}{f:Field->Nat}(ht:P.underlying t=some (.struct fs))(hz:iX P t zero) (hfs:∀x∈fs.toList,nL P x.type (f x)) (hlen:ps.length=ps'.size) (hp:∀(k:Nat) (p:Nat×Nat×bw) (p':Nat×Value),ps[k]? =some p->ps'[k]? =some p'->(∃x,fs[p'.1]? =some x/\p.1=x.offset/\p.2.1=f x)/\b7 c p'.2 (ev p.2.2)) (h:bU (.build zero ps) ev c.rows hf K):cX c ((Instr.build t ps').run P c.w) K:=by
 simp only[bU]at h;obtain⟨i,z,hi,hz1,hz2,hz3,hz4⟩:=hz;have h0:dX c z.cells.toList (zero.map .d):=pK (by simpa using hz3) (fun j v x h1 h2=>hz4 j v x h1 (by simpa using h2));obtain⟨cells',vs',e1,e2,e3⟩:=nR (place:=fun k=>(fs.map fun x=>(x.offset,f x))[k]?) ps ps'.toList z.cells _ _ h0 (by simpa using hlen) (fun k p p' h1 h2=>by obtain⟨⟨x,hx,h3,h4⟩,h5⟩:=hp k p p' h1 (by simpa using h2);exact⟨by simp[hx,h3,h4],h5⟩) h;refine cX.same ok e3 (u:=.agg cells') ?_ (.agg _ _ (by simpa using e2.1) (fun j v x h1 h2=>e2.2 j v x h1 (by simpa using h2)));have hm:(fs.mapM fun x=>(do pure (x.offset,<-sizeOf x.type):Sem (Nat×Nat))).run P c.w=.ok (fs.map fun x=>(x.offset,f x)) c.w:=by rw[Array.mapM_eq_mapM_toList];have:=run_places (P:=P) (w:=c.w) f fs.toList hfs;simp only[bind_pure_comp]at this;simp[this];apply Array.ext';simp
 simp only[bind_pure_comp]at hm;simp only[Array.getElem?_map]at e1;simp[Instr.build,zeroValue,typeInfo,hi,hz1,run_underlying ht,hm,e1]
theorem yZ(ok:Ok c){t e:TypeId}{n sz:Nat}{zero:List D}{ps:List (Nat×Nat×bw)}{ps':Array (Nat×Value)}{ev:bw->V}{hf:Nat}(ht:P.underlying t=some (.array n e))(hz:iX P t zero) (hs:nL P e sz) (hlen:ps.length=ps'.size) (hp:∀(k:Nat) (p:Nat×Nat×bw) (p':Nat×Value),ps[k]? =some p->ps'[k]? =some p'->(p.1=p'.1*sz/\p.2.1=sz)/\b7 c p'.2 (ev p.2.2)) (h:bU (.build zero ps) ev c.rows hf K):cX c ((Instr.build t ps').run P c.w) K:=by simp only[bU]at h;obtain⟨i,z,hi,hz1,hz2,hz3,hz4⟩:=hz;have h0:dX c z.cells.toList (zero.map .d):=pK (by simpa using hz3) (fun j v x h1 h2=>hz4 j v x h1 (by simpa using h2));obtain⟨cells',vs',e1,e2,e3⟩:=nR (place:=fun k=>some (k*sz,sz)) ps ps'.toList z.cells _ _ h0 (by simpa using hlen) (fun k p p' h1 h2=>by obtain⟨⟨h3,h4⟩,h5⟩:=hp k p p' h1 (by simpa using h2);exact⟨by simp[h3,h4],h5⟩) h;refine cX.same ok e3 (u:=.agg cells') ?_ (.agg _ _ (by simpa using e2.1) (fun j v x h1 h2=>e2.2 j v x h1 (by simpa using h2)));simp[Instr.build,zeroValue,typeInfo,hi,hz1,run_underlying ht,cu hs,e1]
def ej(z:Array Value)(n:Nat):Array Value:=(Array.range n).map (z[· %z.size]!)
theorem mY{z:Array Value}{zero:List D}{sz n:Nat}(hzl:zero.length=sz)(hz3:z.size=sz)(hs0:sz≠0) (hz4:∀(j:Nat) (v:D) (x:Value),zero[j]? =some v->z[j]? =some x->dV (fun _=>False) default x v) (m:Nat) (hm:n*sz<=m):fC c sz (List.replicate n (zero.map .d)) (ej z m):=by
 refine⟨fun e he=>?_,by simp[ej];exact hm,fun i e j v h1 h2=>?_⟩
 ·obtain⟨_,rfl⟩:=List.mem_replicate.1 he;exact⟨by simpa using hzl,pC zero⟩
 ·rw[List.getElem?_replicate]at h1;split at h1
  ·rename_i hi;injection h1 with h1;subst h1
   simp only[ar]at h2;obtain⟨d,hd,rfl⟩:=aa.1 h2;have hj:j<sz:=by have:=(ad.1 hd).1;omega
   have hlt:=fJ (sz:=sz) hi hj;have hx:z[j]? =some (z[j]'om):=Array.getElem?_eq_getElem _;refine⟨z[j]'om,?_,.d _ _ ((hz4 j d _ hd hx).mono (fun _ h=>h.elim) (fun _ h=>h.elim))⟩;simp only[ej,Array.getElem?_map];rw[Array.getElem?_eq_getElem so];simp only[Array.getElem_range,hz3,(vD hj).2,Option.map_some];rw[getElem!_pos z j om]
  ·cases h1
theorem Ak{ev:bw->V}{sz:Nat}:∀(ps:List (Nat×bw)) (ps':List (Nat×Value)) (cells:Array Value) (es:List (List V)) (K':List (List V)->Prop),cells.size=es.length*sz->fC c sz es cells->ps.length=ps'.length->(∀(k:Nat) (p:Nat×bw) (p':Nat×Value),ps[k]? =some p->ps'[k]? =some p'->p'.1=p.1/\b7 c p'.2 (ev p.2))->gl ev sz ps es K'->∃cells' es',Instr.fill (fun i=>some (i*sz,sz)) cells ps'=some cells'/\cells'.size=es'.length*sz/\es'.length=es.length/\fC c sz es' cells'/\K' es'
 |[],ps',cells,es,K',hsz,h,hl,_,hk=>by have:ps'=[]:=aQ (by simpa using hl.symm);subst this;exact⟨cells,es,rfl,hsz,rfl,h,hk⟩
 |(i,x)::ps,ps',cells,es,K',hsz,h,hl,hp,hk=>by
  cases ps' with
  |nil=>simp at hl
  |cons p' ps'=>
   obtain⟨i',u⟩:=p';obtain⟨hpl,hr⟩:=hp 0 _ _ rfl rfl;simp only at hpl hr;subst hpl;obtain⟨hi,hk⟩:=hk;obtain⟨cs,ma,ho,hrl,hk⟩:=oH hr hk;have he:es[i']? =some (es[i']'hi):=ae hi;have hel:=(h.1 _ (af he)).1;have hus:u.cells.size=sz:=by have:=hrl.1;simp at this;omega
   have hfit:i'*sz+sz<=cells.size:=by have h2:(i'+1)*sz<=es.length*sz:=Nat.mul_le_mul_right _ hi;rw[Nat.succ_mul]at h2;omega
   have hco:=wL h he (off:=0) om hrl ho;have hsr:mo (es[i']'hi) 0 cs=cs:=by simp[mo];omega
   rw[hsr]at hco;have harr:((u.cells.toList.zipIdx).foldl (fun(a:Array Value) (x:Value×Nat)=>a.setIfInBounds (i'*sz+x.2) x.1) cells)=(cells.toList.take (i'*sz+0)++u.cells.toList++cells.toList.drop (i'*sz+0+u.cells.toList.length)).toArray:=by
    apply Array.ext_getElem?;intro m;have hml:u.cells.toList.length=sz:=by simpa using hus
    rw[kp,List.getElem?_toArray (xs:=_++_),lp _ _ _ _ (by rw[hml];simpa using hfit),hml];by_cases h3:m<i'*sz
    ·rw[if_neg om,if_pos om];simp
    ·by_cases h4:m<i'*sz+sz
     ·rw[if_pos om,if_neg om,if_pos om]
     ·rw[if_neg om,if_neg om,if_neg om];simp
   rw[<-harr]at hco;obtain⟨cells',es',e1,e2,e3,e4,e5⟩:=Ak ps ps' _ _ K' (by rw[jv,hsz,List.length_set]) hco (by simpa using hl) (fun k p p' h1 h2=>hp (k+1) p p' (by simpa using h1) (by simpa using h2)) hk;refine⟨cells',es',?_,e2,by simpa using e3,e4,e5⟩;simp only[Instr.fill];have hcond:¬((decide (u.cells.size≠sz)||decide (i'*sz+u.cells.size>cells.size))=true):=by simp;omega
   rw[if_neg hcond,nG];exact e1
theorem xi(ok:Ok c){t e:TypeId}{sz len:Nat}{zero:List D}{ps:List (Nat×bw)}{ps':Array (Nat×Value)}{ev:bw->V}{hf:Nat}(hu:c.rows[hf]? =some .un)(ht:P.underlying t=some (.slice e))(hz:iX P e zero) (hzl:zero.length=sz) (hs0:sz≠0) (hmax:len*sz<=16777216) (hlen:ps.length=ps'.size) (hp:∀(k:Nat) (p:Nat×bw) (p':Nat×Value),ps[k]? =some p->ps'[k]? =some p'->p'.1=p.1/\b7 c p'.2 (ev p.2)) (h:bU (.b5 sz len zero ps) ev c.rows hf K):cX c ((Instr.buildSlice t len ps').run P c.w) K:=by
 simp only[bU]at h;obtain⟨i,z,hi,hz1,hz2,hz3,hz4⟩:=hz;have hlt:hf<c.rows.length:=(ad.1 hu).1;have h0:=mY (c:=c) (n:=len) hzl om hs0 hz4 (len*sz) (aq _);obtain⟨cells',es',e1,e2,e3,e4,e5⟩:=Ak ps ps'.toList (ej z.cells (len*sz)) _ _ (by simp[ej]) h0 (by simpa using hlen) (fun k p p' h1 h2=>hp k p p' h1 (by simpa using h2)) h;simp only[List.length_replicate]at e3;have hal:=jI ok hf sz es' cells' e (0,0) (.inl hu) (fun i _=>sm) e4 (c.w.alloc (.cells cells' e)) rfl rfl rfl rfl;refine⟨_,_,.slice (some ⟨c.w.heap.size,0,none⟩) len len,_,e5,?_,hal.1,hal.2,rfl,?_⟩
 ·have hsz:(sizeOf e).run P c.w=.ok sz c.w:=cu ⟨i,hi,om⟩ _;have h1:¬(16777216<len*sz):=om;have hcells:(Array.range (len*sz)).map (fun x=>z.cells[x%z.cells.size]!)=ej z.cells (len*sz):=rfl;by_cases hl0:len*sz=0
  ·have:ej z.cells (len*sz)= #[]:=by rw[hl0];simp[ej,Array.range_zero']
   rw[this]at e1;simp[Instr.buildSlice,run_underlying ht,hsz,hl0,e1,newRow,Array.range_zero']
  ·simp[Instr.buildSlice,run_underlying ht,hsz,h1,hl0,zeroValue,typeInfo,hi,hz1,hcells,e1,newRow]
 ·refine .cl _ _ _ _ _ len c.w.heap.size 0 es' cells' e (0,0) (by simp[hlt]) e3 sm (mh rfl) (.inl sm) (by rw[e2,e3];simp) (aq _) om
theorem Dl(ok:Ok c){t e:TypeId}{sz bytes:Nat}{zero:List D}{l k:bw}{ev:bw->V}{hf:Nat}{ul uk:Value}(hu:c.rows[hf]? =some .un)(ht:P.underlying t=some (.slice e))(hz:iX P e zero) (hb:∃i,P.info? e=some i/\i.bytes=bytes) (hzl:zero.length=sz) (hs0:sz≠0) (hl:b7 c ul (ev l)) (hk:b7 c uk (ev k)) (h:bU (.jH sz bytes zero l k) ev c.rows hf K):cX c ((Instr.makeSlice t ul uk).run P c.w) K:=by
 simp only[bU]at h;obtain⟨k1,n,rfl,h1⟩:=mc hl h;obtain⟨k2,m,rfl,h2⟩:=mc hk h1;obtain⟨h3,h4,h5,h6,hK⟩:=h2;obtain⟨i,z,hi,hz1,hz2,hz3,hz4⟩:=hz;obtain⟨i',hi',hbb⟩:=hb;rw[hi]at hi';injection hi' with hi';subst hi'
 have hlt:hf<c.rows.length:=(ad.1 hu).1;have hrun:=run_make (P:=P) c.w t e i z ht hi hz1 k1 k2 n m h3 h4 (by rw[hbb];exact h6) h5;have hsz:i.size=sz:=om;have h0:=mY (c:=c) (n:=n.toNat) hzl om hs0 hz4 (m.toNat*sz) (Nat.mul_le_mul_right _ om);have hal:=jI ok hf sz _ (ej z.cells (m.toNat*sz)) e (0,0) (.inl hu) (fun i _=>sm) h0 (c.w.alloc (.cells (ej z.cells (m.toNat*sz)) e)) rfl rfl rfl rfl;refine⟨_,_,.slice (some ⟨c.w.heap.size,0,none⟩) n.toNat m.toNat,_,hK,?_,hal.1,hal.2,rfl,?_⟩
 ·rw[hrun,hsz];rfl
 ·refine .cl _ _ _ _ _ m.toNat c.w.heap.size 0 (List.replicate n.toNat (zero.map .d)) (ej z.cells (m.toNat*sz)) e (0,0) (by simp[hlt]) sm sm (mh rfl) (.inl sm) (by simp[ej]) om om
end
end Go.Vx
