/- Proved: rules of a compiled form of the code, sound for the model. Conditions: none but those that each lemma states. -/
import Derived.Test.YtmhkppbollghoaaGreatDoorXb
import Derived.Laws.NewFold
import Derived.WideKeyRuns
import Derived.Lib.AppendZerosOnto
set_option linter.unusedSectionVars false
set_option linter.unusedSimpArgs false
set_option linter.unusedVariables false
namespace Go.Vx
section
variable{P:Program}{c:Cx}{K:V->List (Nat×bd)->Prop}
theorem CT(ok:Ok c){t t' ty e:TypeId}{sz:Nat}{d s:bw}{ev:bw->V}{hf:Nat}{ud us:Value}(ht:P.underlying t=some (.slice e))(hs:nL P e sz) (hrd:b7 c ud (ev d)) (hrs:b7 c us (ev s)) (h:bU (.copy sz d s) ev c.rows hf K):cX c ((Builtin.copy_ #[t,t'] ty #[ud,us]).run P c.w) K:=by
 simp only[bU]at h;obtain⟨xs,fl,h,hsrc⟩:=uo (P:=P) ok hrs h;have hrun:∀(base:Option Addr) (len cap:Nat),(Builtin.copy_ #[t,t'] ty #[.slice base len cap,us]).run P c.w=((match base with|some a=>storeCells a (fl.take (min xs.length len*sz))|none=>pure ()).run P c.w).andThen fun _ w'=>.ok (.int .i64 (min xs.length len:Nat)) w':=by
  intro base len cap;have hf:=hsrc.2.2.2 c.w (fun _ _ _=>rfl) (min xs.length len) (Nat.min_le_left _ _);have hf':(Builtin.firstCells sz (xs.length.min len) us).run P c.w=.ok (fl.take (min xs.length len*sz)).toArray c.w:=hf;cases base<;>simp[Builtin.copy_,run_underlying ht,hsrc.2.2.1,cu hs,hf',goInt]
  all_goals rfl
 split at h
 ·rename_i e1;rw[e1]at hrd;have:=fx hrd;subst this;refine cX.same ok h ?_ (cP _ _);rw[hrun];simp
 ·rename_i s' g n off len e1;rw[e1]at hrd;obtain⟨rfl,hlive,hk⟩:=h;have hflen:=hsrc.1;rcases gQ hrd hlive with⟨rfl,rfl,rfl,rfl,hρ⟩|⟨cap,b,o,arr,ty',fz,rfl,hρ,hb,ho,hcap,hlc,hlen⟩
  ·obtain⟨es,hrow,hn⟩:=hlive;have hes:es=[]:=aQ hn;subst hes;refine⟨_,_,.int .i64 0,c,hk _ hrow,?_,ok,.refl c,?_,?_⟩
   ·rw[hrun];simp
   ·simp[gr,gM hrow]
   ·simpa using cP .i64 0
  ·obtain⟨es,hrow,hn⟩:=hlive;obtain⟨arr',ty2,fz',hb',hfz,hc⟩:=fj ok hrow hρ;rw[hb]at hb';injection hb' with hb';injection hb' with e1 e2 e3;subst e1 e2 e3
   have hk:=hk _ hrow;have hm:(xs.take len).length=min xs.length len:=by rw[List.length_take,Nat.min_comm]
   have hcf:fC c s' (xs.take len) (fl.take (min xs.length len*s')).toArray:=by
    have:=ir hsrc.2.1 (min xs.length len) (Nat.min_le_left _ _);have e:xs.take (min xs.length len)=xs.take len:=by
     rcases Nat.le_total xs.length len with h|h
     ·rw[Nat.min_eq_left h,al (aq _),al h]
     ·rw[Nat.min_eq_right h]
    rw[e]at this;simpa using this
   have hfl:(fl.take (min xs.length len*s')).length=(xs.take len).length*s':=by rw[List.length_take,hm,hflen];exact Nat.min_eq_left (Nat.mul_le_mul_right _ (Nat.min_le_left _ _))
   have hfit:off*s'+(fl.take (min xs.length len*s')).length<=arr.size:=by have h1:=hc.2.1;have h2:(off+min xs.length len)*s'<=es.length*s':=Nat.mul_le_mul_right _ om;rw[Nat.add_mul]at h2;rw[hfl,hm];omega
   have hsz:=hc.2.1;have hco:fC c s' (es.take off++xs.take len++es.drop (off+min xs.length len)) (arr.toList.take (off*s')++fl.take (min xs.length len*s')++arr.toList.drop (off*s'+(fl.take (min xs.length len*s')).length)).toArray:=by
    have hA:=ir hc off om;have hD:=s8 hc (off+min xs.length len) om;have hmul:off*s'<=es.length*s':=Nat.mul_le_mul_right _ om;have hAl:(arr.toList.take (off*s')).length=(es.take off).length*s':=by rw[List.length_take,List.length_take,Nat.min_eq_left (by rw[Array.length_toList];omega),Nat.min_eq_left om]
    have h12:=jK (rest:=[]) hAl hfl hA hcf;simp only[List.append_nil]at h12;rw[Nat.add_mul]at hD;have hdr:off*s'+(fl.take (min xs.length len*s')).length=off*s'+min xs.length len*s':=by rw[hfl,hm]
    rw[hdr];have hDl:∃D rest,arr.toList.drop (off*s'+min xs.length len*s')=D++rest/\D.length=(es.drop (off+min xs.length len)).length*s'/\fC c s' (es.drop (off+min xs.length len)) D.toArray:=by
     have hdl:((es.drop (off+min xs.length len)).length*s')<=(arr.toList.drop (off*s'+min xs.length len*s')).length:=by rw[List.length_drop,List.length_drop,Array.length_toList (xs:=arr),Nat.sub_mul,Nat.add_mul];omega
     refine⟨(arr.toList.drop (off*s'+min xs.length len*s')).take ((es.drop (off+min xs.length len)).length*s'),_,(List.take_append_drop _ _).symm,by rw[List.length_take,Nat.min_eq_left hdl],?_⟩;have:=ir hD (es.drop (off+min xs.length len)).length (aq _);rw[List.take_length]at this;simpa using this
    obtain⟨D,rest,hd1,hd2,hd3⟩:=hDl;rw[hd1,<-List.append_assoc];refine jK (rest:=rest) ?_ hd2 h12 hd3;rw[az,az,hAl,hfl,Nat.add_mul]
   have hlen':(es.take off++xs.take len++es.drop (off+min xs.length len)).length=es.length:=by simp only[az,List.length_take,List.length_drop];omega
   have hup:=vM ok g b s' es _ arr _ ty' fz hrow hρ hb hfz (by rw[List.size_toArray,hH _ _ _ (by simpa using hfit),Array.length_toList]) (by rw[hlen'];exact aq _) hco;by_cases hcz:cap=0
   ·have hl0:len=0:=om;have hsame:es.take off++xs.take len++es.drop (off+min xs.length len)=es:=by rw[hl0];simp
    refine⟨_,_,.int .i64 (min xs.length len:Nat),c,hk,?_,ok,.refl c,?_,cP _ _⟩
    ·rw[hrun,hl0];simp[storeCells]
    ·rw[gr,hsame,gM hrow]
   ·have ho':=ho.resolve_right hcz;subst ho';have hone:=mA hfl hcf;have hst:=dZ (P:=P) b (off*s') ty' fz (fl.take (min xs.length len*s')) 0 arr c.w hb hfz om hone;simp only[Nat.add_zero]at hst;refine⟨_,_,.int .i64 (min xs.length len:Nat),_,hk,?_,hup.1,hup.2,rfl,cP _ _⟩;rw[hrun];simp[hst]
 ·exact h.elim
theorem GN(ok:Ok c){t ty e:TypeId}{sz:Nat}{zero:List D}{x:bw}{ev:bw->V}{hf:Nat}{ux:Value}(ht:P.underlying t=some (.slice e))(hz:iX P e zero)(hzl:zero.length=sz)(hs0:sz≠0) (hr:b7 c ux (ev x)) (h:bU (.Gf sz zero x) ev c.rows hf K):cX c ((Builtin.clear_ #[t] ty #[ux]).run P c.w) K:=by
 obtain⟨i,z,hi,hz1,hz2,hz3,hz4⟩:=hz;simp only[bU]at h;split at h
 ·rename_i s' g n off len e1;rw[e1]at hr;obtain⟨rfl,hlive,hlo,hk⟩:=h;have hmk:∀c':Cx,b7 c' (.tuple #[]) (.cm []):=fun c'=>.cm _ _ rfl (fun j v x h1=>by simp at h1);rcases gQ hr hlive with⟨rfl,rfl,rfl,rfl,hρ⟩|⟨cap,b,o,arr,ty',fz,rfl,hρ,hb,ho,hcap,hlc,hlen⟩
  ·obtain⟨es,hrow,hn⟩:=hlive;have hes:es=[]:=aQ hn;subst hes;refine⟨_,_,.tuple #[],c,hk _ hrow,?_,ok,.refl c,?_,hmk _⟩
   ·simp[Builtin.clear_,run_underlying ht]
   ·simp[gr,gM hrow]
  ·obtain⟨es,hrow,hn⟩:=hlive;obtain⟨arr',ty2,fz',hb',hfz,hc⟩:=fj ok hrow hρ;rw[hb]at hb';injection hb' with hb';injection hb' with e1 e2 e3;subst e1 e2 e3
   have hk:=hk _ hrow;by_cases hl0:len=0
   ·subst hl0;have hsame:es.take off++List.replicate 0 (zero.map .d)++es.drop (off+0)=es:=by simp
    refine⟨_,_,.tuple #[],c,hk,?_,ok,.refl c,?_,hmk _⟩
    ·simp[Builtin.clear_,run_underlying ht]
    ·rw[gr,hsame,gM hrow]
   ·have hsz0:z.cells.size=s':=by rw[<-hzl];omega
    have hcf0:=mY (c:=c) (n:=len) hzl hsz0 hs0 hz4 (len*s') (aq _);obtain⟨fl,hfd⟩:∃fl,fl=(ej z.cells (len*s')).toList:=⟨_,rfl⟩;have hcf:fC c s' (List.replicate len (zero.map .d)) fl.toArray:=by rw[hfd];simpa using hcf0
    have hfl:fl.length=len*s':=by rw[hfd];simp[ej]
    have hsz:=hc.2.1;have hfit:off*s'+fl.length<=arr.size:=by have h2:(off+len)*s'<=es.length*s':=Nat.mul_le_mul_right _ om;rw[Nat.add_mul]at h2;rw[hfl];omega
    have hco:fC c s' (es.take off++List.replicate len (zero.map .d)++es.drop (off+len)) (arr.toList.take (off*s')++fl++arr.toList.drop (off*s'+fl.length)).toArray:=by
     have hA:=ir hc off om;have hD:=s8 hc (off+len) om;have hmul:off*s'<=es.length*s':=Nat.mul_le_mul_right _ om;have hAl:(arr.toList.take (off*s')).length=(es.take off).length*s':=by rw[List.length_take,List.length_take,Nat.min_eq_left (by rw[Array.length_toList];omega),Nat.min_eq_left om]
     have h12:=jK (rest:=[]) hAl (by rw[hfl,List.length_replicate]) hA hcf;simp only[List.append_nil]at h12;rw[Nat.add_mul]at hD;rw[hfl];have hDl:∃D rest,arr.toList.drop (off*s'+len*s')=D++rest/\D.length=(es.drop (off+len)).length*s'/\fC c s' (es.drop (off+len)) D.toArray:=by
      have hdl:((es.drop (off+len)).length*s')<=(arr.toList.drop (off*s'+len*s')).length:=by rw[List.length_drop,List.length_drop,Array.length_toList (xs:=arr),Nat.sub_mul,Nat.add_mul];omega
      refine⟨(arr.toList.drop (off*s'+len*s')).take ((es.drop (off+len)).length*s'),_,(List.take_append_drop _ _).symm,by rw[List.length_take,Nat.min_eq_left hdl],?_⟩;have:=ir hD (es.drop (off+len)).length (aq _);rw[List.take_length]at this;simpa using this
     obtain⟨D,rest,hd1,hd2,hd3⟩:=hDl;rw[hd1,<-List.append_assoc];refine jK (rest:=rest) ?_ hd2 h12 hd3;rw[az,az,hAl,hfl,Nat.add_mul,List.length_replicate]
    have hlen':(es.take off++List.replicate len (zero.map V.d)++es.drop (off+len)).length=es.length:=by simp only[az,List.length_take,List.length_drop,List.length_replicate];omega
    have hup:=vM ok g b s' es _ arr _ ty' fz hrow hρ hb hfz (by rw[List.size_toArray,hH _ _ _ (by simpa using hfit),Array.length_toList]) (by rw[hlen'];exact aq _) hco;have ho':=ho.resolve_right om;subst ho';have hone:=mA (by rw[hfl,List.length_replicate]) hcf;have hst:=dZ (P:=P) b (off*s') ty' fz fl 0 arr c.w hb hfz om hone;simp only[Nat.add_zero]at hst;refine⟨_,_,.tuple #[],_,hk,?_,hup.1,hup.2,rfl,hmk _⟩;obtain⟨m,rfl⟩:∃m,len=m+1:=⟨len-1,om⟩;have hzc:(Builtin.zeroCells z.cells (m+1)).toList=fl:=by rw[hfd,<-hsz0];rfl
    simp[Builtin.clear_,run_underlying ht,zeroValue,typeInfo,hi,hz1,hzc,hst]
 ·exact h.elim
theorem foldl_push(l:List UInt8)(a:Array UInt8):l.foldl (fun r b=>ByteArray.push r b) (⟨a⟩:ByteArray)=⟨a++l.toArray⟩:=by
 induction l generalizing a with
 |nil=>simp
 |cons x l ih=>simp only[List.foldl_cons];show l.foldl _ (⟨a.push x⟩:ByteArray)=_;rw[ih];simp
theorem GZ(ok:Ok c){src dst e:TypeId}{x:bw}{ev:bw->V}{hf:Nat}{u:Value}(hs:P.underlying src=some (.slice e))(he:P.underlying e=some (.int .u8))(hd:P.underlying dst=some .string) (hr:b7 c u (ev x)) (h:bU (.BW x) ev c.rows hf K):cX c ((convert src dst u).run P c.w) K:=by
 simp only[bU]at h;obtain⟨hns,h⟩:=h;have hx:∀s,ev x≠ .d (.str s):=fun s e=>by rw[e]at hns;simp[rR]at hns
 obtain⟨es,fl,⟨hby,hk⟩,hsrc⟩:=uo (P:=P) ok hr h;have hflen:=hsrc.1;have hnum:∃ns:List Int,fl=ns.map (Value.int .u8)/\es=ns.map fun n=>[.d (.int .u8 n)]:=by
  have hc:=hsrc.2.1;clear hk h hsrc;induction es generalizing fl with
  |nil=>exact⟨[],by simpa using hflen,rfl⟩
  |cons e es ih=>
   obtain⟨n,rfl⟩:=hby e sm;cases fl with
   |nil=>simp at hflen
   |cons f fl=>
    obtain⟨x,hx1,hx2⟩:=hc.2.2 0 _ 0 _ rfl rfl;simp at hx1;subst hx1;have:=dw hx2;subst this;have hc':fC c 1 es fl.toArray:=by refine⟨fun e he=>hc.1 e (by simp[he]),by simp at hflen|-;omega,fun i e j v h1 h2=>?_⟩;obtain⟨x,hx1,hx2⟩:=hc.2.2 (i+1) e j v (by simpa using h1) h2;refine⟨x,?_,hx2⟩;have:(i+1)*1+j=i*1+j+1:=om;rw[this]at hx1;simpa using hx1
    obtain⟨ns,e1,e2⟩:=ih (fun e he=>hby e (by simp[he])) (fl:=fl) (by simp at hflen|-;omega) hc';exact⟨n::ns,by simp[e1],by simp[e2]⟩
 obtain⟨ns,hfl,hes⟩:=hnum;have hbs:es.map oc=ns.map fun n=>UInt8.ofNat n.toNat:=by rw[hes];simp[oc]
 rw[hbs]at hk;have hlenn:es.length=ns.length:=by rw[hes];simp
 have hfc:=hsrc.2.2.2 c.w (fun _ _ _=>rfl) es.length (aq _);have hlo:=hsrc.2.2.1;have hfull:fl.take (es.length*1)=fl:=al om;rw[hfull]at hfc;have hshape:∃a len cap,u=.slice a len cap:=by
  cases hv:ev x with
  |d d=>
   rw[hv]at hr h;cases hr with|d _ _ hr=>
   cases d with
   |bm=>cases hr;exact⟨_,_,_,rfl⟩
   |str s=>exact absurd hv (hx s)
   |sl=>cases hr<;>exact⟨_,_,_,rfl⟩
   |_=>simp[eF]at h
  |cl a b c' d e=>rw[hv]at hr h;simp only[eF]at h;rcases gQ hr (by obtain⟨rfl,hl,_⟩:=h;exact hl)with⟨rfl,_⟩|⟨_,_,_,_,_,_,rfl,_⟩<;>exact⟨_,_,_,rfl⟩
  |any=>rw[hv]at h;simp[eF]at h
  |aY=>rw[hv]at h;simp[eF]at h
  |agg=>rw[hv]at h;simp[eF]at h
  |cm=>rw[hv]at h;simp[eF]at h
  |fn=>rw[hv]at h;simp[eF]at h
  |gV=>rw[hv]at h;simp[eF]at h
 obtain⟨a,len,cap,rfl⟩:=hshape;simp[Builtin.lenOf]at hlo;subst hlo;refine cX.same ok hk (u:=.string ⟨(ns.map fun n=>UInt8.ofNat n.toNat).toArray⟩) ?_ (uW _);rw[run_convert_bytes_string c.w src dst e a _ cap hs he hd];cases a with
 |none=>
  simp[Builtin.firstCells]at hfc;subst hfc;have:ns=[]:=by simpa using hfl.symm
  subst this;simp[Conv.bytesToString];rfl
 |some a=>
  simp only[Builtin.firstCells,Nat.mul_one]at hfc;rw[run_bytesToString c.w a _ cap ns (by rw[hfc,hfl])];congr 2;have h2:∀(ns:List Int) (r:ByteArray),ns.foldl (fun(r:ByteArray) n=>r.push (UInt8.ofNat n.toNat)) r=(ns.map fun n=>UInt8.ofNat n.toNat).foldl (fun r b=>r.push b) r:=by
   intro ns;induction ns with
   |nil=>intro r;rfl
   |cons n ns ih=>intro r;simp only[List.foldl_cons,List.map_cons];exact ih _
  rw[h2];have:=foldl_push (ns.map fun n=>UInt8.ofNat n.toNat) #[];simp only[Array.empty_append]at this;exact this
theorem Ib(ok:Ok c){src dst e:TypeId}{x:bw}{ev:bw->V}{hf:Nat}{u:Value}(hu:c.rows[hf]? =some .un)(hs:P.underlying src=some .string)(hd:P.underlying dst=some (.slice e))(he:P.underlying e=some (.int .u8)) (hr:b7 c u (ev x)) (h:bU (.HI x) ev c.rows hf K):cX c ((convert src dst u).run P c.w) K:=by
 simp only[bU]at h;split at h
 ·rename_i s e1;rw[e1]at hr;have:=iw hr;subst this;have hlt:hf<c.rows.length:=(ad.1 hu).1;have hforce:(Question.appendCap s.length 0 e).forced=false:=rfl;obtain⟨cap,hcap,ma⟩:∃cap,cap=(Question.appendCap s.length 0 e).cut (c.w.tape c.w.drawn (.appendCap s.length 0 e))/\s.length<=cap:=⟨_,rfl,by simp only[Question.cut];omega⟩;obtain⟨arr,harr⟩:∃arr:Array Value,(s.map fun b=>Value.int .u8 (b.toNat:Int)).toArray++Array.replicate (cap-s.length) (.int .u8 0)=arr:=⟨_,rfl⟩;have hal:arr.size=cap:=by rw[<-harr];simp;omega
  have hco:fC c 1 (s.map fun b=>[.d (.int .u8 b.toNat)]) arr:=by
   refine⟨fun e he=>?_,by rw[hal];simpa using ma,fun i e j v h1 h2=>?_⟩
   ·obtain⟨b,_,rfl⟩:=aw.1 he;exact⟨rfl,by simp[fh]⟩
   ·simp only[ar]at h1;obtain⟨b,hb,rfl⟩:=aa.1 h1;cases j with
    |zero=>simp at h2;subst h2;obtain⟨hi,hbi⟩:=ad.1 hb;refine⟨.int .u8 b.toNat,?_,cP _ _⟩;rw[<-harr,Array.getElem?_append_left (by simpa using hi)];simp[hb]
    |succ j=>simp at h2
  have hfz:∀i,i<arr.size->¬(arr.size<=i/\i<arr.size+1):=fun i hi=>om;have hrunw:((c.w.drew.alloc (.cells arr e)).freeze ⟨c.w.heap.size,arr.size,none⟩ 1).heap=c.w.heap.push (.cells arr e (arr.size,arr.size+1)):=by
   simp only[World.freeze,World.alloc,World.drew];rw[if_neg om];apply Array.ext_getElem?;intro k;rw[Array.getElem?_modify];by_cases hk:c.w.heap.size=k
   ·subst hk;simp
   ·rw[if_neg hk,Array.getElem?_push,Array.getElem?_push];rw[if_neg (fun e=>hk e.symm),if_neg (fun e=>hk e.symm)]
  have halo:=jI ok hf 1 _ arr e (arr.size,arr.size+1) (.inl hu) hfz hco ((c.w.drew.alloc (.cells arr e)).freeze ⟨c.w.heap.size,arr.size,none⟩ 1) hrunw rfl rfl rfl;refine⟨_,_,.slice (some ⟨c.w.heap.size,0,none⟩) s.length cap,_,h,?_,halo.1,halo.2,rfl,?_⟩
  ·have hmap:(⟨s.toArray⟩:ByteArray).data.map (fun b=>Value.int .u8 b.toNat)=(s.map fun b=>Value.int .u8 b.toNat).toArray:=by simp
   have hsh:(c.w.drew.alloc (.cells arr e)).shape? c.w.heap.size=some (e,arr.size):=by have:(c.w.drew.alloc (.cells arr e)).heap[c.w.heap.size]? =some (.cells arr e (0,0)):=mh (w:=c.w) rfl;simp only[World.shape?,this]
   simp only[convert,Sem.run_bind,run_underlying hs,run_underlying hd,run_underlying he,Result.andThen_ok,Conv.stringToBytes,oo,run_choose_drew,hforce,if_false,Bool.false_eq_true,hmap];rw[<-hcap,harr];simp only[newRow,markStringish,Sem.run_bind,run_newObj_alloc,Result.andThen_ok,Sem.run_pure,World.size_drew,run_shape,hsh,run_freeze]
  ·refine .cl _ _ _ _ _ cap c.w.heap.size 0 _ arr e _ (by simp[hlt];rfl) sm sm (by rw[hrunw];simp;rfl) (.inl sm) om ma om
 ·exact h.elim
end
section
variable{P:Program}{c:Cx}{K:V->List (Nat×bd)->Prop}
theorem oT{rows:Rows}{h hf sz:Nat}{es:List (List V)}{o:GO}(hr:(rows.set hf (.obj o))[h]? =some (bd.live sz es)):h≠hf/\rows[h]? =some (bd.live sz es):=by
 rw[List.getElem?_set]at hr;split at hr
 ·split at hr<;>simp at hr
 ·rename_i hne;exact⟨Ne.symm hne,hr⟩
theorem mL(ok:Ok c)(hf:Nat)(o:GO)(ob:Obj)(hu:c.rows[hf]? =some .un)(w':World)(hw:w'.heap=c.w.heap.push ob) (hos:w'.os=c.w.os) (htape:w'.tape=c.w.tape) (hout:w'.output=c.w.output) (hg:Fq w' c.w.heap.size o):Ok ⟨fun h=>if h=hf then some c.w.heap.size else c.ρ h,c.I,c.rows.set hf (.obj o),w'⟩/\Ext c ⟨fun h=>if h=hf then some c.w.heap.size else c.ρ h,c.I,c.rows.set hf (.obj o),w'⟩:=by
 have hlt:hf<c.rows.length:=(ad.1 hu).1;have hx:Ext c ⟨fun h=>if h=hf then some c.w.heap.size else c.ρ h,c.I,c.rows.set hf (.obj o),w'⟩:=by
  refine⟨hos,htape,hout,by simp[hw],fun b hb _=>eO hw hb,fun _ h=>h,fun _ h=>.inl h,?_,?_⟩
  ·intro h b hb;dsimp only at hb;split at hb
   ·injection hb with hb;exact .inr om
   ·exact .inl hb
  ·intro h;by_cases hh:h=hf
   ·subst hh;unfold bK;rw[hu];exact⟨_,by simp[hlt];rfl⟩
   ·exact bK.of_eq (by simp[Ne.symm hh]) (by simp[hh]) (fun b hb=>eO hw (ok.own _ _ hb).1)
 refine⟨⟨?_,?_,?_,?_,?_,?_⟩,hx⟩
 ·intro h h' b h1 h2;dsimp only at h1 h2;split at h1<;>split at h2
  ·simp_all
  ·injection h1 with h1;have:=(ok.own _ _ h2).1;omega
  ·injection h2 with h2;have:=(ok.own _ _ h1).1;omega
  ·exact ok.inj _ _ _ h1 h2
 ·intro h b hb;dsimp only at hb|-;split at hb
  ·rename_i hh;subst hh;injection hb with hb;subst hb
   exact⟨by simp[hw],fun hi=>absurd (ok.jP _ hi) om,.obj o,by simp[hlt],trivial⟩
  ·rename_i hh;obtain⟨h1,h2,r,h3,h4⟩:=ok.own _ _ hb;exact⟨by simp[hw];omega,h2,r,by simp[Ne.symm hh,h3],h4⟩
 ·intro h b sz' es' hb hr;dsimp only at hb hr;obtain⟨hne,hr⟩:=oT hr;rw[if_neg hne]at hb;obtain⟨arr',ty',fz',h1,h2,h3⟩:=ok.cont _ _ _ _ hb hr;exact⟨arr',ty',fz',(eO hw (ok.own _ _ hb).1).trans h1,h2,h3.mono hx ok⟩
 ·intro h sz' es' hb hr;dsimp only at hb hr;obtain⟨hne,hr⟩:=oT hr;rw[if_neg hne]at hb;exact ok.je _ _ _ hb hr
 ·intro b hb;have:=ok.jP b hb;simp[hw];omega
 ·refine⟨fun h o' hr=>?_,ok.g.pz.mono hx.jP (hx.oG ok)⟩;by_cases hh:h=hf
  ·subst hh;simp[hlt]at hr;subst hr;exact⟨_,sm,hg⟩
  ·simp[Ne.symm hh]at hr;obtain⟨b,h1,h2⟩:=ok.g.xS h o' hr;exact⟨b,by simp[hh,h1],h2.same (eO hw (ok.own _ _ h1).1)⟩
theorem ju(ok:Ok c)(h b:Nat)(o o':GO)(ob:Obj)(hrow:c.rows[h]? =some (.obj o))(hρ:c.ρ h=some b)(w':World)(hw:w'.heap=c.w.heap.setIfInBounds b ob) (hos:w'.os=c.w.os) (htape:w'.tape=c.w.tape) (hout:w'.output=c.w.output) (hg:Fq w' b o'):Ok ⟨c.ρ,c.I,c.rows.set h (.obj o'),w'⟩/\Ext c ⟨c.ρ,c.I,c.rows.set h (.obj o'),w'⟩:=by
 have hlt:h<c.rows.length:=(ad.1 hrow).1;have hoth:∀k,k≠b->w'.heap[k]? =c.w.heap[k]? :=fun k hk=>by rw[hw,Array.getElem?_setIfInBounds,if_neg (Ne.symm hk)]
 have hsz:w'.heap.size=c.w.heap.size:=by simp[hw]
 have hx:Ext c ⟨c.ρ,c.I,c.rows.set h (.obj o'),w'⟩:=by
  refine⟨hos,htape,hout,by simp[hsz],fun k _ hno=>hoth k (fun e=>hno h (by rw[hρ,e])),fun _ h=>h,fun _ h=>.inl h,fun _ _ h=>.inl h,fun k=>?_⟩;by_cases hh:k=h
  ·subst hh;unfold bK;rw[hrow];exact .inr ⟨⟨o',by simp[hlt]⟩,rfl⟩
  ·exact bK.of_eq (by simp[Ne.symm hh]) rfl (fun b' hb'=>hoth b' (fun e=>hh (ok.inj _ _ _ hb' (e▸hρ))))
 refine⟨⟨ok.inj,?_,?_,?_,?_,?_⟩,hx⟩
 ·intro k b' hb';obtain⟨h1,h2,r,h3,h4⟩:=ok.own _ _ hb';by_cases hh:k=h
  ·subst hh;exact⟨by simpa[hsz]using h1,h2,.obj o',by simp[hlt],trivial⟩
  ·exact⟨by simpa[hsz]using h1,h2,r,by simp[Ne.symm hh,h3],h4⟩
 ·intro k b' sz' es1 hb' hr;obtain⟨hne,hr⟩:=oT hr;obtain⟨arr1,ty1,fz1,h1,h2,h3⟩:=ok.cont _ _ _ _ hb' hr;exact⟨arr1,ty1,fz1,(hoth b' (fun e=>hne (ok.inj _ _ _ hb' (e▸hρ)))).trans h1,h2,h3.mono hx ok⟩
 ·intro k sz' es1 hb' hr;obtain⟨hne,hr⟩:=oT hr;exact ok.je _ _ _ hb' hr
 ·intro k hk;have:=ok.jP k hk;simp[hsz];omega
 ·refine⟨fun k o1 hr=>?_,ok.g.pz.mono hx.jP (hx.oG ok)⟩;by_cases hh:k=h
  ·subst hh;simp[hlt]at hr;subst hr;exact⟨b,hρ,hg⟩
  ·simp[Ne.symm hh]at hr;obtain⟨b',h1,h2⟩:=ok.g.xS k o1 hr;exact⟨b',h1,h2.same (hoth b' (fun e=>hh (ok.inj _ _ _ h1 (e▸hρ))))⟩
theorem rH{u:Value}{h k:Nat}{o:GO}(hr:b7 c u (.aY 0 h 0 k 0))(hrow:c.rows[h]? =some (.obj o)):∃b,c.ρ h=some b/\(k=0->u=.pointer (some ⟨b,0,none⟩))/\(k=1->u=.map (some b)):=by
 cases hr with
 |aY _ _ _ _ _ b es hr2=>rw[hrow]at hr2;cases hr2
 |cD _ _ _ _ _ _ _ hs=>rcases hs with hs|⟨_,_,hs,_⟩<;>(rw[hrow]at hs;cases hs)
 |oh _ _ _ b o' hr2 hρ hv h0 h1=>exact⟨b,hρ,h0,h1⟩
theorem HU(ok:Ok c){t:TypeId}{x:bw}{ev:bw->V}{hf:Nat}{u:Value}(ht:P.underlying t=some .string)(hu:c.rows[hf]? =some .un)(hr:b7 c u (ev x))(h:bU (.qB x) ev c.rows hf K):cX c ((Instr.range t u).run P c.w) K:=by
 simp only[bU]at h;split at h
 ·rename_i s e;rw[e]at hr;cases hr with|d _ _ hr=>
  cases hr;obtain⟨h1,h2⟩:=mL ok hf (.it s 0) (.stringIter ⟨s.toArray⟩ 0) hu {c.w with heap:=c.w.heap.push (.stringIter ⟨s.toArray⟩ 0)} rfl rfl rfl rfl (by simp[Fq]);have hlt:hf<c.rows.length:=(ad.1 hu).1;refine⟨_,_,_,_,h,?_,h1,h2,rfl,.oh _ hf 0 c.w.heap.size (.it s 0) (by simp[hlt]) sm rfl (fun _=>rfl) (fun h=>om)⟩;simp[Instr.range,run_underlying ht,newObj];rfl
 ·exact h.elim
theorem AK(ok:Ok c){t:TypeId}{ev:bw->V}{hf:Nat}(hu:c.rows[hf]? =some .un)(h:bU .mz ev c.rows hf K):cX c ((Instr.makeMap t none).run P c.w) K:=by simp only[bU]at h;obtain⟨h1,h2⟩:=mL ok hf (.mp []) (.map #[] 0) hu {c.w with heap:=c.w.heap.push (.map #[] 0)} rfl rfl rfl rfl ⟨#[],0,sm,rfl,sm⟩;have hlt:hf<c.rows.length:=(ad.1 hu).1;refine⟨_,_,_,_,h,?_,h1,h2,rfl,.oh _ hf 1 c.w.heap.size (.mp []) (by simp[hlt]) sm rfl (fun h=>om) (fun _=>rfl)⟩;simp[Instr.makeMap,newObj];rfl
theorem Hi(ok:Ok c){t:TypeId}{x:bw}{ev:bw->V}{hf:Nat}{u:Value}(hr:b7 c u (ev x))(h:bU (.FO x) ev c.rows hf K):cX c ((Instr.next u true t).run P c.w) K:=by
 simp only[bU]at h;split at h
 ·rename_i g e;rw[e]at hr;unfold Gn at h;split at h
  ·rename_i s pos hrow;obtain⟨b,hρ,h0,_⟩:=rH hr hrow;have hu:=h0 rfl;subst hu;obtain⟨b',hρ',hg⟩:=ok.g.xS g _ hrow;rw[hρ]at hρ';injection hρ' with hρ';subst hρ'
   have hlt:b<c.w.heap.size:=hg.lt;simp only[Fq]at hg;by_cases hp:pos<s.length
   ·obtain⟨h1,h2⟩:=ju ok g b _ (.it s (pos+(dD s pos).2)) (.stringIter ⟨s.toArray⟩ (pos+(dD s pos).2)) hrow hρ {c.w with heap:=c.w.heap.setIfInBounds b (.stringIter ⟨s.toArray⟩ (pos+(dD s pos).2))} rfl rfl rfl rfl (by simp[Fq,hlt]);refine⟨_,_,_,_,h.1 hp,?_,h1,h2,rfl,.cm #[.bool true,.int .i64 pos,.int .i32 (dD s pos).1] _ rfl fun j v x h3 h4=>?_⟩
    ·have hp':pos<(⟨s.toArray⟩:ByteArray).size:=by show pos<s.toArray.size;simpa using hp
     simp only[dD];simp only[Instr.next,getObj,setObj,Sem.run_bind,Sem.run,hg,Result.andThen,hp',if_true];simp[goInt,Sem.run,hg]
    ·match j with
     |0=>simp at h3 h4;subst h3 h4;exact .d _ _ (.bool _)
     |1=>simp at h3 h4;subst h3 h4;exact .d _ _ (.int _ _)
     |2=>simp at h3 h4;subst h3 h4;exact .d _ _ (.int _ _)
     |j+3=>simp at h3
   ·refine cX.same ok (h.2 hp) (u:=.tuple #[.bool false]) ?_ (.cm _ _ rfl fun j v x h3 h4=>?_)
    ·have hp':¬pos<(⟨s.toArray⟩:ByteArray).size:=by show¬pos<s.toArray.size;simpa using hp
     simp only[Instr.next,getObj,Sem.run_bind,Sem.run,hg,Result.andThen,hp',if_false];simp
    ·match j with
     |0=>simp at h3 h4;subst h3 h4;exact .d _ _ (.bool _)
     |j+1=>simp at h3
  ·exact h.elim
 ·exact h.elim
theorem bytes_beq(a b:List UInt8):((⟨a.toArray⟩:ByteArray)==⟨b.toArray⟩)=decide (a=b):=by show(a.toArray==b.toArray)=_;rw[Bool.eq_iff_iff];simp
theorem va{kind:TypeDesc}(hk:kind=.string)(s:List UInt8):∀(es:List (List UInt8×D)) (ents:List MapEntry) (i:Nat),ents.map (fun e=>(e.key,e.val))=es.map (fun p=>(Value.string ⟨p.1.toArray⟩,dv p.2))->(fG es s=false/\Instr.findNow kind (.string ⟨s.toArray⟩) ents i=some none)\/(fG es s=true/\∃j,(∀z,Instr.findNow kind (.string ⟨s.toArray⟩) ents i=some (some (i+j,dv (dL z es s))))/\(∃e,ents[j]? =some e/\e.key=.string ⟨s.toArray⟩)/\∀x,(ents.modify j fun e=>{e with key:=.string ⟨s.toArray⟩,val:=dv x}).map (fun e=>(e.key,e.val))=(dU es s x).map (fun p=>(Value.string ⟨p.1.toArray⟩,dv p.2)))
 |[],ents,i,h=>by
  cases ents with
  |nil=>exact .inl ⟨rfl,rfl⟩
  |cons=>simp at h
 |p::es,ents,i,h=>by
  cases ents with
  |nil=>simp at h
  |cons e ents=>
   simp only[List.map_cons,List.cons.injEq,Prod.mk.injEq]at h;obtain⟨⟨h1,h2⟩,h3⟩:=h;subst hk;have hs:Instr.sameNow .string (.string ⟨s.toArray⟩) e.key=some (decide (s=p.1)):=by rw[h1];simp only[Instr.sameNow,bytes_beq]
   by_cases hp:p.1=s
   ·refine .inr ⟨by simp[fG,hp],0,fun z=>?_,⟨e,rfl,by rw[h1,hp]⟩,fun x=>?_⟩
    ·simp only[Instr.findNow,hs,hp,dL,if_true,decide_true];rw[h2];rfl
    ·simp[dU,hp,h3]
   ·have hs':Instr.sameNow .string (.string ⟨s.toArray⟩) e.key=some false:=by rw[hs];simp[Ne.symm hp]
    rcases va rfl s es ents (i+1) h3 with⟨h4,h5⟩|⟨h4,j,h5,h7,h8⟩
    ·exact .inl ⟨by simp[fG,hp,h4],by simp only[Instr.findNow,hs'];exact h5⟩
    ·refine .inr ⟨by simp[fG,hp,h4],j+1,fun z=>?_,by simpa using h7,fun x=>?_⟩
     ·simp only[Instr.findNow,hs',dL,hp,if_false];rw[h5 z];simp only[Nat.add_assoc,Nat.add_comm 1]
     ·simp[dU,hp,h1,h2,h8 x]
theorem Ev{z:D}{es:List (List UInt8×D)}(h:∀p∈es,fy p.2=true)(hz:fy z=true)(s:List UInt8):fy (dL z es s)=true:=by
 induction es with
 |nil=>exact hz
 |cons p es ih=>
  simp only[dL];split
  ·exact h p sm
  ·exact ih fun q hq=>h q (by simp[hq])
theorem Fw{z:D}{es:List (List UInt8×D)}{s:List UInt8}(h:fG es s=false):dL z es s=z:=by
 induction es with
 |nil=>rfl
 |cons p es ih=>
  simp only[fG]at h;split at h
  ·cases h
  ·rename_i hp;simp[dL,hp,ih h]
theorem CU{es:List (List UInt8×D)}(h:∀p∈es,fy p.2=true)(s:List UInt8){x:D}(hx:fy x=true):∀p∈dU es s x,fy p.2=true:=by
 induction es with
 |nil=>intro p hp;simp[dU]at hp;subst hp;exact hx
 |cons q es ih=>
  intro p hp;simp only[dU]at hp;split at hp
  ·rcases aP.1 hp with rfl|hp
   ·exact hx
   ·exact h p (by simp[hp])
  ·rcases aP.1 hp with rfl|hp
   ·exact h _ sm
   ·exact ih (fun r hr=>h r (by simp[hr])) p hp
theorem CZ{es:List (List UInt8×D)}{s:List UInt8}{x:D}(h:fG es s=false):dU es s x=es++[(s,x)]:=by
 induction es with
 |nil=>rfl
 |cons p es ih=>
  simp only[fG]at h;split at h
  ·cases h
  ·rename_i hp;simp[dU,hp,ih h]
theorem me{I:Nat->Prop}{w:World}{x:D}(h:fy x=true):dV I w (dv x) x:=by cases x<;>first|exact .int _ _|exact .bool _|exact .str _|simp[fy]at h
theorem IU{I:Nat->Prop}{w:World}{x:D}{u:Value}(h:fy x=true)(hr:dV I w u x):u=dv x:=by cases hr<;>first|rfl|simp[fy]at h
def rL(P:Program)(t:TypeId):Option D:=(P.info? t).bind fun i=>i.zero.bind fun v=>match v with| .int k n=>some (.int k n)| .bool b=>some (.bool b)|_=>none
theorem xA{et:TypeId}{z:D}(hz:rL P et=some z):∃v,(∀w,(zeroValue et).run P w=.ok v w)/\v=dv z:=by unfold rL at hz;obtain⟨i,hi,hz⟩:=ab.1 hz;obtain⟨v,hv,hz⟩:=ab.1 hz;refine⟨v,fun w=>by simp[zeroValue,typeInfo,hi,hv],?_⟩;split at hz<;>first|(injection hz with hz;subst hz;rfl)|cases hz
theorem wv(ok:Ok c){t kt et:TypeId}{z:D}{okf:Bool}{b:Nat}{s:List UInt8}{es:List (List UInt8×D)}{ents:Array MapEntry}{clock:Nat}(ht:P.underlying t=some (.map kt et))(hk:P.underlying kt=some .string) (hz:rL P et=some z) (hzs:fy z=true) (hh:c.w.heap[b]? =some (.map ents clock)) (he:ents.toList.map (fun e=>(e.key,e.val))=es.map (fun p=>(Value.string ⟨p.1.toArray⟩,dv p.2))) (hsc:∀p∈es,fy p.2=true) (h:K (if okf then .cm [.d (dL z es s),.d (.bool (fG es s))]else .d (dL z es s)) []):cX c ((Instr.lookup t (.map (some b)) (.string ⟨s.toArray⟩) okf).run P c.w) K:=by
 obtain⟨v,hz1,hzv⟩:=xA hz;subst hzv;have hck:(Instr.checkKey ents.isEmpty 10000 kt (.string ⟨s.toArray⟩)).run P c.w=.ok () c.w:=by rw[Instr.checkKey];simp only[Sem.run_bind,run_underlying hk,Result.andThen,Sem.run_pure]
 rcases va (kind:=.string) rfl s es ents.toList 0 he with⟨h4,h5⟩|⟨h4,j,h5,h7,h8⟩
 ·have hfk:(Instr.findKey kt (.string ⟨s.toArray⟩) ents.toList).run P c.w=.ok none c.w:=by simp only[Instr.findKey,Sem.run_bind,run_underlying hk,Result.andThen,h5];simp
  have hrun:(Instr.lookup t (.map (some b)) (.string ⟨s.toArray⟩) okf).run P c.w=.ok (if okf then .tuple #[dv z,.bool false]else dv z) c.w:=by simp only[Instr.lookup,Sem.run_bind,run_underlying ht,getObj,Sem.run,hh,Result.andThen,Sem.run_pure,hck,hfk,hz1]
  rw[Fw h4,h4]at h;refine cX.same ok h hrun ?_;cases okf with
  |false=>exact .d _ _ (me hzs)
  |true=>
   refine .cm _ _ rfl fun j v x h3 h4=>?_
   match j with
   |0=>simp at h3 h4;subst h3 h4;exact .d _ _ (me hzs)
   |1=>simp at h3 h4;subst h3 h4;exact .d _ _ (.bool _)
   |j+2=>simp at h3
 ·have hfk:(Instr.findKey kt (.string ⟨s.toArray⟩) ents.toList).run P c.w=.ok (some (0+j,dv (dL z es s))) c.w:=by simp only[Instr.findKey,Sem.run_bind,run_underlying hk,Result.andThen,h5 z];simp
  have hrun:(Instr.lookup t (.map (some b)) (.string ⟨s.toArray⟩) okf).run P c.w=.ok (if okf then .tuple #[dv (dL z es s),.bool true]else dv (dL z es s)) c.w:=by simp only[Instr.lookup,Sem.run_bind,run_underlying ht,getObj,Sem.run,hh,Result.andThen,Sem.run_pure,hck,hfk]
  rw[h4]at h;have hgs:=Ev hsc hzs s;refine cX.same ok h hrun ?_;cases okf with
  |false=>exact .d _ _ (me hgs)
  |true=>
   refine .cm _ _ rfl fun j v x h3 h4=>?_
   match j with
   |0=>simp at h3 h4;subst h3 h4;exact .d _ _ (me hgs)
   |1=>simp at h3 h4;subst h3 h4;exact .d _ _ (.bool _)
   |j+2=>simp at h3
theorem Iq(ok:Ok c){t kt et:TypeId}{z:D}{okf:Bool}{m k:bw}{ev:bw->V}{hf:Nat}{um uk:Value}(ht:P.underlying t=some (.map kt et))(hk:P.underlying kt=some .string) (hz:rL P et=some z) (hrm:b7 c um (ev m)) (hrk:b7 c uk (ev k)) (h:bU (.BV okf z m k) ev c.rows hf K):cX c ((Instr.lookup t um uk okf).run P c.w) K:=by
 simp only[bU]at h;split at h
 ·rename_i g s e1 e2;rw[e1]at hrm;rw[e2]at hrk;obtain⟨hzs,h⟩:=h;unfold xE at h;split at h
  ·rename_i es hrow;obtain⟨b,hρ,_,h1⟩:=rH hrm hrow;have hu:=h1 rfl;subst hu;cases hrk with|d _ _ hrk=>
   cases hrk;obtain⟨b',hρ',hg⟩:=ok.g.xS g _ hrow;rw[hρ]at hρ';injection hρ' with hρ';subst hρ'
   obtain⟨ents,clock,hh,he,hsc⟩:=hg;exact wv ok ht hk hz hzs hh he hsc h
  ·exact h.elim
 ·rename_i es s e1 e2;rw[e1]at hrm;rw[e2]at hrk;obtain⟨hzs,h⟩:=h;cases hrk with|d _ _ hrk=>
  cases hrk;cases hrm with|d _ _ hrm=>
  cases hrm with|mp _ b hI ents clock hm he=>
  refine wv (es:=BT es) ok ht hk hz hzs hm ?_ ?_ h
  ·rw[he];simp[BT,dv]
  ·intro p hp;obtain⟨q,_,rfl⟩:=aw.1 hp;rfl
 ·exact h.elim
theorem Iv(ok:Ok c){t kt et:TypeId}{m k v:bw}{ev:bw->V}{hf:Nat}{um uk uv:Value}(ht:P.underlying t=some (.map kt et))(hk:P.underlying kt=some .string) (hrm:b7 c um (ev m)) (hrk:b7 c uk (ev k)) (hrv:b7 c uv (ev v)) (h:bU (.DC m k v) ev c.rows hf K):∃v ups c',K v ups/\(Instr.mapUpdate t um uk uv).run P c.w=.ok () c'.w/\Ok c'/\Ext c c'/\c'.rows=bq c.rows ups/\v=.any:=by
 simp only[bU]at h;split at h
 ·rename_i g s x e1 e2 e3;rw[e1]at hrm;rw[e2]at hrk;rw[e3]at hrv;obtain⟨hxs,h⟩:=h;unfold Gq at h;split at h
  ·rename_i es hrow;obtain⟨b,hρ,_,h1⟩:=rH hrm hrow;have hu:=h1 rfl;subst hu;cases hrk with|d _ _ hrk=>
   cases hrk;cases hrv with|d _ _ hrv=>
   have:=IU hxs hrv;subst this;obtain⟨b',hρ',hg⟩:=ok.g.xS g _ hrow;rw[hρ]at hρ';injection hρ' with hρ';subst hρ'
   have hlt:b<c.w.heap.size:=hg.lt;obtain⟨ents,clock,hh,he,hsc⟩:=hg;have hck:(Instr.checkKey false 10000 kt (.string ⟨s.toArray⟩)).run P c.w=.ok () c.w:=by rw[Instr.checkKey];simp only[Sem.run_bind,run_underlying hk,Result.andThen,Sem.run_pure]
   have fin:∀(ents':Array MapEntry) (clock':Nat),(Instr.mapUpdate t (.map (some b)) (.string ⟨s.toArray⟩) (dv x)).run P c.w=.ok () {c.w with heap:=c.w.heap.setIfInBounds b (.map ents' clock')}->ents'.toList.map (fun e=>(e.key,e.val))=(dU es s x).map (fun p=>(Value.string ⟨p.1.toArray⟩,dv p.2))->∃v ups c',K v ups/\(Instr.mapUpdate t (.map (some b)) (.string ⟨s.toArray⟩) (dv x)).run P c.w=.ok () c'.w/\Ok c'/\Ext c c'/\c'.rows=bq c.rows ups/\v=.any:=by intro ents' clock' hrun hents;obtain⟨h2,h3⟩:=ju ok g b _ (.mp (dU es s x)) (.map ents' clock') hrow hρ {c.w with heap:=c.w.heap.setIfInBounds b (.map ents' clock')} rfl rfl rfl rfl ⟨ents',clock',by simp[hlt],hents,CU hsc s hxs⟩;exact⟨_,_,_,h,hrun,h2,h3,rfl,rfl⟩
   rcases va (kind:=.string) rfl s es ents.toList 0 he with⟨h4,h5⟩|⟨h4,j,h5,h7,h8⟩
   ·have hfk:(Instr.findKey kt (.string ⟨s.toArray⟩) ents.toList).run P c.w=.ok none c.w:=by simp only[Instr.findKey,Sem.run_bind,run_underlying hk,Result.andThen,h5];simp
    refine fin (ents.push ⟨.string ⟨s.toArray⟩,dv x,clock⟩) (clock+1) ?_ ?_
    ·simp only[Instr.mapUpdate,Sem.run_bind,run_underlying ht,getObj,setObj,Sem.run,hh,Result.andThen,Sem.run_pure,hck,hfk]
    ·rw[CZ h4];simp[he]
   ·have hfk:(Instr.findKey kt (.string ⟨s.toArray⟩) ents.toList).run P c.w=.ok (some (0+j,dv (dL (.bool true) es s))) c.w:=by simp only[Instr.findKey,Sem.run_bind,run_underlying hk,Result.andThen,h5 (.bool true)];simp
    obtain⟨e,h9,h10⟩:=h7;have h9':ents[0+j]? =some e:=by simpa using h9
    have hst:(Instr.keyThatStays (.string ⟨s.toArray⟩) (.string ⟨s.toArray⟩)).run P c.w=.ok (.string ⟨s.toArray⟩) c.w:=by
     have:Instr.sameBits 10000 (.string ⟨s.toArray⟩) (.string ⟨s.toArray⟩)=true:=by simp only[Instr.sameBits,bytes_beq,decide_true]
     simp[Instr.keyThatStays,this]
    refine fin (ents.modify (0+j) fun e=>{e with key:=.string ⟨s.toArray⟩,val:=dv x}) clock ?_ ?_
    ·simp only[Instr.mapUpdate,Sem.run_bind,run_underlying ht,getObj,setObj,Sem.run,hh,Result.andThen,Sem.run_pure,hck,hfk,h9',Option.map_some,Option.getD_some,h10,hst]
    ·rw[<-h8 x];simp
  ·exact h.elim
 ·exact h.elim
def zT(P:Program)(f:FuncId):Bool:=match P.funcs[f]? with
 |some fn=>fn.name== "internal/bytealg.IndexByteString" &&fn.body.isNone&&(Extern.findNext fn).isNone
 |none=>false
theorem A4:Extern.allRows.lookup "internal/bytealg.IndexByteString" =some Extern.BytealgIndexByte.indexByte:=by kernel_rfl
theorem Dy:(Extern.allGenericRows.lookup "internal/bytealg.IndexByteString").isNone=true:=by kernel_rfl
theorem DJ:(Extern.allTypedRows.lookup "internal/bytealg.IndexByteString").isNone=true:=by kernel_rfl
theorem D6(ok:Ok c){f:FuncId}{x y:bw}{ev:bw->V}{hf:Nat}{ux uy:Value}(hi:zT P f=true)(hx:b7 c ux (ev x))(hy:b7 c uy (ev y))(h:bU (.iI x y) ev c.rows hf K):∃v ups n c',K v ups/\(callFunc f #[ux,uy]).run P c.w=.ok n c'.w/\Ok c'/\Ext c c'/\c'.rows=bq c.rows ups/\((∃u,n=.value u/\b7 c' u v)\/(n=.skip/\v=.any)):=by
 simp only[bU]at h;split at h
 ·rename_i s b e1 e2;rw[e1]at hx;rw[e2]at hy;cases hx with|d _ _ hx=>
  cases hx;cases hy with|d _ _ hy=>
  cases hy;unfold zT at hi;split at hi
  ·rename_i fn hfn;simp only[av,beq_iff_eq,Option.isNone_iff_eq_none]at hi;obtain⟨⟨hname,hb⟩,hn⟩:=hi;have h2:=Option.isNone_iff_eq_none.1 Dy;have h3:=Option.isNone_iff_eq_none.1 DJ;have hfind:Extern.find fn=some Extern.BytealgIndexByte.indexByte:=by simp only[Extern.find,hname,h2,h3,A4];rfl
   refine⟨_,[],.value (.int .i64 (Lib.indexByte s b.toNat.toUInt8)),c,h,?_,ok,.refl c,rfl,.inl ⟨_,rfl,.d _ _ (.int _ _)⟩⟩;rw[run_callFunc_extern hfn (by rw[hname];rfl) (by rw[hb];rfl) hn hfind,Lib.run_indexByteString];rfl
  ·cases hi
 ·exact h.elim
end
section
variable{P:Program}{c:Cx}{K:V->List (Nat×bd)->Prop}
def Bf(P:Program)(kt:TypeId)(n:Nat):Prop:=∃fs,P.underlying kt=some (.struct fs)/\nw P 0 fs.toList=some (List.replicate n 0)/\P.stoodInHeld kt=false
def Eg(P:Program)(kt:TypeId):Option Nat:=match P.underlying kt with
 |some (.struct fs)=>if P.stoodInHeld kt=false then(nw P 0 fs.toList).bind fun ks=>if ks=List.replicate ks.length 0 then some ks.length else none else none
 |_=>none
theorem tz{kt:TypeId}{n:Nat}(h:Eg P kt=some n):Bf P kt n:=by
 unfold Eg at h;split at h
 ·rename_i fs hu;split at h
  ·rename_i hs;obtain⟨ks,hk,h⟩:=ab.1 h;split at h
   ·rename_i he;injection h with h;subst h
    exact⟨fs,hu,by rw[hk];exact congrArg some he,hs⟩
   ·cases h
  ·cases h
 ·cases h
theorem rM{kt:TypeId}{n:Nat}(hq:Bf P kt n)(em:Bool){s:List Int}(hs:s.length=n)(w:World):(Instr.checkKey em 10000 kt (kq s)).run P w=.ok () w:=by
 obtain⟨fs,hu,hf,_⟩:=hq;have key:∀(l:List Field) (i:Nat) (m:Nat),nw P i l=some (List.replicate m 0)->i+m=s.length->(forIn l PUnit.unit (fun f _=>do
   if f.name≠ "_" then Instr.checkKey em 9999 f.type (<-part f.type (s.map fun n=>Value.int .i64 n).toArray f.offset)
   pure (ForInStep.yield PUnit.unit)):Sem PUnit).run P w=.ok PUnit.unit w:=by
  intro l;induction l with
  |nil=>intro i m _ _;simp
  |cons f l ih=>
   intro i m hk hm;simp only[nw]at hk;split at hk
   ·rename_i hc;obtain⟨hoff,hname⟩:=hc;obtain⟨k,hk1,hk⟩:=ab.1 hk;obtain⟨ks',hk2,hk3⟩:=aa.1 hk;cases m with
    |zero=>simp at hk3
    |succ m=>
     rw[List.replicate_succ]at hk3;injection hk3 with e1 e2
     subst e1 e2;have hut:∃k0,P.underlying f.type=some (.int k0):=by split at hk1<;>first|exact⟨_,by assumption⟩|(injection hk1 with hk1;cases hk1)|cases hk1
     obtain⟨k0,hut⟩:=hut;have hi:i<s.length:=om;have p1:(part f.type (s.map fun n=>Value.int .i64 n).toArray f.offset).run P w=.ok (.int .i64 (s[i]'hi)) w:=by have hag:vU P f.type false:=⟨_,hut,rfl⟩;simp[part,dQ hag,hoff,hi]
     have p2:(Instr.checkKey em 9999 f.type (.int .i64 (s[i]'hi))).run P w=.ok () w:=by rw[Instr.checkKey];simp[run_underlying hut]
     rw[List.forIn_cons];simp only[Sem.run_bind,hname,ne_eq,not_false_eq_true,if_true,p1,p2,Result.andThen_ok,Sem.run_pure];exact ih (i+1) m hk2 om
   ·cases hk
 have:=key fs.toList 0 n hf om;rw[kq,Instr.checkKey];simp only[Sem.run_bind,run_underlying hu,Result.andThen_ok];rw[<-Array.forIn_toList];simp at this|-;rw[this];rfl
theorem Jg:∀(a b:List Int),a.length=b.length->wU (List.replicate a.length 0) (a.map fun n=>V.d (.int .i64 n)) (b.map fun n=>V.d (.int .i64 n))=some (decide (a=b))
 |[],[],_=>by simp[wU]
 |[],_::_,h=>by simp at h
 |_::_,[],h=>by simp at h
 |x::a,y::b,h=>by have:=Jg a b (by simpa using h);simp only[List.length_cons,List.replicate_succ,List.map_cons,wU,if_true,this,Option.map_some,Option.some.injEq];rw[Bool.eq_iff_iff];simp
theorem HW(c:Cx){kt:TypeId}{n:Nat}(hq:Bf P kt n){a b:List Int}(ha:a.length=n)(hb:b.length=n):(Op.equal kt (kq a) (kq b)).run P c.w=.ok (decide (a=b)) c.w:=by
 obtain⟨fs,hu,hf,hst⟩:=hq;have hfo:P.fieldsOf kt=fs:=by simp[Program.fieldsOf,hu]
 have hr:∀(s:List Int) (j:Nat) (v:V),(s.map fun n=>V.d (.int .i64 n))[j]? =some v->∃x,(s.map fun n=>Value.int .i64 n).toArray[0+j]? =some x/\b7 c x v:=by intro s j v hv;rw[ar]at hv;obtain⟨m,hm,rfl⟩:=aa.1 hv;exact⟨.int .i64 m,by simp[hm],.d _ _ (.int _ _)⟩
 have h1:(Op.eqFields 9999 (a.map fun n=>Value.int .i64 n).toArray (b.map fun n=>Value.int .i64 n).toArray fs.toList).run P c.w=.ok (decide (a=b)) c.w:=nF (d:=9998) rfl fs.toList 0 _ _ _ _ hf (by rw[<-ha];exact Jg a b om) (hr a) (hr b);show(Op.equalIn 10000 kt (kq a) (kq b)).run P c.w=_;rw[kq,kq,run_equalIn_struct c.w 9999 kt _ _ (by rw[hfo];exact hu) hst,hfo];exact h1
theorem uJ(c:Cx){kt:TypeId}{n:Nat}(hq:Bf P kt n){s:List Int}(hs:s.length=n):∀(es:List (List Int×D)) (ents:List MapEntry) (i:Nat),ents.map (fun e=>(e.key,e.val))=es.map (fun p=>(kq p.1,dv p.2))->(∀p∈es,p.1.length=n/\fy p.2=true)->(gZ es s=false/\(Instr.findAsking kt (kq s) ents i).run P c.w=.ok none c.w)\/(gZ es s=true/\∃j,(∀z,(Instr.findAsking kt (kq s) ents i).run P c.w=.ok (some (i+j,dv (fY z es s))) c.w)/\(∃e,ents[j]? =some e/\e.key=kq s)/\∀x,(ents.modify j fun e=>{e with key:=kq s,val:=dv x}).map (fun e=>(e.key,e.val))=(gN es s x).map (fun p=>(kq p.1,dv p.2)))
 |[],ents,i,h,_=>by
  cases ents with
  |nil=>exact .inl ⟨rfl,by simp[Instr.findAsking]⟩
  |cons=>simp at h
 |p::es,ents,i,h,hl=>by
  cases ents with
  |nil=>simp at h
  |cons e ents=>
   simp only[List.map_cons,List.cons.injEq,Prod.mk.injEq]at h;obtain⟨⟨h1,h2⟩,h3⟩:=h;have hq1:=HW c hq hs (hl p sm).1;rw[<-h1]at hq1;by_cases hp:p.1=s
   ·refine .inr ⟨by simp[gZ,hp],0,fun z=>?_,⟨e,rfl,by rw[h1,hp]⟩,fun x=>?_⟩
    ·simp only[Instr.findAsking,Sem.run_bind,hq1,Result.andThen_ok,hp,decide_true,if_true,Sem.run_pure,fY];rw[h2];rfl
    ·simp[gN,hp,h3]
   ·have hp':¬s=p.1:=fun e=>hp e.symm;have hq2:=hq1;rw[show decide (s=p.1)=false by simp[hp']]at hq2;rcases uJ c hq hs es ents (i+1) h3 (fun q hh=>hl q (by simp[hh]))with⟨h4,h5⟩|⟨h4,j,h5,h7,h8⟩
    ·exact .inl ⟨by simp[gZ,hp,h4],by simp only[Instr.findAsking,Sem.run_bind,hq2,Result.andThen_ok,Bool.false_eq_true,if_false];exact h5⟩
    ·refine .inr ⟨by simp[gZ,hp,h4],j+1,fun z=>?_,by simpa using h7,fun x=>?_⟩
     ·simp only[Instr.findAsking,Sem.run_bind,hq2,Result.andThen_ok,Bool.false_eq_true,if_false,fY,hp];rw[h5 z];simp only[Nat.add_assoc,Nat.add_comm 1]
     ·simp[gN,hp,h1,h2,h8 x]
theorem EH{z:D}{n:Nat}{es:List (List Int×D)}(h:∀p∈es,p.1.length=n/\fy p.2=true)(hz:fy z=true)(s:List Int):fy (fY z es s)=true:=by
 induction es with
 |nil=>exact hz
 |cons p es ih=>
  simp only[fY];split
  ·exact(h p sm).2
  ·exact ih fun q hq=>h q (by simp[hq])
theorem Dc{z:D}{es:List (List Int×D)}{s:List Int}(h:gZ es s=false):fY z es s=z:=by
 induction es with
 |nil=>rfl
 |cons p es ih=>
  simp only[gZ]at h;split at h
  ·cases h
  ·rename_i hp;simp[fY,hp,ih h]
theorem D5{n:Nat}{es:List (List Int×D)}(h:∀p∈es,p.1.length=n/\fy p.2=true){s:List Int}(hs:s.length=n){x:D}(hx:fy x=true):∀p∈gN es s x,p.1.length=n/\fy p.2=true:=by
 induction es with
 |nil=>intro p hp;simp[gN]at hp;subst hp;exact⟨hs,hx⟩
 |cons q es ih=>
  intro p hp;simp only[gN]at hp;split at hp
  ·rcases aP.1 hp with rfl|hp
   ·exact⟨hs,hx⟩
   ·exact h p (by simp[hp])
  ·rcases aP.1 hp with rfl|hp
   ·exact h _ sm
   ·exact ih (fun r hr=>h r (by simp[hr])) p hp
theorem Eo{es:List (List Int×D)}{s:List Int}{x:D}(h:gZ es s=false):gN es s x=es++[(s,x)]:=by
 induction es with
 |nil=>rfl
 |cons p es ih=>
  simp only[gZ]at h;split at h
  ·cases h
  ·rename_i hp;simp[gN,hp,ih h]
theorem Fy(ok:Ok c){n:Nat}{t:TypeId}{ev:bw->V}{hf:Nat}(hu:c.rows[hf]? =some .un)(h:bU (.q7 n) ev c.rows hf K):cX c ((Instr.makeMap t none).run P c.w) K:=by simp only[bU]at h;obtain⟨h1,h2⟩:=mL ok hf (.mq n []) (.map #[] 0) hu {c.w with heap:=c.w.heap.push (.map #[] 0)} rfl rfl rfl rfl ⟨#[],0,sm,rfl,sm⟩;have hlt:hf<c.rows.length:=(ad.1 hu).1;refine⟨_,_,_,_,h,?_,h1,h2,rfl,.oh _ hf 1 c.w.heap.size (.mq n []) (by simp[hlt]) sm rfl (fun h=>om) (fun _=>rfl)⟩;simp[Instr.makeMap,newObj];rfl
theorem qc:∀{cs:List V} {ns:List Int} {xs:List Value},dG cs=some ns->xs.length=cs.length->(∀(j:Nat) (v:V) (x:Value),cs[j]? =some v->xs[j]? =some x->b7 c x v)->xs=ns.map fun n=>Value.int .i64 n
 |[],ns,xs,h,hl,_=>by
  injection h with h;subst h
  simpa using hl
 |v::cs,ns,xs,h,hl,hr=>by
  cases xs with
  |nil=>simp at hl
  |cons x xs=>
   unfold dG at h;split at h
   ·rename_i h0;cases h0
   ·rename_i n l h0;injection h0 with e1 e2;subst e1 e2
    obtain⟨ns',h1,rfl⟩:=aa.1 h;have:=dw (hr 0 _ x rfl rfl);subst this;have ih:=qc (xs:=xs) h1 (by simpa using hl) (fun j v y h2 h3=>hr (j+1) v y (by simpa using h2) (by simpa using h3));rw[List.map_cons,ih]
   ·cases h
theorem vC{uk:Value}{cs:List V}{ns:List Int}(h:b7 c uk (.agg cs))(hk:dG cs=some ns):uk=kq ns:=by
 cases h with|agg vs _ hlen hrep=>
 have:=qc (xs:=vs.toList) hk (by simpa using hlen) (fun j v x h1 h2=>hrep j v x h1 (by simpa using h2));rw[kq,<-this]
theorem Gw(ok:Ok c){n:Nat}{t kt et:TypeId}{z:D}{okf:Bool}{m k:bw}{ev:bw->V}{hf:Nat}{um uk:Value}(ht:P.underlying t=some (.map kt et))(hq:Bf P kt n) (hz:rL P et=some z) (hrm:b7 c um (ev m)) (hrk:b7 c uk (ev k)) (h:bU (.DK n okf z m k) ev c.rows hf K):cX c ((Instr.lookup t um uk okf).run P c.w) K:=by
 simp only[bU]at h;split at h
 ·rename_i g cs e1 e2;rw[e1]at hrm;rw[e2]at hrk;obtain⟨hzs,h⟩:=h;unfold Db at h;split at h
  ·rename_i mm es s hrow hks;obtain⟨rfl,hs,h⟩:=h;obtain⟨b,hρ,_,h1⟩:=rH hrm hrow;have hu:=h1 rfl;subst hu;have:=vC hrk hks;subst this;obtain⟨b',hρ',hg⟩:=ok.g.xS g _ hrow;rw[hρ]at hρ';injection hρ' with hρ';subst hρ'
   obtain⟨ents,clock,hh,he,hsc⟩:=hg;obtain⟨v,hz1,hzv⟩:=xA hz;subst hzv;have hck:=rM hq ents.isEmpty hs c.w;have hwide:(match P.underlying kt with|some (.array _ _)|some (.struct _)=>true|_=>false)=true:=by obtain⟨fs,hu,_⟩:=hq;rw[hu]
   rcases uJ c hq hs es ents.toList 0 he hsc with⟨h4,h5⟩|⟨h4,j,h5,h7,h8⟩
   ·have hfk:(Instr.findKey kt (kq s) ents.toList).run P c.w=.ok none c.w:=by rw[run_findKey_eq c.w hwide];exact h5
    have hrun:(Instr.lookup t (.map (some b)) (kq s) okf).run P c.w=.ok (if okf then .tuple #[dv z,.bool false]else dv z) c.w:=by simp only[Instr.lookup,Sem.run_bind,run_underlying ht,getObj,Sem.run,hh,Result.andThen,Sem.run_pure,hck,hfk,hz1]
    rw[Dc h4,h4]at h;refine cX.same ok h hrun ?_;cases okf with
    |false=>exact .d _ _ (me hzs)
    |true=>
     refine .cm _ _ rfl fun j v x h3 h4=>?_
     match j with
     |0=>simp at h3 h4;subst h3 h4;exact .d _ _ (me hzs)
     |1=>simp at h3 h4;subst h3 h4;exact .d _ _ (.bool _)
     |j+2=>simp at h3
   ·have hfk:(Instr.findKey kt (kq s) ents.toList).run P c.w=.ok (some (0+j,dv (fY z es s))) c.w:=by rw[run_findKey_eq c.w hwide];exact h5 z
    have hrun:(Instr.lookup t (.map (some b)) (kq s) okf).run P c.w=.ok (if okf then .tuple #[dv (fY z es s),.bool true]else dv (fY z es s)) c.w:=by simp only[Instr.lookup,Sem.run_bind,run_underlying ht,getObj,Sem.run,hh,Result.andThen,Sem.run_pure,hck,hfk]
    rw[h4]at h;have hgs:=EH hsc hzs s;refine cX.same ok h hrun ?_;cases okf with
    |false=>exact .d _ _ (me hgs)
    |true=>
     refine .cm _ _ rfl fun j v x h3 h4=>?_
     match j with
     |0=>simp at h3 h4;subst h3 h4;exact .d _ _ (me hgs)
     |1=>simp at h3 h4;subst h3 h4;exact .d _ _ (.bool _)
     |j+2=>simp at h3
  ·exact h.elim
 ·exact h.elim
theorem Ho(ok:Ok c){n:Nat}{t kt et:TypeId}{m k v:bw}{ev:bw->V}{hf:Nat}{um uk uv:Value}(ht:P.underlying t=some (.map kt et))(hq:Bf P kt n) (hrm:b7 c um (ev m)) (hrk:b7 c uk (ev k)) (hrv:b7 c uv (ev v)) (h:bU (.B9 n m k v) ev c.rows hf K):∃v ups c',K v ups/\(Instr.mapUpdate t um uk uv).run P c.w=.ok () c'.w/\Ok c'/\Ext c c'/\c'.rows=bq c.rows ups/\v=.any:=by
 simp only[bU]at h;split at h
 ·rename_i g cs x e1 e2 e3;rw[e1]at hrm;rw[e2]at hrk;rw[e3]at hrv;obtain⟨hxs,h⟩:=h;unfold Ih at h;split at h
  ·rename_i mm es s hrow hks;obtain⟨rfl,hs,h⟩:=h;obtain⟨b,hρ,_,h1⟩:=rH hrm hrow;have hu:=h1 rfl;subst hu;have:=vC hrk hks;subst this;cases hrv with|d _ _ hrv=>
   have:=IU hxs hrv;subst this;obtain⟨b',hρ',hg⟩:=ok.g.xS g _ hrow;rw[hρ]at hρ';injection hρ' with hρ';subst hρ'
   have hlt:b<c.w.heap.size:=hg.lt;obtain⟨ents,clock,hh,he,hsc⟩:=hg;have hck:=rM hq false hs c.w;have hwide:(match P.underlying kt with|some (.array _ _)|some (.struct _)=>true|_=>false)=true:=by obtain⟨fs,hu,_⟩:=hq;rw[hu]
   have fin:∀(ents':Array MapEntry) (clock':Nat),(Instr.mapUpdate t (.map (some b)) (kq s) (dv x)).run P c.w=.ok () {c.w with heap:=c.w.heap.setIfInBounds b (.map ents' clock')}->ents'.toList.map (fun e=>(e.key,e.val))=(gN es s x).map (fun p=>(kq p.1,dv p.2))->∃v ups c',K v ups/\(Instr.mapUpdate t (.map (some b)) (kq s) (dv x)).run P c.w=.ok () c'.w/\Ok c'/\Ext c c'/\c'.rows=bq c.rows ups/\v=.any:=by intro ents' clock' hrun hents;obtain⟨h2,h3⟩:=ju ok g b _ (.mq mm (gN es s x)) (.map ents' clock') hrow hρ {c.w with heap:=c.w.heap.setIfInBounds b (.map ents' clock')} rfl rfl rfl rfl ⟨ents',clock',by simp[hlt],hents,D5 hsc hs hxs⟩;exact⟨_,_,_,h,hrun,h2,h3,rfl,rfl⟩
   rcases uJ c hq hs es ents.toList 0 he hsc with⟨h4,h5⟩|⟨h4,j,h5,h7,h8⟩
   ·have hfk:(Instr.findKey kt (kq s) ents.toList).run P c.w=.ok none c.w:=by rw[run_findKey_eq c.w hwide];exact h5
    refine fin (ents.push ⟨kq s,dv x,clock⟩) (clock+1) ?_ ?_
    ·simp only[Instr.mapUpdate,Sem.run_bind,run_underlying ht,getObj,setObj,Sem.run,hh,Result.andThen,Sem.run_pure,hck,hfk]
    ·rw[Eo h4];simp[he]
   ·have hfk:(Instr.findKey kt (kq s) ents.toList).run P c.w=.ok (some (0+j,dv (fY (.bool true) es s))) c.w:=by rw[run_findKey_eq c.w hwide];exact h5 (.bool true)
    obtain⟨e,h9,h10⟩:=h7;have h9':ents[0+j]? =some e:=by simpa using h9
    have hst:(Instr.keyThatStays (kq s) (kq s)).run P c.w=.ok (kq s) c.w:=by
     have:Instr.sameBits 10000 (kq s) (kq s)=true:=by
      simp only[kq,Instr.sameBits,beq_self_eq_true,Bool.true_and,aG];intro p hp;obtain⟨x,y⟩:=p;have hxy:x=y:=by obtain⟨i,hi⟩:=List.mem_iff_getElem?.1 hp;rw[List.getElem?_zip_eq_some]at hi;exact Option.some.inj (hi.1.symm.trans hi.2)
      subst hxy;have hm:x∈s.map fun n=>Value.int .i64 n:=by have:=(List.of_mem_zip hp).1;simpa using this
      obtain⟨q,_,rfl⟩:=aw.1 hm;simp[Instr.sameBits]
     simp[Instr.keyThatStays,this]
    refine fin (ents.modify (0+j) fun e=>{e with key:=kq s,val:=dv x}) clock ?_ ?_
    ·simp only[Instr.mapUpdate,Sem.run_bind,run_underlying ht,getObj,setObj,Sem.run,hh,Result.andThen,Sem.run_pure,hck,hfk,h9',Option.map_some,Option.getD_some,h10,hst]
    ·rw[<-h8 x];simp
  ·exact h.elim
 ·exact h.elim
end
section
variable{P:Program}{c:Cx}{K:V->List (Nat×bd)->Prop}
theorem FP(ok:Ok c){t:Array TypeId}{ty:TypeId}{x y z:bw}{ev:bw->V}{hf:Nat}{ux uy uz:Value}(hx:b7 c ux (ev x))(hy:b7 c uy (ev y))(hz:b7 c uz (ev z))(h:bU (.Jo x y z) ev c.rows hf K):cX c ((Builtin.min_ t ty #[ux,uy,uz]).run P c.w) K:=by
 simp only[bU]at h;split at h
 ·rename_i k a k' b k'' d e1 e2 e3;rw[e1]at hx;rw[e2]at hy;rw[e3]at hz;have ex:=dw hx;have ey:=dw hy;have ez:=dw hz;subst ex ey ez;refine cX.same ok h ?_ (cP _ _);have e:(if d<(if b<a then b else a)then d else(if b<a then b else a))=min a (min b d):=by
   generalize hm:(if b<a then b else a)=m;have:m=min a b:=by subst hm;split<;>omega
   split<;>omega
  simp[Builtin.min_,Builtin.min2,e]
 ·exact h.elim
theorem IA(ok:Ok c){t:Array TypeId}{ty:TypeId}{x y z:bw}{ev:bw->V}{hf:Nat}{ux uy uz:Value}(hx:b7 c ux (ev x))(hy:b7 c uy (ev y))(hz:b7 c uz (ev z))(h:bU (.JI x y z) ev c.rows hf K):cX c ((Builtin.max_ t ty #[ux,uy,uz]).run P c.w) K:=by
 simp only[bU]at h;split at h
 ·rename_i k a k' b k'' d e1 e2 e3;rw[e1]at hx;rw[e2]at hy;rw[e3]at hz;have ex:=dw hx;have ey:=dw hy;have ez:=dw hz;subst ex ey ez;refine cX.same ok h ?_ (cP _ _);have e:(if(if a<b then b else a)<d then d else(if a<b then b else a))=max a (max b d):=by
   generalize hm:(if a<b then b else a)=m;have:m=max a b:=by subst hm;split<;>omega
   split<;>omega
  simp[Builtin.max_,Builtin.max2,e]
 ·exact h.elim
theorem Gk(ok:Ok c){t ty e:TypeId}{x:bw}{ev:bw->V}{hf:Nat}{u:Value}(ht:P.underlying t=some (.slice e))(hx:b7 c u (ev x))(h:bU (.cap x) ev c.rows hf K):cX c ((Builtin.cap_ #[t] ty #[u]).run P c.w) K:=by
 simp only[bU]at h;split at h
 ·rename_i e1;rw[e1]at hx;have:=fx hx;subst this;refine cX.same ok h ?_ (cP _ _);simp[Builtin.cap_,run_underlying ht,goInt]
 ·exact h.elim
theorem EV(ok:Ok c){t e:TypeId}{sz:Nat}{x hi mx:bw}{ev:bw->V}{hf:Nat}{u uh um:Value}(ht:P.underlying t=some (.slice e))(hs:nL P e sz) (hr:b7 c u (ev x)) (hh:b7 c uh (ev hi)) (hm:b7 c um (ev mx)) (h:bU (.clip sz x hi mx) ev c.rows hf K):cX c ((Instr.sliceAt t u none (some uh) (some um)).run P c.w) K:=by
 simp only[bU]at h;split at h
 ·rename_i s es e1;rw[e1]at hr;obtain⟨gW,rfl,h⟩:=h;obtain⟨k1,r,rfl,h⟩:=mc hh h;obtain⟨k2,m,rfl,h⟩:=mc hm h;obtain⟨rfl,rfl,hk⟩:=h;cases hr with|d _ _ hr=>
  have fin:∀(a:Option Addr) (cap:Nat),es.length<=cap->(Instr.sliceAt t (.slice a es.length cap) none (some (.int k1 es.length)) (some (.int k2 es.length))).run P c.w=.ok (.slice (if es.length=0 then a else a.map (·.add 0)) es.length es.length) c.w:=by intro a cap hc;have h1:(es.length:Int)<=cap:=om;have h2:¬cap<es.length:=om;simp[Instr.sliceAt,run_underlying ht,Instr.slice,Instr.sliceBounds,Instr.sliceBound,asIntOf,h1,hc,cu hs]
  have addz:∀(b:Addr),b.add 0=b:=fun b=>by cases b;simp[Addr.add]
  generalize hes:es=es' at*;have hr0:=hr;cases hr with
  |lT=>subst hes;refine cX.same ok hk (u:=.slice none 0 0) ?_ (.d _ _ (.BZ _ _ _ hr0 ⟨_,_,rfl⟩));have:=fin none 0 (aq _);simpa using this
  |kK _ a cap=>subst hes;refine cX.same ok hk (u:=.slice (some a) 0 0) ?_ (.d _ _ (.BZ _ _ _ (.kK _ _ _) ⟨_,_,rfl⟩));have:=fin (some a) cap (Nat.zero_le _);simpa using this
  |sl _ _ b off cap u hcap hI hsz hcell hrep=>subst hes;refine cX.same ok hk (u:=.slice (some ⟨b,off,none⟩) es.length es.length) ?_ (.d _ _ (.BZ _ _ _ (.sl _ es b off es.length u (aq _) hI hsz hcell hrep) ⟨_,_,rfl⟩));rw[fin _ cap hcap];simp only[Option.map_some,addz,ite_self]
 ·exact h.elim
theorem Fp(ok:Ok c){t tn ty e:TypeId}{kn:IntKind}{sz bytes:Nat}{zero:List D}{s x:bw}{ev:bw->V}{hf:Nat}{us ux:Value}(hu:c.rows[hf]? =some .un)(ht:P.underlying t=some (.slice e))(htn:P.underlying tn=some (.int kn)) (hi:∃i,P.info? e=some i/\i.size=sz/\i.bytes=bytes) (hz:iX P e zero) (hzl:zero.length=sz) (hb0:bytes≠0) (hs0:sz≠0) (hrs:b7 c us (ev s)) (hrx:b7 c ux (ev x)) (h:bU (.sM sz bytes zero s x) ev c.rows hf K):cX c ((Builtin.append_ #[t,tn] ty #[us,ux]).run P c.w) K:=by
 simp only[bU]at h;split at h
 ·rename_i n e1 e2;rw[e1]at hrs;rw[e2]at hrx;have:=fx hrs;subst this;have:=dw hrx;subst this;obtain⟨hn,hby,hk⟩:=h;obtain⟨i,hi,hsz,hbb⟩:=hi;obtain⟨i',z,hi',hz1,hz2,hz3,hz4⟩:=hz;rw[hi]at hi';injection hi' with hi';subst hi'
  obtain⟨k,rfl⟩:∃k:Nat,n=k:=⟨n.toNat,om⟩;simp only[Int.toNat_natCast]at hk;have hk0:0<k:=om;have hby':k*bytes<=bM:=by exact_mod_cast hby
  have hkm:k<=bM:=Nat.le_trans (Nat.le_mul_of_pos_right _ (Nat.pos_of_ne_zero hb0)) hby';unfold bM at hkm hby';have hnc:Builtin.nextslicecap (0+k) 0=k:=by unfold Builtin.nextslicecap;simp[hk0]
  have hrun:=Lib.run_append_grow_zeros (P:=P) c.w t tn ty e i z .i64 kn ht htn hi hz1 none 0 0 [] (by simp[Builtin.firstCells]) k hk0 om om om (by rw[hbb];omega) (by rw[hnc,hbb];omega);generalize hg:grownCap c.w (0+k) 0 e=gc at hrun;have hgc:0+k<=gc:=by subst hg;exact grownCap_ge _ _ _ _
  have hlt:hf<c.rows.length:=(ad.1 hu).1;have hzc:Builtin.zeroCells z.cells k=ej z.cells (k*sz):=by unfold Builtin.zeroCells ej;rw[hz3,hzl]
  have hc0:=mY (c:=c) (n:=k) hzl om hs0 hz4 (k*sz) (aq _);have hc1:=jK (c:=c) (sz:=sz) (es:=[]) (xs:=List.replicate k (zero.map V.d)) (A:=[]) (B:=(ej z.cells (k*sz)).toList) (rest:=(Builtin.zeroCells z.cells (gc-(0+k))).toList) sm (by simp[ej]) ⟨sm,sm,sm⟩ (by simpa using hc0);have harr:(#[]++Builtin.zeroCells z.cells k++Builtin.zeroCells z.cells (gc-(0+k)))=([]++(ej z.cells (k*sz)).toList++(Builtin.zeroCells z.cells (gc-(0+k))).toList).toArray:=by rw[hzc];simp
  have hal:=jI ok hf sz ([]++List.replicate k (zero.map V.d)) _ e (0,0) (.inl hu) (fun i _=>sm) hc1 (c.w.drew.alloc (.cells ([]++(ej z.cells (k*sz)).toList++(Builtin.zeroCells z.cells (gc-(0+k))).toList).toArray e)) rfl rfl rfl rfl;refine⟨_,_,.slice (some ⟨c.w.heap.size,0,none⟩) (0+k) gc,_,hk,?_,hal.1,hal.2,rfl,?_⟩
  ·rw[hrun,harr]
  ·rw[Nat.zero_add];refine .cl _ _ _ _ _ gc c.w.heap.size 0 (List.replicate k (zero.map .d)) _ e (0,0) (by simp[hlt]) sm sm (mh rfl) (.inl sm) ?_ om om;simp[ej,Builtin.zeroCells,hz3,hzl];rw[<-Nat.add_mul];exact Nat.mul_le_mul_right _ om
 ·exact h.elim
theorem Cv(ok:Ok c){T:TypeId}{d:TypeDesc}{x:bw}{ev:bw->V}{hf:Nat}{u:Value}(ht:P.underlying T=some d)(hd:∀m,d≠ .interface m)(hr:b7 c u (ev x))(h:bU (.qi T x) ev c.rows hf K):cX c ((Instr.makeInterface T u).run P c.w) K:=by
 simp only[bU]at h;split at h
 ·rename_i cs e1;rw[e1]at hr;unfold BQ at h;split at h
  ·rename_i ns hns;have:=vC hr hns;subst this;refine cX.same ok h ?_ (.gV _ _ _ rfl);unfold Instr.makeInterface;simp only[Sem.run_bind,run_underlying ht,Result.andThen_ok];cases d<;>first|rfl|exact absurd rfl (hd _)
  ·exact h.elim
 ·exact h.elim
theorem Ik{u:Value}{ns:List Int}(h:yC u=some ns):u=kq ns:=by
 cases u with
 |agg a=>
  simp only[yC]at h;have key:∀(l:List Value) (ns:List Int),(l.mapM fun| .int .i64 n=>some n|_=>none)=some ns->l=ns.map fun n=>Value.int .i64 n:=by
   intro l;induction l with
   |nil=>intro ns h;simp at h;subst h;rfl
   |cons x l ih=>
    intro ns h;simp only[List.mapM_cons,Option.bind_eq_bind,Option.pure_def]at h;obtain⟨n,h1,h⟩:=ab.1 h;obtain⟨r,h2,h⟩:=ab.1 h;injection h with h;subst h
    split at h1
    ·injection h1 with h1;subst h1
     rw[List.map_cons,<-ih r h2]
    ·cases h1
  have:=key _ _ h;unfold kq;rw[<-this]
 |_=>simp[yC]at h
theorem Gj(ns:List Int):yC (kq ns)=some ns:=by
 unfold kq;simp only[yC];induction ns with
 |nil=>rfl
 |cons n ns ih=>simp only[List.map_cons,List.mapM_cons,Option.bind_eq_bind,ih];rfl
theorem Lq{c:Cx}(ns:List Int):b7 c (kq ns) (.agg (ns.map fun n=>.d (.int .i64 n))):=by refine .agg _ _ sm fun j v x h1 h2=>?_;rw[ar]at h1;obtain⟨n,hn,rfl⟩:=aa.1 h1;simp[hn]at h2;subst h2;exact cP _ _
theorem De(ok:Ok c){T xt:TypeId}{fs:Array Field}{z:List D}{x:bw}{ev:bw->V}{hf:Nat}{u:Value}(ht:P.underlying T=some (.struct fs))(hz:iX P T z)(hs:∃i a,P.info? T=some i/\i.zero=some (.agg a))(hr:b7 c u (ev x))(h:bU (.xq T z x) ev c.rows hf K):cX c ((Instr.typeAssert u xt T true).run P c.w) K:=by
 simp only[bU]at h;split at h
 ·rename_i T' v e1;rw[e1]at hr;cases hr with|gV _ _ _ hv=>
  unfold tB at h;split at h
  ·have hv:u=.nilIface:=hv;subst hv;obtain⟨i,zv,h1,h2,h3,h4,h5⟩:=hz;obtain⟨i',a,h6,h7⟩:=hs;rw[h1]at h6;injection h6 with h6;subst h6
   rw[h2]at h7;injection h7 with h7;subst h7
   have hzr:(zeroValue T).run P c.w=.ok (.agg a) c.w:=by simp[zeroValue,typeInfo,h1,h2]
   have hc:(Value.agg a).cells=a:=rfl;rw[hc]at h4 h5;refine cX.same ok h (u:=.tuple #[.agg a,.bool false]) ?_ ?_
   ·unfold Instr.typeAssert;simp only[Sem.run_bind,run_underlying ht,Result.andThen_ok];simp[hzr]
   ·refine .cm _ _ rfl fun j v x h6 h7=>?_
    match j with
    |0=>simp at h6 h7;subst h6 h7;refine .agg _ _ (by simpa using h4) fun j v x h8 h9=>?_;rw[ar]at h8;obtain⟨d,h10,rfl⟩:=aa.1 h8;exact .d _ _ ((h5 j d x h10 h9).mono (fun _ h=>h.elim) (fun _ h=>h.elim))
    |1=>simp at h6 h7;subst h6 h7;exact ew _
    |j+2=>simp at h6
  ·rename_i hn;split at h
   ·rename_i ns hk;have:=Ik hk;subst this;obtain⟨rfl,h⟩:=h;have hv:u=.iface T' (kq ns):=hv;subst hv;refine cX.same ok h (u:=.tuple #[kq ns,.bool true]) ?_ ?_
    ·unfold Instr.typeAssert;simp only[Sem.run_bind,run_underlying ht,Result.andThen_ok];simp
    ·refine .cm _ _ rfl fun j v x h6 h7=>?_
     match j with
     |0=>simp at h6 h7;subst h6 h7;exact Lq ns
     |1=>simp at h6 h7;subst h6 h7;exact ew _
     |j+2=>simp at h6
   ·exact h.elim
 ·exact h.elim
theorem s3(ok:Ok c){op:BinOp}{neg:Bool}{t:TypeId}{ms:Array (String×TypeId)}{x:Operand}{ax:bw}{ev:bw->V}{hf:Nat}{ux uy:Value}(huy:uy=.nilIface)(ht:P.underlying t=some (.interface ms)) (hop:op=(if neg then .neq else .eql)) (hx:b7 c ux (ev ax)) (h:bU (.nu neg ax) ev c.rows hf K):cX c ((do eqGuard op t x (.const .nilIface) ux uy;binOp op t ux uy:Sem Value).run P c.w) K:=by
 subst huy;simp only[bU]at h;split at h
 ·rename_i T e1;rw[e1]at hx;cases hx with|gV _ _ _ hv=>
  have hv:ux=.nilIface:=hv;subst hv;refine cX.same ok h ?_ (ew _);have he:(Op.equal t .nilIface .nilIface).run P c.w=.ok true c.w:=by
   have key:∀m,(Op.equalIn (m+1) t .nilIface .nilIface).run P c.w=.ok true c.w:=fun m=>by simp[Op.equalIn,run_underlying ht]
   exact key 9999
  cases neg
  ·simp only[Bool.false_eq_true,if_false]at hop|-;subst hop;simp[eqGuard,binOp,he]
  ·simp only[if_true]at hop|-;subst hop;simp[eqGuard,binOp,he]
 ·exact h.elim
end
end Go.Vx
