/- Proved: rules of a compiled form of the code, sound for the model. Conditions: none but those that each lemma states. -/
import Derived.Test.YtmhkppbollghoaaGreatDoorXc
set_option linter.unusedSectionVars false
set_option linter.unusedSimpArgs false
set_option linter.unusedVariables false
namespace Go.Vx
def lJ(P:Program)(t:TypeId):Option Nat:=(P.info? t).map (·.size)
def HK(P:Program)(t:TypeId):Option Nat:=(P.info? t).map (·.bytes)
def ti(P:Program)(t:TypeId):Option Bool:=(P.underlying t).map fun d=>match d with| .struct _| .array _ _=>true|_=>false
def En:Value->Option D
 | .int k n=>some (.int k n)
 | .bool b=>some (.bool b)
 | .string s=>some (.str s.data.toList)
 | .slice none 0 0=>some .bm
 | .pointer none=>some .kY
 |_=>none
def Kc(v:Value):Option D:=match En v with
 |some d=>some d
 |none=>if v.oneCell'=true then some .yr else none
def Hn:Value->Option V
 | .agg cs=>(cs.toList.mapM En).map fun l=>.agg (l.map .d)
 |v=>(En v).map .d
def bu:Operand->Option bw
 | .tmp t=>some (.t t)
 | .const v=>some (.k ((Hn v).getD .any))
 | .func f=>some (.k (.fn (.func f) [] []))
 | .global g=>if g=0 then some (.k (.d (.ptr [M0])))else none
def qD:Option Operand->Option (Option bw)
 |none=>some none
 |some x=>(bu x).map some
def zeroOf(P:Program)(t:TypeId):Option (List D):=(P.info? t).bind fun i=>i.zero.bind fun z=>(z.cells.toList.mapM Kc).bind fun l=>if i.size=l.length then some l else none
def yM(P:Program)(t:TypeId):Bool:=match(P.info? t).bind (·.zero)with|some (.agg _)=>true|_=>false
def uj:Operand->Bool
 | .const .nilIface=>true
 |_=>false
def wO(P:Program)(t:TypeId):Option TypeId:=match P.underlying t with
 |some (.slice e)=>some e
 |_=>none
def Gl(P:Program)(e:TypeId):Bool:=match P.underlying e with|some (.int .u8)=>true|_=>false
def Ee(P:Program)(t:TypeId):Bool:=match P.underlying t with|some .string=>true|some (.slice _)=>true|_=>false
def rG(P:Program)(fs:Array Field)(p:Nat×Operand):Option (Nat×Nat×bw):=(fs[p.1]?).bind fun f=>(lJ P f.type).bind fun sz=>(bu p.2).map fun x=>(f.offset,sz,x)
def rf(P:Program)(o:Op)(ty:TypeId):Option iE:=match o with
 | .move x=>(bu x).map .gC
 | .assign x=>(bu x).map .gC
 | .pick c a b=>(bu c).bind fun c=>(bu a).bind fun a=>(bu b).map fun b=>.pick c a b
 | .alloc e=>(zeroOf P e).map .alloc
 | .box e x=>(lJ P e).bind fun sz=>(bu x).map fun x=>.box sz x
 | .build t parts=>
  (zeroOf P t).bind fun z=>
  match P.underlying t with
  |some (.struct fs)=>if fs.toList.all (fun f=>(lJ P f.type).isSome)then(parts.toList.mapM (rG P fs)).map fun ps=>.build z ps else none
  |some (.array _ e)=>(lJ P e).bind fun sz=>(parts.toList.mapM fun p=>(bu p.2).map fun x=>(p.1*sz,sz,x)).map fun ps=>.build z ps
  |_=>none
 | .buildSlice t len parts=>(wO P t).bind fun e=>(zeroOf P e).bind fun z=>if z.length≠0/\len*z.length<=16777216 then(parts.toList.mapM fun p=>(bu p.2).map fun x=>(p.1,x)).map fun ps=>.b5 z.length len z ps else none
 | .load t a=>(ti P t).bind fun ag=>(lJ P t).bind fun sz=>(bu a).map fun a=>.load ag sz a
 | .store t a x=>(lJ P t).bind fun sz=>(bu a).bind fun a=>(bu x).map fun x=>.store sz a x
 | .nilCheck x=>(bu x).map .g7
 | .binOp op t x y0 _=>
  (bu x).bind fun x=>(bu y0).bind fun y=>
   match op,P.underlying t with
   | .eql,some (.interface _)=>if uj y0=true then some (.nu false x)else none
   | .neq,some (.interface _)=>if uj y0=true then some (.nu true x)else none
   | .eql,some .bool=>some (.Ft false x y)
   | .neq,some .bool=>some (.Ft true x y)
   | .eql,some (.struct fs)=>if P.stoodInHeld t=false/\P.eqGuardType P.depth t=false then(nw P 0 fs.toList).map fun ks=>.FK false ks x y else none
   | .neq,some (.struct fs)=>if P.stoodInHeld t=false/\P.eqGuardType P.depth t=false then(nw P 0 fs.toList).map fun ks=>.FK true ks x y else none
   | .eql,some (.slice _)=>some (.isNil false x y)
   | .neq,some (.slice _)=>some (.isNil true x y)
   |op,some (.int _)=>some (.bin op x y)
   |op,some .string=>some (.bin op x y)
   |_,_=>none
 | .unOp op _ x=>(bu x).map fun x=>.un op x
 | .convert src dst x=>
  (bu x).bind fun x=>
   match P.underlying src,P.underlying dst with
   |some (.int _),some (.int k)=>some (.conv k x)
   |some .string,some .string=>some (.same x)
   |some .string,some (.slice e)=>if Gl P e=true then some (.HI x)else none
   |some (.slice e),some .string=>if Gl P e=true then some (.BW x)else none
   |_,_=>none
 | .makeFunc f first cap=>(first.toList.mapM bu).bind fun a=>(cap.toList.mapM bu).map fun b=>.eG f a b
 | .makeSlice t l c=>(wO P t).bind fun e=>(zeroOf P e).bind fun z=>(HK P e).bind fun by_=>if z.length≠0 then(bu l).bind fun l=>(bu c).map fun c=>.jH z.length by_ z l c else none
 | .slice t x lo hi none=>
  (bu x).bind fun x=>(qD lo).bind fun lo=>(qD hi).bind fun hi=>
   match P.underlying t with
   |some .string=>some (.slice 0 x lo hi)
   |some (.slice e)=>(lJ P e).bind fun sz=>if sz≠0 then some (.slice sz x lo hi)else none
   |_=>none
 | .slice t x none (some hi) (some mx)=>
  (bu x).bind fun x=>(bu hi).bind fun hi=>(bu mx).bind fun mx=>
   match P.underlying t with
   |some (.slice e)=>(lJ P e).bind fun sz=>if sz≠0 then some (.clip sz x hi mx)else none
   |_=>none
 | .makeInterface T x=>(bu x).bind fun x=>
  match P.underlying T with
  |some (.interface _)=>none
  |some _=>some (.qi T x)
  |none=>none
 | .typeAssert x _ T true=>(bu x).bind fun x=>
  match P.underlying T with
  |some (.struct _)=>if yM P T=true then(zeroOf P T).map fun z=>.xq T z x else none
  |_=>none
 | .call {callee:=.builtin .cap,args,argTypes}=>
  match args.toList,argTypes.toList with
  |[x],[t]=>(bu x).bind fun x=>(wO P t).map fun _=>.cap x
  |_,_=>none
 | .fieldAddr s x n=>
  (bu x).bind fun x=>
   match P.underlying s with
   |some (.struct fs)=>(fs[n]?).bind fun f=>(lJ P f.type).bind fun sz=>if sz≠0 then some (.nf f.offset x)else none
   |_=>none
 | .field s x n=>
  (bu x).bind fun x=>
   match P.underlying s with
   |some (.struct fs)=>(fs[n]?).bind fun f=>(lJ P f.type).bind fun sz=>(ti P f.type).map fun ag=>.H8 f.offset sz ag x
   |_=>none
 | .indexAddr t x i=>
  (bu x).bind fun x=>(bu i).bind fun i=>
   match P.underlying t with
   |some (.slice e)=>(lJ P e).map fun sz=>.fD sz none x i
   |some (.array n e)=>(lJ P e).map fun sz=>.fD sz (some n) x i
   |_=>none
 | .index t x i=>
  (bu x).bind fun x=>(bu i).bind fun i=>
   match P.underlying t with
   |some .string=>some (.iL x i)
   |some (.array n e)=>(lJ P e).bind fun sz=>(ti P e).map fun ag=>.idx sz n ag x i
   |_=>none
 | .extract x i=>(bu x).map fun x=>.ext x i
 | .call {callee:=.builtin .len,args,argTypes}=>
  match args.toList,argTypes.toList with
  |[x],[t]=>(bu x).bind fun x=>match P.underlying t with
   |some .string=>some (.len true x)
   |some (.slice _)=>some (.len false x)
   |_=>none
  |_,_=>none
 | .call {callee:=.builtin .append,args,argTypes}=>
  match args.toList,argTypes.toList with
  |[s,x],[t,t']=>(bu s).bind fun s=>(bu x).bind fun x=>(wO P t).bind fun e=>(zeroOf P e).bind fun z=>(HK P e).bind fun by_=>if z.length≠0/\by_≠0 then(if Ee P t'=true then some (.append z.length by_ s x)else match P.underlying t' with|some (.int _)=>some (.sM z.length by_ z s x)|_=>none)else none
  |_,_=>none
 | .call {callee:=.builtin .copy,args,argTypes}=>
  match args.toList,argTypes.toList with
  |[d,s],[t,_]=>(bu d).bind fun d=>(bu s).bind fun s=>(wO P t).bind fun e=>(lJ P e).map fun sz=>.copy sz d s
  |_,_=>none
 | .call {callee:=.builtin .clear,args,argTypes}=>
  match args.toList,argTypes.toList with
  |[x],[t]=>(bu x).bind fun x=>(wO P t).bind fun e=>(zeroOf P e).bind fun z=>if z.length≠0 then some (.Gf z.length z x)else none
  |_,_=>none
 | .call {callee:=.builtin .min,args,argTypes:=_}=>
  match args.toList with
  |[x,y]=>(bu x).bind fun x=>(bu y).map fun y=>.mn x y
  |[x,y,z]=>(bu x).bind fun x=>(bu y).bind fun y=>(bu z).map fun z=>.Jo x y z
  |_=>none
 | .call {callee:=.builtin .max,args,argTypes:=_}=>
  match args.toList with
  |[x,y]=>(bu x).bind fun x=>(bu y).map fun y=>.mx x y
  |[x,y,z]=>(bu x).bind fun x=>(bu y).bind fun y=>(bu z).map fun z=>.JI x y z
  |_=>none
 | .call {callee:=.value (.func f),args,argTypes:=_}=>
  match args.toList,zT P f with
  |[x,y],true=>(bu x).bind fun x=>(bu y).map fun y=>.iI x y
  |_,_=>none
 | .range t x=>(bu x).bind fun x=>match P.underlying t with
  |some .string=>some (.qB x)
  |_=>none
 | .next x true=>(bu x).map .FO
 | .makeMap t none=>match P.underlying t with
  |some (.map kt _)=>match Eg P kt with
   |some n=>some (.q7 n)
   |none=>some .mz
  |_=>none
 | .lookup t m k ok=>(bu m).bind fun m=>(bu k).bind fun k=>match P.underlying t with
  |some (.map kt et)=>match P.underlying kt with
   |some .string=>(rL P et).map fun z=>.BV ok z m k
   |_=>(Eg P kt).bind fun n=>(rL P et).map fun z=>.DK n ok z m k
  |_=>none
 | .mapUpdate t m k v=>(bu m).bind fun m=>(bu k).bind fun k=>(bu v).bind fun v=>match P.underlying t with
  |some (.map kt _)=>match P.underlying kt with
   |some .string=>some (.DC m k v)
   |_=>(Eg P kt).map fun n=>.B9 n m k v
  |_=>none
 |_=>none
def iz(P:Program)(o:Op)(ty:TypeId):iE:=(rf P o ty).getD .bad
def iE.makes:iE->Bool
 | .qB _| .mz| .HI _| .alloc _| .box _ _| .b5 _ _ _ _| .jH _ _ _ _ _| .append _ _ _ _| .q7 _| .sM _ _ _ _ _=>true
 |_=>false
section
variable{P:Program}{c:Cx}
theorem dK{t:TypeId}{sz:Nat}(h:lJ P t=some sz):nL P t sz:=by unfold lJ at h;obtain⟨i,hi,rfl⟩:=aa.1 h;exact⟨i,hi,rfl⟩
theorem ld{t:TypeId}{b:Bool}(h:ti P t=some b):vU P t b:=by unfold ti at h;obtain⟨d,hd,rfl⟩:=aa.1 h;refine⟨d,hd,?_⟩;cases d<;>rfl
theorem rJ{v:Value}{x:D}(h:En v=some x)(I:Nat->Prop)(w:World):dV I w v x:=by unfold En at h;split at h<;>first|(injection h with h;subst h;first|exact .int _ _|exact .bool _|exact .bm|exact .kY|exact .str _)|cases h
theorem Dx{v:Value}{x:D}(h:Kc v=some x)(I:Nat->Prop)(w:World):dV I w v x:=by
 unfold Kc at h;split at h
 ·rename_i d hd;injection h with h;subst h;exact rJ hd I w
 ·split at h
  ·rename_i hv;injection h with h;subst h;exact .yr _ hv
  ·cases h
theorem jy{α β:Type}{f:α->Option β}:∀{l:List α} {l':List β},l.mapM f=some l'->l'.length=l.length/\∀(j:Nat) (x:α) (y:β),l[j]? =some x->l'[j]? =some y->f x=some y
 |[],l',h=>by simp at h;subst h;exact⟨rfl,fun j x y h1=>by simp at h1⟩
 |a::l,l',h=>by
  rw[List.mapM_cons]at h;cases ha:f a with
  |none=>simp[ha]at h
  |some b=>
   cases hl:l.mapM f with
   |none=>simp[ha,hl]at h
   |some bs=>
    simp[ha,hl]at h;subst h;obtain⟨h1,h2⟩:=jy hl;refine⟨by simp[h1],fun j x y h3 h4=>?_⟩;cases j with
    |zero=>simp at h3 h4;subst h3 h4;exact ha
    |succ j=>exact h2 j x y (by simpa using h3) (by simpa using h4)
theorem CM{v:Value}{x:V}(h:Hn v=some x):b7 c v x:=by
 unfold Hn at h;split at h
 ·rename_i cs;obtain⟨l,hl,rfl⟩:=aa.1 h;obtain⟨h1,h2⟩:=jy hl;refine .agg _ _ (by simp;simpa using h1.symm) (fun j v x h3 h4=>?_);simp only[ar]at h3;obtain⟨d,hd,rfl⟩:=aa.1 h3;exact .d _ _ (rJ (h2 j x d (by simpa using h4) hd) _ _)
 ·obtain⟨d,hd,rfl⟩:=aa.1 h;exact .d _ _ (rJ hd _ _)
theorem de{t:TypeId}{z:List D}(h:zeroOf P t=some z):iX P t z:=by
 unfold zeroOf at h;obtain⟨i,hi,h⟩:=ab.1 h;obtain⟨v,hv,h⟩:=ab.1 h;obtain⟨l,hl,h⟩:=ab.1 h;split at h
 ·rename_i hs;injection h with h;subst h
  obtain⟨h1,h2⟩:=jy hl;exact⟨i,v,hi,hv,hs,by simpa using h1.symm,fun j d x h3 h4=>Dx (h2 j x d (by simpa using h4) h3) _ _⟩
 ·cases h
theorem wW{t:TypeId}(h:yM P t=true):∃i a,P.info? t=some i/\i.zero=some (.agg a):=by
 unfold yM at h;split at h
 ·rename_i a e;obtain⟨i,h1,h2⟩:=ab.1 e;exact⟨i,a,h1,h2⟩
 ·cases h
theorem qa{x:Operand}(h:uj x=true):x=.const .nilIface:=by
 unfold uj at h;split at h
 ·rfl
 ·cases h
theorem hU{t e:TypeId}(h:wO P t=some e):P.underlying t=some (.slice e):=by
 unfold wO at h;split at h
 ·injection h with h;subst h;assumption
 ·cases h
end
section
variable{P:Program}{c:Cx}{K:V->List (Nat×bd)->Prop}
def KY(c:Cx)(r:Result Next)(K:V->List (Nat×bd)->Prop):Prop:=∃v ups n c',K v ups/\r=.ok n c'.w/\Ok c'/\Ext c c'/\c'.rows=bq c.rows ups/\((∃u,n=.value u/\b7 c' u v)\/(n=.skip/\v=.any))
theorem cX.gR{s:Sem Value}(h:cX c (s.run P c.w) K):KY c ((do pure (.value (<-s)):Sem Next).run P c.w) K:=by obtain⟨v,ups,u,c',h1,h2,h3,h4,h5,h6⟩:=h;exact⟨v,ups,.value u,c',h1,by simp[h2],h3,h4,h5,.inl ⟨u,rfl,h6⟩⟩
theorem oi{ρ:Operand->Value}{ev:bw->V}(hev:∀x o,bu x=some o->b7 c (ρ x) (ev o)){o:Option Operand}{o':Option bw}(h:qD o=some o'):uf c ev o' (o.map ρ):=by
 unfold qD at h;cases o with
 |none=>injection h with h;subst h;trivial
 |some x=>obtain⟨y,hy,rfl⟩:=aa.1 h;exact hev x y hy
theorem mG{ρ:Operand->Value}{ev:bw->V}(hev:∀x o,bu x=some o->b7 c (ρ x) (ev o)){l:Array Operand}{l':List bw}(h:l.toList.mapM bu=some l'):(l.map ρ).size=(l'.map ev).length/\∀(j:Nat) (v:V) (x:Value),(l'.map ev)[j]? =some v->(l.map ρ)[j]? =some x->b7 c x v:=by obtain⟨h1,h2⟩:=jy h;refine⟨by simpa using h1.symm,fun j v x h3 h4=>?_⟩;simp only[ar]at h3;obtain⟨o,ho,rfl⟩:=aa.1 h3;simp only[Array.getElem?_map]at h4;obtain⟨y,hy,rfl⟩:=aa.1 h4;exact hev y o (h2 j y o (by simpa using hy) ho)
theorem zX{e:TypeId}(h:Gl P e=true):P.underlying e=some (.int .u8):=by
 unfold Gl at h;split at h
 ·assumption
 ·cases h
theorem Fa{t:TypeId}(h:Ee P t=true):∃d,P.underlying t=some d/\(d=.string\/∃e',d=.slice e'):=by
 unfold Ee at h;split at h
 ·rename_i h1;exact⟨_,h1,.inl rfl⟩
 ·rename_i e h1;exact⟨_,h1,.inr ⟨e,rfl⟩⟩
 ·cases h
theorem pE{e:TypeId}{z:List D}{b:Nat}(hz:iX P e z)(h:HK P e=some b):∃i,P.info? e=some i/\i.size=z.length/\i.bytes=b:=by
 unfold HK at h;obtain⟨i,hi,rfl⟩:=aa.1 h;obtain⟨i',v,hi',_,hs,_⟩:=hz;rw[hi]at hi';injection hi' with hi';subst hi'
 exact⟨i,hi,hs,rfl⟩
theorem tN{ρ:Operand->Value}{o:Oper}{x:Operand}{a:Addr}(ho:o.op=.nilCheck x)(h:ρ x=.pointer (some a))(w:World):(execOp ρ o).run P w=.ok (.value (ρ x)) w:=by simp[execOp,ho,h]
theorem CJ{ρ:Operand->Value}{o:Oper}{x:Operand}{f:FuncId}{a b:Array Value}(ho:o.op=.nilCheck x)(h:ρ x=.func (.func f) a b)(w:World):(execOp ρ o).run P w=.ok (.value (ρ x)) w:=by simp[execOp,ho,h]
theorem yy{o:Oper}{ao:iE}(h:rf P o.op o.type=some ao)(ok:Ok c){ρ:Operand->Value}(hfun:∀f,ρ (.func f)=.func (.func f) #[] #[])(hnil:ρ (.const .nilIface)=.nilIface){ev:bw->V}(hev:∀x o,bu x=some o->b7 c (ρ x) (ev o)){hf:Nat} (hu:ao.makes=true->c.rows[hf]? =some .un) (hw:bU ao ev c.rows hf K):KY c ((execOp ρ o).run P c.w) K:=by
 obtain⟨dst,op,type,pos,after,guard⟩:=o;simp only at h;unfold execOp;simp only;unfold rf at h;split at h
 ·
  obtain⟨x',hx,rfl⟩:=aa.1 h;exact⟨_,_,.value _,c,hw,rfl,ok,.refl c,rfl,.inl ⟨_,rfl,hev _ _ hx⟩⟩
 ·obtain⟨x',hx,rfl⟩:=aa.1 h;exact⟨_,_,.value _,c,hw,rfl,ok,.refl c,rfl,.inl ⟨_,rfl,hev _ _ hx⟩⟩
 ·
  rename_i cO aO bO;obtain⟨c1,hc1,h⟩:=ab.1 h;obtain⟨a1,ha1,h⟩:=ab.1 h;obtain⟨b1,hb1,rfl⟩:=aa.1 h;have h1:=hev _ _ hc1;have h2:=hev _ _ ha1;have h3:=hev _ _ hb1;simp only[bU]at hw;split at hw
  ·rename_i t e1;rw[e1]at h1;have h4:=gH h1;refine⟨_,_,.value (if t then ρ aO else ρ bO),c,hw,?_,ok,.refl c,rfl,.inl ⟨_,rfl,?_⟩⟩
   ·show(do pure (Next.value (if<-asBool (ρ cO)then ρ aO else ρ bO)):Sem Next).run P c.w=_;rw[h4];simp[asBool]
   ·cases t
    ·exact h3
    ·exact h2
  ·exact hw.elim
 ·
  obtain⟨z,hz,rfl⟩:=aa.1 h;exact(Bz ok (hu rfl) (de hz) hw).gR
 ·
  obtain⟨sz,hs,h⟩:=ab.1 h;obtain⟨x',hx,rfl⟩:=aa.1 h;exact(Il ok (hu rfl) (hev _ _ hx) hw).gR
 ·
  obtain⟨z,hz,h⟩:=ab.1 h;split at h
  ·rename_i fs ht;split at h
   ·rename_i hall;obtain⟨ps,hps,rfl⟩:=aa.1 h;obtain⟨h1,h2⟩:=jy hps;refine(Bi (f:=fun x=>(lJ P x.type).getD 0) ok ht (de hz) (fun x hx=>?_) (by simpa using h1) (fun k p p' h3 h4=>?_) hw).gR
    ·have:=aG.1 hall x hx;cases hs:lJ P x.type with
     |none=>simp[hs]at this
     |some sz=>exact dK hs
    ·simp only[Array.getElem?_map]at h4;obtain⟨q,hq,rfl⟩:=aa.1 h4;have h5:=h2 k q p (by simpa using hq) h3;unfold rG at h5;obtain⟨f,hf1,h5⟩:=ab.1 h5;obtain⟨sz,hs,h5⟩:=ab.1 h5;obtain⟨x,hx,rfl⟩:=aa.1 h5;exact⟨⟨f,hf1,rfl,by simp[hs]⟩,hev _ _ hx⟩
   ·cases h
  ·rename_i n e ht;obtain⟨sz,hs,h⟩:=ab.1 h;obtain⟨ps,hps,rfl⟩:=aa.1 h;obtain⟨h1,h2⟩:=jy hps;refine(yZ ok ht (de hz) (dK hs) (by simpa using h1) (fun k p p' h3 h4=>?_) hw).gR;simp only[Array.getElem?_map]at h4;obtain⟨q,hq,rfl⟩:=aa.1 h4;have h5:=h2 k q p (by simpa using hq) h3;obtain⟨x,hx,rfl⟩:=aa.1 h5;exact⟨⟨rfl,rfl⟩,hev _ _ hx⟩
  ·cases h
 ·
  obtain⟨e,he,h⟩:=ab.1 h;obtain⟨z,hz,h⟩:=ab.1 h;split at h
  ·rename_i hcnd;obtain⟨ps,hps,rfl⟩:=aa.1 h;obtain⟨h1,h2⟩:=jy hps;refine(xi ok (hu rfl) (hU he) (de hz) rfl hcnd.1 hcnd.2 (by simpa using h1) (fun k p p' h3 h4=>?_) hw).gR;simp only[Array.getElem?_map]at h4;obtain⟨q,hq,rfl⟩:=aa.1 h4;have h5:=h2 k q p (by simpa using hq) h3;obtain⟨x,hx,rfl⟩:=aa.1 h5;exact⟨rfl,hev _ _ hx⟩
  ·cases h
 ·
  obtain⟨ag,ha,h⟩:=ab.1 h;obtain⟨sz,hs,h⟩:=ab.1 h;obtain⟨x',hx,rfl⟩:=aa.1 h;exact(Cg ok (dK hs) (ld ha) (hev _ _ hx) hw).gR
 ·
  obtain⟨sz,hs,h⟩:=ab.1 h;obtain⟨a',ha,h⟩:=ab.1 h;obtain⟨x',hx,rfl⟩:=aa.1 h;obtain⟨v,ups,c',h1,h2,h3,h4,h5,h6⟩:=AQ (P:=P) ok (dK hs) (hev _ _ ha) (hev _ _ hx) hw;exact⟨v,ups,.skip,c',h1,by simp[h2],h3,h4,h5,.inr ⟨rfl,h6⟩⟩
 ·
  rename_i xO;obtain⟨x',hx,rfl⟩:=aa.1 h;have h1:=hev _ _ hx;simp only[bU]at hw;split at hw
  ·rename_i cs e1;rw[e1]at h1;have h2:∃a,ρ xO=.pointer (some a):=by
    generalize ρ xO=u at*;cases h1 with|d _ _ h1=>
    cases h1 with|ptr _ b off uu hI hcell hrep=>exact⟨_,rfl⟩
   obtain⟨a,h2⟩:=h2;exact⟨_,_,.value _,c,hw,tN (o:=⟨dst,.nilCheck xO,type,pos,after,guard⟩) rfl h2 _,ok,.refl c,rfl,.inl ⟨_,rfl,h1⟩⟩
  ·rename_i sz g n i off e1;rw[e1]at h1;obtain⟨b,hb,hu'⟩:=jM h1 hw.1;exact⟨_,_,.value _,c,hw.2,tN (o:=⟨dst,.nilCheck xO,type,pos,after,guard⟩) rfl hu' _,ok,.refl c,rfl,.inl ⟨_,rfl,h1⟩⟩
  ·rename_i f a b e1;rw[e1]at h1;have h2:∃fs cps,ρ xO=.func (.func f) fs cps:=by generalize ρ xO=u at*;cases h1 with|fn _ fs cps _ _ h2 h3 h4 h5=>exact⟨_,_,rfl⟩
   obtain⟨fs,cps,h2⟩:=h2;exact⟨_,_,.value _,c,hw,CJ (o:=⟨dst,.nilCheck xO,type,pos,after,guard⟩) rfl h2 _,ok,.refl c,rfl,.inl ⟨_,rfl,h1⟩⟩
  ·exact hw.elim
 ·
  obtain⟨x',hx,h⟩:=ab.1 h;obtain⟨y',hy,h⟩:=ab.1 h;split at h
  ·rename_i ms ht h8 h9;split at h
   ·rename_i hk;injection h with h;subst h
    have:=qa hk;subst this;exact(s3 (neg:=false) ok hnil ht rfl (hev _ _ hx) hw).gR
   ·cases h
  ·rename_i ms ht h8 h9;split at h
   ·rename_i hk;injection h with h;subst h
    have:=qa hk;subst this;exact(s3 (neg:=true) ok hnil ht rfl (hev _ _ hx) hw).gR
   ·cases h
  ·rename_i ht h8 h9;injection h with h;subst h
   exact(zM (neg:=false) ok ht rfl (hev _ _ hx) (hev _ _ hy) hw).gR
  ·rename_i ht h8 h9;injection h with h;subst h
   exact(zM (neg:=true) ok ht rfl (hev _ _ hx) (hev _ _ hy) hw).gR
  ·rename_i fs ht h8 h9;split at h
   ·rename_i hc;obtain⟨ks,hks,rfl⟩:=aa.1 h;exact(z9 (neg:=false) ok ht hks hc.1 hc.2 rfl (hev _ _ hx) (hev _ _ hy) hw).gR
   ·cases h
  ·rename_i fs ht h8 h9;split at h
   ·rename_i hc;obtain⟨ks,hks,rfl⟩:=aa.1 h;exact(z9 (neg:=true) ok ht hks hc.1 hc.2 rfl (hev _ _ hx) (hev _ _ hy) hw).gR
   ·cases h
  ·rename_i e ht h8 h9;injection h with h;subst h
   exact(tL (neg:=false) ok ht rfl (hev _ _ hx) (hev _ _ hy) hw).gR
  ·rename_i e ht h8 h9;injection h with h;subst h
   exact(tL (neg:=true) ok ht rfl (hev _ _ hx) (hev _ _ hy) hw).gR
  ·injection h with h;subst h
   exact(AJ ok (hev _ _ hx) (hev _ _ hy) hw).gR
  ·injection h with h;subst h
   exact(AJ ok (hev _ _ hx) (hev _ _ hy) hw).gR
  ·cases h
 ·
  obtain⟨x',hx,rfl⟩:=aa.1 h;exact(Ly ok (hev _ _ hx) hw).gR
 ·
  obtain⟨x',hx,h⟩:=ab.1 h;split at h
  ·rename_i h1 h2;injection h with h;subst h
   exact(Ec ok ⟨_,h1⟩ h2 (hev _ _ hx) hw).gR
  ·rename_i h1 h2;injection h with h;subst h
   exact(Dv ok ⟨_,h1⟩ h2 (hev _ _ hx) hw).gR
  ·rename_i e h1 h2;split at h
   ·rename_i h3;injection h with h;subst h
    exact(Ib ok (hu rfl) h1 h2 (zX h3) (hev _ _ hx) hw).gR
   ·cases h
  ·rename_i e h1 h2;split at h
   ·rename_i h3;injection h with h;subst h
    exact(GZ ok h1 (zX h3) h2 (hev _ _ hx) hw).gR
   ·cases h
  ·cases h
 ·
  obtain⟨a,ha,h⟩:=ab.1 h;obtain⟨b,hb,rfl⟩:=aa.1 h;obtain⟨h1,h2⟩:=mG hev ha;obtain⟨h3,h4⟩:=mG hev hb;exact⟨_,_,.value _,c,hw,rfl,ok,.refl c,rfl,.inl ⟨_,rfl,.fn _ _ _ _ _ h1 h3 h2 h4⟩⟩
 ·
  obtain⟨e,he,h⟩:=ab.1 h;obtain⟨z,hz,h⟩:=ab.1 h;obtain⟨b,hb,h⟩:=ab.1 h;split at h
  ·rename_i hcnd;obtain⟨l',hl,h⟩:=ab.1 h;obtain⟨k',hk,rfl⟩:=aa.1 h;obtain⟨i,h1,h2,h3⟩:=pE (de hz) hb;exact(Dl ok (hu rfl) (hU he) (de hz) ⟨i,h1,h3⟩ rfl hcnd (hev _ _ hl) (hev _ _ hk) hw).gR
  ·cases h
 ·
  obtain⟨x',hx,h⟩:=ab.1 h;obtain⟨lo',hlo,h⟩:=ab.1 h;obtain⟨hi',hhi,h⟩:=ab.1 h;split at h
  ·rename_i ht;injection h with h;subst h
   exact(s7 (e:=0) (sz:=0) ok (by simpa using ht) (fun h=>absurd rfl h) (hev _ _ hx) (oi hev hlo) (oi hev hhi) hw).gR
  ·rename_i e ht;obtain⟨sz,hs,h⟩:=ab.1 h;split at h
   ·rename_i hnz;injection h with h;subst h
    exact(s7 (e:=e) ok (by rw[if_neg hnz];exact ht) (fun _=>dK hs) (hev _ _ hx) (oi hev hlo) (oi hev hhi) hw).gR
   ·cases h
  ·cases h
 ·
  obtain⟨x',hx,h⟩:=ab.1 h;obtain⟨hi',hhi,h⟩:=ab.1 h;obtain⟨mx',hmx,h⟩:=ab.1 h;split at h
  ·rename_i e ht;obtain⟨sz,hs,h⟩:=ab.1 h;split at h
   ·injection h with h;subst h
    exact(EV (e:=e) ok ht (dK hs) (hev _ _ hx) (hev _ _ hhi) (hev _ _ hmx) hw).gR
   ·cases h
  ·cases h
 ·
  obtain⟨x',hx,h⟩:=ab.1 h;split at h
  ·cases h
  ·rename_i d hnd hd;injection h with h;subst h
   exact(Cv ok hd (fun m hm=>hnd m hm) (hev _ _ hx) hw).gR
  ·cases h
 ·
  obtain⟨x',hx,h⟩:=ab.1 h;split at h
  ·rename_i fs ht;split at h
   ·rename_i hz;obtain⟨z,hz2,rfl⟩:=aa.1 h;exact(De ok ht (de hz2) (wW hz) (hev _ _ hx) hw).gR
   ·cases h
  ·cases h
 ·
  rename_i args argTypes;split at h
  ·rename_i x t hargs htys;obtain⟨x',hx,h⟩:=ab.1 h;obtain⟨e,he,rfl⟩:=aa.1 h;have ha:args= #[x]:=by rw[<-hargs]
   have ht:argTypes= #[t]:=by rw[<-htys]
   subst ha ht;have:=(Gk (ty:=type) ok (hU he) (hev _ _ hx) hw).gR;simpa[resolve,invoke,builtin]using this
  ·cases h
 ·
  obtain⟨x',hx,h⟩:=ab.1 h;split at h
  ·rename_i fs ht;obtain⟨f,hf1,h⟩:=ab.1 h;obtain⟨sz,hs,h⟩:=ab.1 h;split at h
   ·rename_i hnz;injection h with h;subst h
    exact(CG ok ht hf1 rfl ⟨sz,dK hs,hnz⟩ (hev _ _ hx) hw).gR
   ·cases h
  ·cases h
 ·
  obtain⟨x',hx,h⟩:=ab.1 h;split at h
  ·rename_i fs ht;obtain⟨f,hf1,h⟩:=ab.1 h;obtain⟨sz,hs,h⟩:=ab.1 h;obtain⟨ag,ha,rfl⟩:=aa.1 h;exact(Ig ok ht hf1 rfl (dK hs) (ld ha) (hev _ _ hx) hw).gR
  ·cases h
 ·
  obtain⟨x',hx,h⟩:=ab.1 h;obtain⟨i',hi,h⟩:=ab.1 h;split at h
  ·rename_i e ht;obtain⟨sz,hs,rfl⟩:=aa.1 h;exact(wu (e:=e) ok (arr:=none) ht (dK hs) (hev _ _ hx) (hev _ _ hi) hw).gR
  ·rename_i n e ht;obtain⟨sz,hs,rfl⟩:=aa.1 h;exact(wu (e:=e) ok (arr:=some n) ht (dK hs) (hev _ _ hx) (hev _ _ hi) hw).gR
  ·cases h
 ·
  obtain⟨x',hx,h⟩:=ab.1 h;obtain⟨i',hi,h⟩:=ab.1 h;split at h
  ·rename_i ht;injection h with h;subst h
   exact(Ep ok ht (hev _ _ hx) (hev _ _ hi) hw).gR
  ·rename_i n e ht;obtain⟨sz,hs,h⟩:=ab.1 h;obtain⟨ag,ha,rfl⟩:=aa.1 h;exact(Ga ok ht (dK hs) (ld ha) (hev _ _ hx) (hev _ _ hi) hw).gR
  ·cases h
 ·
  obtain⟨x',hx,rfl⟩:=aa.1 h;exact(HS ok (hev _ _ hx) hw).gR
 ·
  rename_i args argTypes;split at h
  ·rename_i x t hargs htys;obtain⟨x',hx,h⟩:=ab.1 h;have ha:args= #[x]:=by rw[<-hargs]
   have ht:argTypes= #[t]:=by rw[<-htys]
   subst ha ht;split at h
   ·rename_i ht;injection h with h;subst h
    have:=(zE (ty:=type) (str:=true) ok (by simpa using ht) (hev _ _ hx) hw).gR;simpa[resolve,invoke,builtin]using this
   ·rename_i e ht;injection h with h;subst h
    have:=(zE (ty:=type) (str:=false) ok (by simpa using⟨e,ht⟩) (hev _ _ hx) hw).gR;simpa[resolve,invoke,builtin]using this
   ·cases h
  ·cases h
 ·
  rename_i args argTypes;split at h
  ·rename_i s x t t' hargs htys;obtain⟨s',hs,h⟩:=ab.1 h;obtain⟨x',hx,h⟩:=ab.1 h;obtain⟨e,he,h⟩:=ab.1 h;obtain⟨z,hz,h⟩:=ab.1 h;obtain⟨b,hb,h⟩:=ab.1 h;have ha:args= #[s,x]:=by rw[<-hargs]
   have ht:argTypes= #[t,t']:=by rw[<-htys]
   subst ha ht;split at h
   ·rename_i hcnd;split at h
    ·rename_i hsrc;injection h with h;subst h
     obtain⟨d,hd1,hd2⟩:=Fa hsrc;have:=(y5 (ty:=type) ok (hu rfl) (hU he) hd1 hd2 (pE (de hz) hb) (de hz) rfl hcnd.2 hcnd.1 (hev _ _ hs) (hev _ _ hx) hw).gR;simpa[resolve,invoke,builtin]using this
    ·split at h
     ·rename_i kn hkn;injection h with h;subst h
      have:=(Fp (ty:=type) ok (hu rfl) (hU he) hkn (pE (de hz) hb) (de hz) rfl hcnd.2 hcnd.1 (hev _ _ hs) (hev _ _ hx) hw).gR;simpa[resolve,invoke,builtin]using this
     ·cases h
   ·cases h
  ·cases h
 ·
  rename_i args argTypes;split at h
  ·rename_i d s t t' hargs htys;obtain⟨d',hd,h⟩:=ab.1 h;obtain⟨s',hs,h⟩:=ab.1 h;obtain⟨e,he,h⟩:=ab.1 h;obtain⟨sz,hsz,rfl⟩:=aa.1 h;have ha:args= #[d,s]:=by rw[<-hargs]
   have ht:argTypes= #[t,t']:=by rw[<-htys]
   subst ha ht;have:=(CT (ty:=type) (t':=t') ok (hU he) (dK hsz) (hev _ _ hd) (hev _ _ hs) hw).gR;simpa[resolve,invoke,builtin]using this
  ·cases h
 ·
  rename_i args argTypes;split at h
  ·rename_i x t hargs htys;obtain⟨x',hx,h⟩:=ab.1 h;obtain⟨e,he,h⟩:=ab.1 h;obtain⟨z,hz,h⟩:=ab.1 h;have ha:args= #[x]:=by rw[<-hargs]
   have ht:argTypes= #[t]:=by rw[<-htys]
   subst ha ht;split at h
   ·rename_i gW;injection h with h;subst h
    have:=(GN (ty:=type) ok (hU he) (de hz) rfl gW (hev _ _ hx) hw).gR;simpa[resolve,invoke,builtin]using this
   ·cases h
  ·cases h
 ·
  rename_i args argTypes;split at h
  ·rename_i x y hargs;obtain⟨x',hx,h⟩:=ab.1 h;obtain⟨y',hy,rfl⟩:=aa.1 h;have ha:args= #[x,y]:=by rw[<-hargs]
   subst ha;have:=(Ma (P:=P) (t:=argTypes) (ty:=type) ok (hev _ _ hx) (hev _ _ hy) hw).gR;simpa[resolve,invoke,builtin]using this
  ·rename_i x y z hargs;obtain⟨x',hx,h⟩:=ab.1 h;obtain⟨y',hy,h⟩:=ab.1 h;obtain⟨z',hz,rfl⟩:=aa.1 h;have ha:args= #[x,y,z]:=by rw[<-hargs]
   subst ha;have:=(FP (P:=P) (t:=argTypes) (ty:=type) ok (hev _ _ hx) (hev _ _ hy) (hev _ _ hz) hw).gR;simpa[resolve,invoke,builtin]using this
  ·cases h
 ·
  rename_i args argTypes;split at h
  ·rename_i x y hargs;obtain⟨x',hx,h⟩:=ab.1 h;obtain⟨y',hy,rfl⟩:=aa.1 h;have ha:args= #[x,y]:=by rw[<-hargs]
   subst ha;have:=(Ku (P:=P) (t:=argTypes) (ty:=type) ok (hev _ _ hx) (hev _ _ hy) hw).gR;simpa[resolve,invoke,builtin]using this
  ·rename_i x y z hargs;obtain⟨x',hx,h⟩:=ab.1 h;obtain⟨y',hy,h⟩:=ab.1 h;obtain⟨z',hz,rfl⟩:=aa.1 h;have ha:args= #[x,y,z]:=by rw[<-hargs]
   subst ha;have:=(IA (P:=P) (t:=argTypes) (ty:=type) ok (hev _ _ hx) (hev _ _ hy) (hev _ _ hz) hw).gR;simpa[resolve,invoke,builtin]using this
  ·cases h
 ·
  rename_i f args argTypes;split at h
  ·rename_i x y hargs hi;obtain⟨x',hx,h⟩:=ab.1 h;obtain⟨y',hy,rfl⟩:=aa.1 h;have ha:args= #[x,y]:=by rw[<-hargs]
   subst ha;obtain⟨v,ups,n,c',h1,h2,h3⟩:=D6 ok hi (hev _ _ hx) (hev _ _ hy) hw;refine⟨v,ups,n,c',h1,?_,h3⟩;simpa[resolve,hfun f,Deferred.ofValue,invoke]using h2
  ·cases h
 ·
  obtain⟨x',hx,h⟩:=ab.1 h;split at h
  ·rename_i ht;injection h with h;subst h
   exact(HU ok ht (hu rfl) (hev _ _ hx) hw).gR
  ·cases h
 ·
  obtain⟨x',hx,rfl⟩:=aa.1 h;exact(Hi ok (hev _ _ hx) hw).gR
 ·
  split at h
  ·split at h
   ·injection h with h;subst h
    exact(Fy ok (hu rfl) hw).gR
   ·injection h with h;subst h
    exact(AK ok (hu rfl) hw).gR
  ·cases h
 ·
  obtain⟨m',hm,h⟩:=ab.1 h;obtain⟨k',hk,h⟩:=ab.1 h;split at h
  ·rename_i kt et ht;split at h
   ·rename_i hkt;obtain⟨z,hz,rfl⟩:=aa.1 h;exact(Iq ok ht hkt hz (hev _ _ hm) (hev _ _ hk) hw).gR
   ·obtain⟨n,hn,h⟩:=ab.1 h;obtain⟨z,hz,rfl⟩:=aa.1 h;exact(Gw ok ht (tz hn) hz (hev _ _ hm) (hev _ _ hk) hw).gR
  ·cases h
 ·
  obtain⟨m',hm,h⟩:=ab.1 h;obtain⟨k',hk,h⟩:=ab.1 h;obtain⟨v',hv,h⟩:=ab.1 h;split at h
  ·rename_i kt et ht;split at h
   ·rename_i hkt;injection h with h;subst h
    obtain⟨v,ups,c',h1,h2,h3,h4,h5,h6⟩:=Iv ok ht hkt (hev _ _ hm) (hev _ _ hk) (hev _ _ hv) hw;exact⟨v,ups,.skip,c',h1,by simp[h2],h3,h4,h5,.inr ⟨rfl,h6⟩⟩
   ·obtain⟨n,hn,rfl⟩:=aa.1 h;obtain⟨v,ups,c',h1,h2,h3,h4,h5,h6⟩:=Ho ok ht (tz hn) (hev _ _ hm) (hev _ _ hk) (hev _ _ hv) hw;exact⟨v,ups,.skip,c',h1,by simp[h2],h3,h4,h5,.inr ⟨rfl,h6⟩⟩
  ·cases h
 ·cases h
theorem wh{o:Oper}(ok:Ok c){ρ:Operand->Value}(hfun:∀f,ρ (.func f)=.func (.func f) #[] #[])(hnil:ρ (.const .nilIface)=.nilIface){ev:bw->V}(hev:∀x o,bu x=some o->b7 c (ρ x) (ev o)){hf:Nat} (hu:(iz P o.op o.type).makes=true->c.rows[hf]? =some .un) (hw:bU (iz P o.op o.type) ev c.rows hf K):KY c ((execOp ρ o).run P c.w) K:=by
 cases h:rf P o.op o.type with
 |none=>simp only[iz,h,Option.getD_none,bU]at hw
 |some ao=>simp only[iz,h,Option.getD_some]at hw hu;exact yy h ok hfun hnil hev hu hw
end
end Go.Vx
