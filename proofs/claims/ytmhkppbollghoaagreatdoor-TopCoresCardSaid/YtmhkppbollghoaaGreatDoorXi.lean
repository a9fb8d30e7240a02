/- Proved: rules of a compiled form of the code, sound for the model. Conditions: none but those that each lemma states. -/
import Derived.Test.YtmhkppbollghoaaGreatDoorXh
set_option linter.unusedSectionVars false
set_option linter.unusedSimpArgs false
set_option linter.unusedVariables false
namespace Go.Vx
variable[bf]
abbrev KV:=V->List (Nat×bd)->Prop
def rowAt:Rows->Nat->bd
 |[],_=>.dead
 |r::_,0=>r
 |_::l,n+1=>rowAt l n
def setAt:Rows->Nat->bd->Rows
 |[],_,_=>[]
 |_::l,0,r=>r::l
 |x::l,n+1,r=>x::setAt l n r
theorem dR(rows:Rows)(h:Nat):rowAt rows h=(rows[h]?).getD .dead:=by
 induction rows generalizing h with
 |nil=>rfl
 |cons r l ih=>cases h with
  |zero=>rfl
  |succ h=>simpa[rowAt]using ih h
theorem re{rows:Rows}{h sz:Nat}{es:List (List V)}:rows[h]? =some (.live sz es)↔rowAt rows h=.live sz es:=by rw[dR];cases rows[h]? <;>simp
theorem FI{rows:Rows}{h:Nat}:rows[h]? =some .un↔rowAt rows h=.un:=by rw[dR];cases rows[h]? <;>simp
def gX{α:Type}:List α->Nat->(α->Prop)->Prop
 |[],_,_=>False
 |x::_,0,f=>f x
 |_::l,n+1,f=>gX l n f
theorem fg{α:Type}{l:List α}{i:Nat}{f:α->Prop}:gX l i f↔∃x,l[i]? =some x/\f x:=by
 induction l generalizing i with
 |nil=>simp[gX]
 |cons x l ih=>cases i with
  |zero=>simp[gX]
  |succ i=>simpa[gX]using ih
theorem mN{α:Type}{l:List α}{i:Nat}{f:α->Prop}(hi:i<l.length)(h:∀x,l[i]? =some x->f x):gX l i f:=fg.2 ⟨l[i],ae hi,h _ (ae hi)⟩
theorem oN{α:Type}{l:List α}{i:Nat}{f:α->Prop}(h:gX l i f):i<l.length:=by obtain⟨x,h,_⟩:=fg.1 h;exact(ad.1 h).1
def jg:bd->Nat->Nat->(List (List V)->Prop)->Prop
 | .live s es,sz,n,f=>s=sz/\es.length=n/\f es
 | .un,_,_,_=>False
 | .dead,_,_,_=>False
 | .obj _,_,_,_=>False
theorem iu{rows:Rows}{h sz n:Nat}{f:List (List V)->Prop}:jg (rowAt rows h) sz n f↔∃es,rows[h]? =some (.live sz es)/\es.length=n/\f es:=by
 simp only[re];cases hr:rowAt rows h with
 |live s es=>
  constructor
  ·rintro⟨rfl,h2,h3⟩;exact⟨es,rfl,h2,h3⟩
  ·rintro⟨es',h1,h2,h3⟩;injection h1 with e1 e2;subst e1 e2;exact⟨rfl,h2,h3⟩
 |un=>simp[jg]
 |dead=>simp[jg]
 |obj o=>simp[jg]
def kN:bd->Nat->Nat->Prop
 | .live s es,sz,n=>s=sz/\es.length=n
 | .un,_,_=>False
 | .dead,_,_=>False
 | .obj _,_,_=>False
theorem iv{rows:Rows}{h sz n:Nat}:kN (rowAt rows h) sz n↔fA rows h sz n:=by have:=iu (rows:=rows) (h:=h) (sz:=sz) (n:=n) (f:=fun _=>True);simp only[and_true]at this;unfold fA;rw[<-this];cases rowAt rows h<;>simp[kN,jg]
def tS(fr:List V):List bw->List V
 |[]=>[]
 |x::l=>x.ev fr::tS fr l
theorem iA(fr:List V)(l:List bw):tS fr l=l.map (bw.ev fr):=by
 induction l with
 |nil=>rfl
 |cons x l ih=>simp[tS,ih]
def ub(P:Program)(b0:Nat)(b:AC)(Q:AX->St->Prop):AX->St->Prop:=fun e S'=>
 match e with
 | .normal=>dW P b0 b Q S'
 | .exit i=>Q (.exit i) S'
 | .ret=>Q .ret S'
 | .fL ch=>Q (.fL ch) S'
def iq(id:Nat)(Q:AX->St->Prop):AX->St->Prop:=fun e S'=>
 match e with
 | .normal=>Q .normal S'
 | .exit i=>if i=id then Q .normal S' else Q (.exit i) S'
 | .ret=>Q .ret S'
 | .fL ch=>Q (.fL ch) S'
def mr(v:V)(P:Program)(b0:Nat)(a b:AC)(Q:AX->St->Prop)(S:St):Prop:=vT v (dW P b0 a Q S) (dW P b0 b Q S)
def runK(P:Program)(base:Nat)(l:List bn)(K:St->Prop)(dst:Option Nat)(fr:List V)(rows:Rows):KV:=fun v ups=>jG P base l K ⟨eg fr dst v,bq rows ups⟩
def sS(P:Program)(base:Nat):List bn->(St->Prop)->St->Prop
 |[],K,S=>K S
 |s::l,K,S=>bP P base s S fun v ups=>ups=[]/\sS P base l K (S.after s v ups)
def xf(P:Program)(base:Nat)(l:List bn)(K:St->Prop)(dst:Option Nat)(fr:List V)(rows:Rows):KV:=fun v ups=>ups=[]/\sS P base l K ⟨eg fr dst v,bq rows ups⟩
def z7(P:Program)(base:Nat)(l:List (bn×List Nat))(acc:List (List Nat×List Nat))(K:St->Prop)(dst:Option Nat)(pre F:List Nat)(g:Option (Nat×Bool))(act:ep)(fr:List V)(rows:Rows):KV:=fun v ups=>∃F',(F'=F\/Ck P g act fr rows v ups F')/\eM acc pre F' (ups.map (·.1))=true/\(ups.map (·.1)).all F'.contains=true/\fU P base l (acc++[(F',ups.map (·.1))]) K ⟨eg fr dst v,bq rows ups⟩
def td(P:Program)(base:Nat)(fl:List Bool)(l:List bn)(K:St->Prop)(dst:Option Nat)(fr:List V)(rows:Rows):KV:=fun v ups=>jf P base fl l K ⟨eg fr dst v,bq rows ups⟩
def AU(P:Program)(base:Nat)(fl:List Bool)(l:List bn)(K:St->Prop)(dst:Option Nat)(fr:List V):V->Rows->Prop:=fun v rows'=>jf P base fl l K ⟨eg fr dst v,rows'⟩
def EY(P:Program)(fv:V)(args:List V)(rows:Rows)(K:V->Rows->Prop):Prop:=match fv with
 | .fn (.func g) first cap=>dn P g (first++args++cap) rows K
 |_=>False
def eZ(g:V)(want:Bool)(P:Program)(base:Nat)(s:bn)(S:St)(κ:KV):Prop:=match g with
 | .d (.bool b)=>(b=want->bP P base s S κ)/\(b≠want->κ (.cm []) [])
 | .cm []=>κ (.cm []) []
 |_=>False
def xj:V->V->V->KV->Prop
 | .d (.bool true),a,_,K=>K a []
 | .d (.bool false),_,b,K=>K b []
 |_,_,_,_=>False
def cH(op:BinOp)(x y:V)(K:KV):Prop:=fX op x y fun v=>K (.d v) []
def EJ(op:UnOp)(x:V)(K:KV):Prop:=Jv op x fun v=>K (.d v) []
def FA(neg:Bool)(ks:List Nat):V->V->KV->Prop
 | .agg a,.agg b,K=>Kq neg (wU ks a b) K
 |_,_,_=>False
def mK(rows:Rows)(neg:Bool):V->V->KV->Prop
 | .d .bm,.d .bm,K=>K (.d (.bool !neg)) []
 | .d (.sl _ (_::_)),.d .bm,K=>K (.d (.bool neg)) []
 | .d (.sl _ []),.d .bm,K=>K (.d .ke) []
 | .cl sz h n _ _,.d .bm,K=>kN (rowAt rows h) sz n/\K (HT neg n) []
 |_,_,_=>False
def Cm(neg:Bool):V->V->KV->Prop
 | .d (.bool a),.d (.bool b),K=>K (.d (.bool (if neg then(a !=b)else(a==b)))) []
 |_,_,_=>False
def wg(k:IntKind):V->KV->Prop
 | .d (.int _ n),K=>K (.d (.int k (k.wrap n))) []
 |_,_=>False
def xv:V->KV->Prop
 | .d (.str s),K=>K (.d (.str s)) []
 |_,_=>False
def nO(rows:Rows):V->KV->Prop
 | .d (.ptr cs),K=>K (.d (.ptr cs)) []
 | .aY sz h n i off,K=>kN (rowAt rows h) sz n/\K (.aY sz h n i off) []
 | .fn (.func f) a b,K=>K (.fn (.func f) a b) []
 |_,_=>False
def DH(hf:Nat):V->KV->Prop
 | .d (.str s),K=>K (.cl 1 hf s.length 0 s.length) [(hf,.live 1 (s.map fun b=>[.d (.int .u8 b.toNat)]))]
 |_,_=>False
def OQ(sz hf:Nat)(K:KV):List V->Prop:=fun cs=>K (.aY sz hf 1 0 0) [(hf,.live sz [cs])]
def JQ(sz hf:Nat)(v:V)(K:KV):Prop:=di v sz (OQ sz hf K)
mutual
def mf(fr:List V):List (Nat×Nat×bw)->List V->(List V->Prop)->Prop
 |[],cells,K=>K cells
 |(off,sz,x)::ps,cells,K=>off+sz<=cells.length/\di (x.ev fr) sz (ym fr ps off cells K)
def ym(fr:List V):List (Nat×Nat×bw)->Nat->List V->(List V->Prop)->List V->Prop
 |ps,off,cells,K,cs=>mf fr ps (mo cells off cs) K
end
def Kl(K:KV):List V->Prop:=fun cs=>K (.agg cs) []
mutual
def wP(fr:List V)(sz:Nat):List (Nat×bw)->List (List V)->(List (List V)->Prop)->Prop
 |[],es,K=>K es
 |(i,x)::ps,es,K=>i<es.length/\di (x.ev fr) sz (LK fr sz ps i es K)
def LK(fr:List V)(sz:Nat):List (Nat×bw)->Nat->List (List V)->(List (List V)->Prop)->List V->Prop
 |ps,i,es,K,cs=>wP fr sz ps (es.set i cs) K
end
def LH(sz h n:Nat)(K:KV):List (List V)->Prop:=fun es=>K (.cl sz h n 0 n) [(h,.live sz es)]
def Ow(K:KV):V->Prop:=fun x=>K x []
def Kf(K:KV):D->Prop:=fun x=>K (.d x) []
def Ea(agg:Bool)(sz off:Nat)(K:KV):List V->Prop:=fun e=>
 match agg with
 |true=>K (.agg ((e.drop off).take sz)) []
 |false=>gX e off (Ow K)
def zG(agg:Bool)(sz s i off:Nat)(K:KV):List (List V)->Prop:=fun es=>off+sz<=s/\(agg=false->sz=1)/\gX es i (Ea agg sz off K)
def mj(rows:Rows):Bool->Nat->V->KV->Prop
 |true,sz,.d (.ptr cs),K=>sz<=cs.length/\K (.agg ((cs.take sz).map .d)) []
 |false,_,.d (.ptr cs),K=>gX cs 0 (Kf K)
 |agg,sz,.aY s h n i off,K=>jg (rowAt rows h) s n (zG agg sz s i off K)
 |_,_,_,_=>False
def QD(K:KV)(h s i off:Nat)(es:List (List V))(cs:List V):List V->Prop:=fun e=>K .any [(h,.live s (es.set i (mo e off cs)))]
def QF(K:KV)(h s i off:Nat)(es:List (List V)):List V->Prop:=fun cs=>gX es i (QD K h s i off es cs)
def Qv(sz h s i off:Nat)(x:V)(K:KV):List (List V)->Prop:=fun es=>off+sz<=s/\di x sz (QF K h s i off es)
def qY(rows:Rows)(sz:Nat):V->V->KV->Prop
 | .aY s h n i off,x,K=>jg (rowAt rows h) s n (Qv sz h s i off x K)
 |_,_,_=>False
def tg(sz bytes:Nat)(zero:List D)(hf:Nat):V->V->KV->Prop
 | .d (.int _ l),.d (.int _ c),K=>0<=l/\l<=c/\c<=9223372036854775807/\bytes*c<=281474976710656/\K (.cl sz hf l.toNat 0 l.toNat) [(hf,.live sz (List.replicate l.toNat (zero.map .d)))]
 |_,_,_=>False
def xV(fr:List V)(o:Option bw):Option V:=o.map (bw.ev fr)
def bI:Option V->Int->Option Int
 |none,d=>some d
 |some (.d (.int _ n)),_=>some n
 |_,_=>none
def GU:V->Int
 | .d (.sl _ es)=>es.length
 | .d (.str s)=>s.length
 | .cl _ _ _ _ len=>len
 |_=>0
def sliceB(rows:Rows)(sz:Nat):V->Option Int->Option Int->KV->Prop
 | .d .bm,some l,some h,K=>sz≠0/\l=0/\h=0/\K (.d .bm) []
 | .d (.sl s es),some l,some h,K=>sz≠0/\s=sz/\0<=l/\l<=h/\h<=es.length/\K (.d (.sl sz ((es.take h.toNat).drop l.toNat))) []
 | .d (.str s),some l,some h,K=>sz=0/\0<=l/\l<=h/\h<=s.length/\K (.d (.str ((s.take h.toNat).drop l.toNat))) []
 | .cl s hh n off len,some l,some h,K=>sz≠0/\s=sz/\kN (rowAt rows hh) s n/\0<=l/\l<=h/\h<=len/\K (.cl sz hh n (off+l.toNat) (h.toNat-l.toNat)) []
 |_,_,_,_=>False
def vm(rows:Rows)(sz:Nat)(x:V)(lo hi:Option V)(K:KV):Prop:=sliceB rows sz x (bI lo 0) (bI hi (GU x)) K
def xM(rows:Rows)(off:Nat):V->KV->Prop
 | .d (.ptr cs),K=>K (.d (.ptr (cs.drop off))) []
 | .aY s h n i o,K=>kN (rowAt rows h) s n/\K (.aY s h n i (o+off)) []
 |_,_=>False
def Dp:Nat->Nat->Bool->V->KV->Prop
 |off,sz,true,.agg cs,K=>off+sz<=cs.length/\K (.agg ((cs.drop off).take sz)) []
 |off,_,false,.agg cs,K=>gX cs off (Ow K)
 |_,_,_,_,_=>False
def OT(K:KV):List D->Prop:=fun e=>K (.d (.ptr e)) []
def nE(rows:Rows)(sz:Nat):Option Nat->V->V->KV->Prop
 |none,.d (.sl s es),.d (.int _ j),K=>s=sz/\0<=j/\j<es.length/\gX es j.toNat (OT K)
 |none,.cl s h n off len,.d (.int _ j),K=>s=sz/\0<=j/\j<len/\kN (rowAt rows h) s n/\K (.aY sz h n (off+j.toNat) 0) []
 |some m,.d (.ptr cs),.d (.int _ j),K=>0<=j/\j<m/\K (.d (.ptr (cs.drop (j.toNat*sz)))) []
 |some m,.aY s h n i o,.d (.int _ j),K=>0<=j/\j<m/\kN (rowAt rows h) s n/\K (.aY s h n i (o+j.toNat*sz)) []
 |_,_,_,_=>False
def Bd(sz n:Nat):Bool->V->V->KV->Prop
 |true,.agg cs,.d (.int _ j),K=>0<=j/\j<n/\cs.length=n*sz/\K (.agg ((cs.drop (j.toNat*sz)).take sz)) []
 |false,.agg cs,.d (.int _ j),K=>0<=j/\j<n/\cs.length=n*sz/\sz=1/\gX cs j.toNat (Ow K)
 |_,_,_,_=>False
def QE(K:KV):UInt8->Prop:=fun b=>K (.d (.int .u8 b.toNat)) []
def xI:V->V->KV->Prop
 | .d (.str s),.d (.int _ j),K=>0<=j/\j<s.length/\gX s j.toNat (QE K)
 |_,_,_=>False
def Hk(i:Nat):V->KV->Prop
 | .cm vs,K=>gX vs i (Ow K)
 |_,_=>False
def yh(rows:Rows):Bool->V->KV->Prop
 |false,.d .bm,K=>K (.d (.int .i64 0)) []
 |false,.d (.sl _ es),K=>K (.d (.int .i64 es.length)) []
 |true,.d (.str s),K=>K (.d (.int .i64 s.length)) []
 |false,.cl s h n _ len,K=>kN (rowAt rows h) s n/\K (.d (.int .i64 len)) []
 |_,_,_=>False
def CA(off len:Nat)(K:List (List V)->Prop):List (List V)->Prop:=fun es=>K ((es.drop off).take len)
def iY(rows:Rows)(sz:Nat):V->(List (List V)->Prop)->Prop
 | .d .bm,K=>K []
 | .d (.sl s es),K=>s=sz/\K (es.map (·.map .d))
 | .d (.str s),K=>sz=1/\K (s.map fun b=>[.d (.int .u8 b.toNat)])
 | .cl s h n off len,K=>s=sz/\jg (rowAt rows h) sz n (CA off len K)
 |_,_=>False
def Oe(K:KV):List (List V)->Prop:=fun es=>(∀e∈es,isByte e)/\K (.d (.str (es.map oc))) []
def J4(rows:Rows)(v:V)(K:KV):Prop:=rR v=true/\iY rows 1 v (Oe K)
def MB(sz bytes h n:Nat)(xs:List (List V))(K:KV):List (List V)->Prop:=fun es=>(n+xs.length)*bytes<=bM/\K (.cl sz h (n+xs.length) 0 (n+xs.length)) [(h,.live sz (es++xs))]
def yL(rows:Rows)(sz bytes hf:Nat):V->KV->List (List V)->Prop
 | .d .bm,K,xs=>xs.length*bytes<=bM/\K (.cl sz hf xs.length 0 xs.length) [(hf,.live sz xs)]
 | .d (.BZ s0 es),K,xs=>s0=sz/\xs≠[]/\(es.length+xs.length)*bytes<=bM/\K (.cl sz hf (es.length+xs.length) 0 (es.length+xs.length)) [(hf,.live sz (es.map (·.map .d)++xs))]
 | .cl s h n off len,K,xs=>s=sz/\off=0/\len=n/\jg (rowAt rows h) sz n (MB sz bytes h n xs K)
 |_,_,_=>False
def Mh(sz h off len:Nat)(xs:List (List V))(K:KV):List (List V)->Prop:=fun es=>K (.d (.int .i64 (min xs.length len:Nat))) [(h,.live sz (es.take off++xs.take len++es.drop (off+min xs.length len)))]
def BR(rows:Rows)(sz:Nat):V->KV->List (List V)->Prop
 | .d .bm,K,_=>K (.d (.int .i64 0)) []
 | .cl s h n off len,K,xs=>s=sz/\jg (rowAt rows h) sz n (Mh sz h off len xs K)
 |_,_,_=>False
def Ln(sz h off len:Nat)(z:List D)(K:KV):List (List V)->Prop:=fun es=>K (.cm []) [(h,.live sz (es.take off++List.replicate len (z.map .d)++es.drop (off+len)))]
def Fc(rows:Rows)(sz:Nat)(z:List D):V->KV->Prop
 | .cl s h n off len,K=>s=sz/\off+len<=n/\jg (rowAt rows h) sz n (Ln sz h off len z K)
 |_,_=>False
def Pe:V->V->KV->Prop
 | .d (.int k a),.d (.int _ b),K=>K (.d (.int k (if b<a then b else a))) []
 |_,_,_=>False
def Nk:V->V->KV->Prop
 | .d (.int k a),.d (.int _ b),K=>K (.d (.int k (if a<b then b else a))) []
 |_,_,_=>False
def nB(P:Program)(fv:V)(args:List V)(rows:Rows)(K:KV):Prop:=pW P fv args rows K
section
variable{P:Program}{base hi:Nat}{l:List bn}{K:St->Prop}{fr:List V}{rows:Rows}{dst:Option Nat}{κ:KV}
theorem NR{S:St}:jG P base [] K S=K S:=rfl
theorem Q3{v:V}{u:List (Nat×bd)}:runK P base l K dst fr rows v u=jG P base l K ⟨eg fr dst v,bq rows u⟩:=rfl
theorem LY{g:Option (Nat×Bool)}{act:ep}:jG P base (⟨dst,hi,g,act⟩::l) K ⟨fr,rows⟩=bP P base ⟨dst,hi,g,act⟩ ⟨fr,rows⟩ (runK P base l K dst fr rows):=rfl
theorem Nn{S:St}:sS P base [] K S=K S:=rfl
theorem QN{v:V}:xf P base l K dst fr rows v []=sS P base l K ⟨eg fr dst v,rows⟩:=by simp[xf,bq]
theorem LJ{g:Option (Nat×Bool)}{act:ep}:sS P base (⟨dst,hi,g,act⟩::l) K ⟨fr,rows⟩=bP P base ⟨dst,hi,g,act⟩ ⟨fr,rows⟩ (xf P base l K dst fr rows):=rfl
theorem Po{acc:List (List Nat×List Nat)}{S:St}:fU P base [] acc K S=K S:=rfl
theorem J7{acc:List (List Nat×List Nat)}{dl:List (bn×List Nat)}{pre:List Nat}{g:Option (Nat×Bool)}{act:ep}:fU P base ((⟨dst,hi,g,act⟩,pre)::dl) acc K ⟨fr,rows⟩=bP P base ⟨dst,hi,g,act⟩ ⟨fr,rows⟩ (z7 P base dl acc K dst pre (bn.ng ⟨dst,hi,g,act⟩ base fr) g act fr rows):=rfl
theorem cc{acc:List (List Nat×List Nat)}{dl:List (bn×List Nat)}{pre F:List Nat}{g:Option (Nat×Bool)}{act:ep}{v:V}{u:List (Nat×bd)}(h1:eM acc pre F (u.map (·.1))=true)(h2:(u.map (·.1)).all F.contains=true) (h:fU P base dl (acc++[(F,u.map (·.1))]) K ⟨eg fr dst v,bq rows u⟩):z7 P base dl acc K dst pre F g act fr rows v u:=⟨F,.inl rfl,h1,h2,h⟩
theorem Dr{x:bw}:bP P base ⟨dst,hi,none,.op (.gC x)⟩ ⟨fr,rows⟩ κ=κ (x.ev fr) []:=by simp[bP,iU,iE.makes,bU]
theorem Hj{t:Nat}{w:Bool}{act:ep}:bP P base ⟨dst,hi,some (t,w),act⟩ ⟨fr,rows⟩ κ=eZ (nth fr t) w P base ⟨dst,hi,none,act⟩ ⟨fr,rows⟩ κ:=by
 simp only[bP,eZ];cases nth fr t with
 |d x=>cases x<;>rfl
 |cm vs=>cases vs<;>rfl
 |_=>rfl
theorem P8{s:bn}{S:St}:eZ (.d (.bool true)) true P base s S κ=bP P base s S κ:=by simp[eZ]
theorem Nz{s:bn}{S:St}:eZ (.d (.bool false)) false P base s S κ=bP P base s S κ:=by simp[eZ]
theorem NZ{s:bn}{S:St}:eZ (.d (.bool true)) false P base s S κ=κ (.cm []) []:=by simp[eZ]
theorem P4{s:bn}{S:St}:eZ (.d (.bool false)) true P base s S κ=κ (.cm []) []:=by simp[eZ]
theorem P0{s:bn}{S:St}{w:Bool}:eZ (.cm []) w P base s S κ=κ (.cm []) []:=by simp[eZ]
theorem eo{o:iE}(hm:o.makes=false):bP P base ⟨dst,hi,none,.op o⟩ ⟨fr,rows⟩ κ=bU o (bw.ev fr) rows (base+hi) κ:=by simp only[bP,iU,hm];simp
theorem ny{o:iE}(hm:o.makes=true):bP P base ⟨dst,hi,none,.op o⟩ ⟨fr,rows⟩ κ=(rowAt rows (base+hi)=.un/\bU o (bw.ev fr) rows (base+hi) κ):=by simp only[bP,iU,hm,FI];simp
theorem ME{c a b:bw}:bP P base ⟨dst,hi,none,.op (.pick c a b)⟩ ⟨fr,rows⟩ κ=xj (c.ev fr) (a.ev fr) (b.ev fr) κ:=by
 rw[eo rfl];simp only[bU];cases c.ev fr with
 |d x=>cases x with
  |bool t=>cases t<;>rfl
  |_=>rfl
 |_=>rfl
theorem M3{op:BinOp}{x y:bw}:bP P base ⟨dst,hi,none,.op (.bin op x y)⟩ ⟨fr,rows⟩ κ=cH op (x.ev fr) (y.ev fr) κ:=eo rfl
theorem Qn{op:UnOp}{x:bw}:bP P base ⟨dst,hi,none,.op (.un op x)⟩ ⟨fr,rows⟩ κ=EJ op (x.ev fr) κ:=eo rfl
theorem Oa{neg:Bool}{x y:bw}:bP P base ⟨dst,hi,none,.op (.Ft neg x y)⟩ ⟨fr,rows⟩ κ=Cm neg (x.ev fr) (y.ev fr) κ:=by
 rw[eo rfl];simp only[bU];split
 ·rename_i h1 h2;rw[h1,h2];rfl
 ·rename_i h;rw[Cm];exact h
theorem No{neg:Bool}{ks:List Nat}{x y:bw}:bP P base ⟨dst,hi,none,.op (.FK neg ks x y)⟩ ⟨fr,rows⟩ κ=FA neg ks (x.ev fr) (y.ev fr) κ:=by
 rw[eo rfl];simp only[bU];split
 ·rename_i h1 h2;rw[h1,h2];rfl
 ·rename_i h;rw[FA];exact h
theorem Hl{neg:Bool}{x y:bw}:bP P base ⟨dst,hi,none,.op (.isNil neg x y)⟩ ⟨fr,rows⟩ κ=mK rows neg (x.ev fr) (y.ev fr) κ:=by
 rw[eo rfl];simp only[bU];split
 ·rename_i h h';rw[h,h'];rfl
 ·rename_i h h';rw[h,h'];rfl
 ·rename_i h h';rw[h,h'];rfl
 ·rename_i h h';rw[h,h'];simp only[mK,iv]
 ·rename_i h1 h2 h3 h4;rw[mK]
  ·exact h1
  ·exact h2
  ·exact h3
  ·exact h4
theorem Kh{k:IntKind}{x:bw}:bP P base ⟨dst,hi,none,.op (.conv k x)⟩ ⟨fr,rows⟩ κ=wg k (x.ev fr) κ:=by
 rw[eo rfl];simp only[bU];split
 ·rename_i h;rw[h];rfl
 ·rename_i h;rw[wg];exact h
theorem Lv{x:bw}:bP P base ⟨dst,hi,none,.op (.same x)⟩ ⟨fr,rows⟩ κ=xv (x.ev fr) κ:=by
 rw[eo rfl];simp only[bU];split
 ·rename_i h;rw[h];rfl
 ·rename_i h;rw[xv];exact h
theorem Ij{x:bw}:bP P base ⟨dst,hi,none,.op (.g7 x)⟩ ⟨fr,rows⟩ κ=nO rows (x.ev fr) κ:=by
 rw[eo rfl];simp only[bU];cases x.ev fr with
 |d y=>cases y<;>rfl
 |aY s h n i o=>simp only[nO,iv]
 |fn f a b=>cases f<;>rfl
 |_=>rfl
theorem OJ{x:bw}:bP P base ⟨dst,hi,none,.op (.HI x)⟩ ⟨fr,rows⟩ κ=(rowAt rows (base+hi)=.un/\DH (base+hi) (x.ev fr) κ):=by
 rw[ny rfl];simp only[bU];congr 1;split
 ·rename_i h;rw[h];rfl
 ·rename_i h;rw[DH];exact h
theorem HR{z:List D}:bP P base ⟨dst,hi,none,.op (.alloc z)⟩ ⟨fr,rows⟩ κ=(rowAt rows (base+hi)=.un/\κ (.aY z.length (base+hi) 1 0 0) [(base+hi,.live z.length [z.map .d])]):=ny rfl
theorem NI{sz:Nat}{x:bw}:bP P base ⟨dst,hi,none,.op (.box sz x)⟩ ⟨fr,rows⟩ κ=(rowAt rows (base+hi)=.un/\JQ sz (base+hi) (x.ev fr) κ):=ny rfl
theorem Bn(f:List V->Prop):∀(ps:List (Nat×Nat×bw)) (cells:List V),iW (bw.ev fr) ps cells f=mf fr ps cells f:=by
 intro ps;induction ps with
 |nil=>intro cells;simp only[iW,mf]
 |cons p ps ih=>obtain⟨off,sz,x⟩:=p;intro cells;simp only[iW,mf,ih];congr 2;funext cs;simp only[ym]
theorem Gp{z:List D}{ps:List (Nat×Nat×bw)}:bP P base ⟨dst,hi,none,.op (.build z ps)⟩ ⟨fr,rows⟩ κ=mf fr ps (z.map .d) (Kl κ):=by rw[eo rfl,<-Bn];rfl
theorem Hw(sz:Nat)(f:List (List V)->Prop):∀(ps:List (Nat×bw)) (es:List (List V)),gl (bw.ev fr) sz ps es f=wP fr sz ps es f:=by
 intro ps;induction ps with
 |nil=>intro cells;simp only[gl,wP]
 |cons p ps ih=>obtain⟨i,x⟩:=p;intro cells;simp only[gl,wP,ih];congr 2;funext cs;simp only[LK]
theorem AO{sz n:Nat}{z:List D}{ps:List (Nat×bw)}:bP P base ⟨dst,hi,none,.op (.b5 sz n z ps)⟩ ⟨fr,rows⟩ κ=(rowAt rows (base+hi)=.un/\wP fr sz ps (List.replicate n (z.map .d)) (LH sz (base+hi) n κ)):=by rw[ny rfl,<-Hw];rfl
theorem yP{agg:Bool}{sz:Nat}{x:bw}:bP P base ⟨dst,hi,none,.op (.load agg sz x)⟩ ⟨fr,rows⟩ κ=mj rows agg sz (x.ev fr) κ:=by
 rw[eo rfl];simp only[bU];cases x.ev fr with
 |d y=>
  cases y with
  |ptr cs=>
   cases agg with
   |true=>rfl
   |false=>
    cases cs with
    |nil=>simp[mj,gX]
    |cons y l=>simp[mj,gX,Kf]
  |_=>cases agg<;>rfl
 |aY s h n i off=>
  have:mj rows agg sz (.aY s h n i off) κ=jg (rowAt rows h) s n (zG agg sz s i off κ):=by cases agg<;>rfl
  rw[this];simp only[eq_iff_iff,iu,zG,fg];constructor
  ·rintro⟨⟨es,h1,h2⟩,h3,h4,h5⟩;have he:es[i]? =some es[i]:=ae om;have h6:=h5 es _ h1 he;cases agg with
   |true=>exact⟨es,h1,h2,h4,sm,_,he,h6⟩
   |false=>exact⟨es,h1,h2,h4,fun _=>h6.1,_,he,mN h6.2.1 h6.2.2⟩
  ·rintro⟨es,h1,h2,h3,h4,e,h5,h6⟩;refine⟨⟨es,h1,h2⟩,by have:=(ad.1 h5).1;omega,h3,fun es' e' h7 h8=>?_⟩;rw[h1]at h7;injection h7 with h7;injection h7 with _ h7;subst h7
   rw[h5]at h8;injection h8 with h8;subst h8
   cases agg with
   |true=>exact h6
   |false=>
    refine⟨h4 rfl,oN h6,fun x hx=>?_⟩;obtain⟨x',h9,h10⟩:=fg.1 h6;rw[h9]at hx;injection hx with hx;subst hx
    exact h10
 |_=>cases agg<;>rfl
theorem pV{v:V}{sz:Nat}{f g:List V->Prop}(h:∀cs,f cs->g cs):di v sz f->di v sz g:=by
 unfold di;split<;>(intro hh;first|exact hh.elim|skip)
 ·exact⟨hh.1,hh.2.1,h _ hh.2.2⟩
 all_goals exact⟨hh.1,h _ hh.2⟩
theorem It{sz:Nat}{a x:bw}:bP P base ⟨dst,hi,none,.op (.store sz a x)⟩ ⟨fr,rows⟩ κ=qY rows sz (a.ev fr) (x.ev fr) κ:=by
 rw[eo rfl];simp only[bU];cases a.ev fr with
 |aY s h n i off=>
  simp only[qY,eq_iff_iff,iu,Qv];constructor
  ·rintro⟨⟨es,h1,h2⟩,h3,h4,h5⟩;exact⟨es,h1,h2,h4,pV (fun cs hcs=>mN om fun e he=>hcs es e h1 he) h5⟩
  ·rintro⟨es,h1,h2,h3,h4⟩;have hi:i<n:=by
    revert h4;unfold di;split<;>(intro hh;first|exact hh.elim|skip)
    ·have:=oN hh.2.2;omega
    all_goals (have:=oN hh.2;omega)
   refine⟨⟨es,h1,h2⟩,hi,h3,pV (fun cs hcs es' e h5 h6=>?_) h4⟩;rw[h1]at h5;injection h5 with h5;injection h5 with _ h5;subst h5
   obtain⟨e',h7,h8⟩:=fg.1 hcs;rw[h7]at h6;injection h6 with h6;subst h6
   exact h8
 |_=>rfl
theorem LQ{sz bytes:Nat}{z:List D}{x y:bw}:bP P base ⟨dst,hi,none,.op (.jH sz bytes z x y)⟩ ⟨fr,rows⟩ κ=(rowAt rows (base+hi)=.un/\tg sz bytes z (base+hi) (x.ev fr) (y.ev fr) κ):=by
 rw[ny rfl];simp only[bU,lV];congr 1;split
 ·rename_i h;rw[h];split
  ·rename_i h;rw[h];rfl
  ·rename_i h;rw[tg];intro _ _ _ _ h1 h2;exact h _ _ h2
 ·rename_i h;rw[tg];intro _ _ _ _ h1 h2;exact h _ _ h1
theorem HE{o:Option bw}{d:Int}{f:Int->Prop}:jT (bw.ev fr) o d f↔∃n,bI (xV fr o) d=some n/\f n:=by
 cases o with
 |none=>simp[jT,xV,bI]
 |some x=>
  simp only[jT,xV,Option.map_some,lV];cases x.ev fr with
  |d y=>cases y<;>simp[bI]
  |_=>simp[bI]
theorem Gg{sz:Nat}{x:bw}{lo h:Option bw}:bP P base ⟨dst,hi,none,.op (.slice sz x lo h)⟩ ⟨fr,rows⟩ κ=vm rows sz (x.ev fr) (xV fr lo) (xV fr h) κ:=by
 rw[eo rfl,eq_iff_iff];simp only[bU,HE,vm];cases x.ev fr with
 |d y=>
  cases y with
  |bm=>cases hl:bI (xV fr lo) 0<;>cases hh:bI (xV fr h) 0<;>simp[sliceB,GU,hh]
  |sl s es=>cases hl:bI (xV fr lo) 0<;>cases hh:bI (xV fr h) es.length<;>simp[sliceB,GU,hh]
  |str s=>cases hl:bI (xV fr lo) 0<;>cases hh:bI (xV fr h) s.length<;>simp[sliceB,GU,hh]
  |_=>simp[sliceB]
 |cl s hh n off len=>cases hl:bI (xV fr lo) 0<;>cases hh:bI (xV fr h) len<;>simp[sliceB,GU,hh,iv]
 |_=>simp[sliceB]
theorem J6{off:Nat}{x:bw}:bP P base ⟨dst,hi,none,.op (.nf off x)⟩ ⟨fr,rows⟩ κ=xM rows off (x.ev fr) κ:=by
 rw[eo rfl];simp only[bU,<-iv];cases x.ev fr with
 |d y=>cases y<;>rfl
 |_=>rfl
theorem oa{α:Type}{e:List α}{i:Nat}{f:α->Prop}:(i<e.length/\∀v,e[i]? =some v->f v)=gX e i f:=by
 rw[eq_iff_iff];constructor
 ·rintro⟨h1,h2⟩;exact mN h1 h2
 ·intro h;refine⟨oN h,fun v hv=>?_⟩;obtain⟨v',h1,h2⟩:=fg.1 h;rw[h1]at hv;injection hv with hv;subst hv;exact h2
theorem Nj{off sz:Nat}{agg:Bool}{x:bw}:bP P base ⟨dst,hi,none,.op (.H8 off sz agg x)⟩ ⟨fr,rows⟩ κ=Dp off sz agg (x.ev fr) κ:=by
 rw[eo rfl];simp only[bU];cases x.ev fr with
 |agg cs=>
  cases agg with
  |true=>rfl
  |false=>exact oa
 |_=>cases agg<;>rfl
theorem KU{sz:Nat}{arr:Option Nat}{x i:bw}:bP P base ⟨dst,hi,none,.op (.fD sz arr x i)⟩ ⟨fr,rows⟩ κ=nE rows sz arr (x.ev fr) (i.ev fr) κ:=by
 rw[eo rfl];simp only[bU,lV];cases i.ev fr with
 |d y=>
  cases y with
  |int k j=>
   cases arr with
   |none=>
    cases x.ev fr with
    |d z=>
     cases z with
     |sl s es=>
      simp only[nE,eq_iff_iff];constructor
      ·rintro⟨h1,h2,h3,h4⟩;exact⟨h1,h2,h3,mN om h4⟩
      ·rintro⟨h1,h2,h3,h4⟩;rw[<-oa]at h4;exact⟨h1,h2,h3,h4.2⟩
     |_=>rfl
    |cl s h n off len=>
     simp only[nE,iv,eq_iff_iff];constructor
     ·rintro⟨h1,h2,h3,h4,h5⟩;exact⟨h1,h3,h4,h2,h5⟩
     ·rintro⟨h1,h3,h4,h2,h5⟩;exact⟨h1,h2,h3,h4,h5⟩
    |_=>rfl
   |some m=>
    cases x.ev fr with
    |d z=>cases z<;>rfl
    |aY s h n i o=>
     simp only[nE,iv,eq_iff_iff];constructor
     ·rintro⟨h1,h2,h3,h4⟩;exact⟨h2,h3,h1,h4⟩
     ·rintro⟨h2,h3,h1,h4⟩;exact⟨h1,h2,h3,h4⟩
    |_=>rfl
  |_=>cases arr<;>cases x.ev fr<;>first|rfl|(rename_i z;cases z<;>rfl)
 |_=>cases arr<;>cases x.ev fr<;>first|rfl|(rename_i z;cases z<;>rfl)
theorem OL{sz n:Nat}{agg:Bool}{x i:bw}:bP P base ⟨dst,hi,none,.op (.idx sz n agg x i)⟩ ⟨fr,rows⟩ κ=Bd sz n agg (x.ev fr) (i.ev fr) κ:=by
 rw[eo rfl];simp only[bU,lV];cases i.ev fr with
 |d y=>
  cases y with
  |int k j=>
   cases x.ev fr with
   |agg cs=>
    cases agg with
    |true=>rfl
    |false=>
     simp only[Bd,eq_iff_iff];constructor
     ·rintro⟨h1,h2,h3,rfl,h4⟩;exact⟨h1,h2,h3,rfl,mN om h4⟩
     ·rintro⟨h1,h2,h3,rfl,h4⟩;rw[<-oa]at h4;exact⟨h1,h2,h3,rfl,h4.2⟩
   |_=>cases agg<;>rfl
  |_=>cases agg<;>cases x.ev fr<;>rfl
 |_=>cases agg<;>cases x.ev fr<;>rfl
theorem KD{x i:bw}:bP P base ⟨dst,hi,none,.op (.iL x i)⟩ ⟨fr,rows⟩ κ=xI (x.ev fr) (i.ev fr) κ:=by
 rw[eo rfl];simp only[bU,lV];cases i.ev fr with
 |d y=>
  cases y with
  |int k j=>
   cases x.ev fr with
   |d z=>
    cases z with
    |str s=>
     simp only[xI,eq_iff_iff];constructor
     ·rintro⟨h1,h2,h4⟩;exact⟨h1,h2,mN om h4⟩
     ·rintro⟨h1,h2,h4⟩;rw[<-oa]at h4;exact⟨h1,h2,h4.2⟩
    |_=>rfl
   |_=>rfl
  |_=>cases x.ev fr<;>first|rfl|(rename_i z;cases z<;>rfl)
 |_=>cases x.ev fr<;>first|rfl|(rename_i z;cases z<;>rfl)
theorem Om{x:bw}{i:Nat}:bP P base ⟨dst,hi,none,.op (.ext x i)⟩ ⟨fr,rows⟩ κ=Hk i (x.ev fr) κ:=by
 rw[eo rfl];simp only[bU];cases x.ev fr with
 |cm vs=>exact oa
 |_=>rfl
theorem LC{f:Fn}{a b:List bw}:bP P base ⟨dst,hi,none,.op (.eG f a b)⟩ ⟨fr,rows⟩ κ=κ (.fn f (tS fr a) (tS fr b)) []:=by rw[eo rfl,iA,iA];rfl
theorem MY{str:Bool}{x:bw}:bP P base ⟨dst,hi,none,.op (.len str x)⟩ ⟨fr,rows⟩ κ=yh rows str (x.ev fr) κ:=by rw[eo rfl];simp only[bU,<-iv];cases str<;>cases x.ev fr<;>first|rfl|(rename_i z;cases z<;>rfl)
theorem py{sz:Nat}{v:V}{f:List (List V)->Prop}:eF rows sz v f=iY rows sz v f:=by
 cases v with
 |d x=>cases x<;>rfl
 |cl s h n off len=>
  simp only[eF,iY,eq_iff_iff,iu];constructor
  ·rintro⟨h1,⟨es,h2,h3⟩,h4⟩;exact⟨h1,es,h2,h3,h4 es h2⟩
  ·rintro⟨h1,es,h2,h3,h4⟩;refine⟨h1,⟨es,h2,h3⟩,fun es' h5=>?_⟩;rw[h2]at h5;injection h5 with h5;injection h5 with _ h5;subst h5
   exact h4
 |_=>rfl
theorem M1{x:bw}:bP P base ⟨dst,hi,none,.op (.BW x)⟩ ⟨fr,rows⟩ κ=J4 rows (x.ev fr) κ:=by rw[eo rfl];simp only[bU,py];rfl
theorem CW{sz bytes:Nat}{s x:bw}:bP P base ⟨dst,hi,none,.op (.append sz bytes s x)⟩ ⟨fr,rows⟩ κ=(rowAt rows (base+hi)=.un/\iY rows sz (x.ev fr) (yL rows sz bytes (base+hi) (s.ev fr) κ)):=by
 rw[ny rfl];simp only[bU,py];congr 2;funext xs;cases s.ev fr with
 |d y=>cases y<;>rfl
 |cl s h n off len=>
  simp only[yL,eq_iff_iff,iu,MB];constructor
  ·rintro⟨h1,h2,h3,⟨es,h4,h5⟩,h6,h7⟩;exact⟨h1,h2,h3,es,h4,h5,h6,h7 es h4⟩
  ·rintro⟨h1,h2,h3,es,h4,h5,h6,h7⟩;refine⟨h1,h2,h3,⟨es,h4,h5⟩,h6,fun es' h8=>?_⟩;rw[h4]at h8;injection h8 with h8;injection h8 with _ h8;subst h8
   exact h7
 |_=>rfl
theorem Ml{sz:Nat}{d s:bw}:bP P base ⟨dst,hi,none,.op (.copy sz d s)⟩ ⟨fr,rows⟩ κ=iY rows sz (s.ev fr) (BR rows sz (d.ev fr) κ):=by
 rw[eo rfl];simp only[bU,py];congr 1;funext xs;cases d.ev fr with
 |d y=>cases y<;>rfl
 |cl s h n off len=>
  simp only[BR,eq_iff_iff,iu,Mh];constructor
  ·rintro⟨h1,⟨es,h4,h5⟩,h7⟩;exact⟨h1,es,h4,h5,h7 es h4⟩
  ·rintro⟨h1,es,h4,h5,h7⟩;refine⟨h1,⟨es,h4,h5⟩,fun es' h8=>?_⟩;rw[h4]at h8;injection h8 with h8;injection h8 with _ h8;subst h8
   exact h7
 |_=>rfl
theorem Nv{sz:Nat}{z:List D}{x:bw}:bP P base ⟨dst,hi,none,.op (.Gf sz z x)⟩ ⟨fr,rows⟩ κ=Fc rows sz z (x.ev fr) κ:=by
 rw[eo rfl];simp only[bU];cases x.ev fr with
 |cl s h n off len=>
  simp only[Fc,eq_iff_iff,iu,Ln];constructor
  ·rintro⟨h1,⟨es,h4,h5⟩,h6,h7⟩;exact⟨h1,h6,es,h4,h5,h7 es h4⟩
  ·rintro⟨h1,h6,es,h4,h5,h7⟩;refine⟨h1,⟨es,h4,h5⟩,h6,fun es' h8=>?_⟩;rw[h4]at h8;injection h8 with h8;injection h8 with _ h8;subst h8
   exact h7
 |_=>rfl
theorem PU{x y:bw}:bP P base ⟨dst,hi,none,.op (.mn x y)⟩ ⟨fr,rows⟩ κ=Pe (x.ev fr) (y.ev fr) κ:=by
 rw[eo rfl];simp only[bU];split
 ·rename_i h1 h2;rw[h1,h2];rfl
 ·rename_i h;rw[Pe];exact h
def HH(hf:Nat):V->KV->Prop
 | .d (.str s),κ=>κ (.aY 0 hf 0 0 0) [(hf,.obj (.it s 0))]
 |_,_=>False
def tX(b:Bool)(h:Nat)(s:List UInt8)(pos:Nat)(κ:KV):Prop:=if b=true then κ (.cm [.d (.bool true),.d (.int .i64 pos),.d (.int .i32 (dD s pos).1)]) [(h,.obj (.it s (pos+(dD s pos).2)))]else κ (.cm [.d (.bool false)]) []
def Iw(h:Nat):bd->KV->Prop
 | .obj (.it s pos),κ=>tX (decide (pos<s.length)) h s pos κ
 |_,_=>False
def Be(rows:Rows):V->KV->Prop
 | .aY 0 h 0 0 0,κ=>Iw h (rowAt rows h) κ
 |_,_=>False
def IK:Bool->D->Bool->KV->Prop
 |true,v,b,κ=>κ (.cm [.d v,.d (.bool b)]) []
 |false,v,_,κ=>κ (.d v) []
def HQ(okf:Bool)(z:D):bd->List UInt8->KV->Prop
 | .obj (.mp es),s,κ=>IK okf (dL z es s) (fG es s) κ
 |_,_,_=>False
def yG(rows:Rows)(okf:Bool)(z:D):V->V->KV->Prop
 | .aY 0 h 0 1 0,.d (.str s),κ=>fy z=true/\HQ okf z (rowAt rows h) s κ
 | .d (.mp es),.d (.str s),κ=>fy z=true/\HQ okf z (.obj (.mp (BT es))) s κ
 |_,_,_=>False
def KG(h:Nat):bd->List UInt8->D->KV->Prop
 | .obj (.mp es),s,x,κ=>κ .any [(h,.obj (.mp (dU es s x)))]
 |_,_,_,_=>False
def BN(rows:Rows):V->V->V->KV->Prop
 | .aY 0 h 0 1 0,.d (.str s),.d x,κ=>fy x=true/\KG h (rowAt rows h) s x κ
 |_,_,_,_=>False
theorem NQ{h pos:Nat}{s:List UInt8}:tX true h s pos κ=κ (.cm [.d (.bool true),.d (.int .i64 pos),.d (.int .i32 (dD s pos).1)]) [(h,.obj (.it s (pos+(dD s pos).2)))]:=rfl
theorem NK{h pos:Nat}{s:List UInt8}:tX false h s pos κ=κ (.cm [.d (.bool false)]) []:=rfl
theorem Bg{b:Bool}{h pos:Nat}{s:List UInt8}(ht:b=true->tX true h s pos κ)(hf:b=false->tX false h s pos κ):tX b h s pos κ:=by
 cases b
 ·exact hf rfl
 ·exact ht rfl
def v9:V->V->KV->Prop
 | .d (.str s),.d (.int .u8 c),κ=>κ (.d (.int .i64 (Lib.indexByte s c.toNat.toUInt8))) []
 |_,_,_=>False
theorem Kv{x y:bw}:bP P base ⟨dst,hi,none,.op (.iI x y)⟩ ⟨fr,rows⟩ κ=v9 (x.ev fr) (y.ev fr) κ:=by
 rw[eo rfl];simp only[bU];split
 ·rename_i h1 h2;rw[h1,h2];rfl
 ·rename_i h;rw[v9];exact h
theorem NS:bP P base ⟨dst,hi,none,.op .bad⟩ ⟨fr,rows⟩ κ=False:=eo rfl
theorem O7{x:bw}:bP P base ⟨dst,hi,none,.op (.qB x)⟩ ⟨fr,rows⟩ κ=(rowAt rows (base+hi)=.un/\HH (base+hi) (x.ev fr) κ):=by
 rw[ny rfl];simp only[bU];congr 1;cases x.ev fr with
 |d y=>cases y<;>rfl
 |_=>rfl
theorem Gz:bP P base ⟨dst,hi,none,.op .mz⟩ ⟨fr,rows⟩ κ=(rowAt rows (base+hi)=.un/\κ (.aY 0 (base+hi) 0 1 0) [(base+hi,.obj (.mp []))]):=ny rfl
theorem NA{x:bw}:bP P base ⟨dst,hi,none,.op (.FO x)⟩ ⟨fr,rows⟩ κ=Be rows (x.ev fr) κ:=by
 rw[eo rfl];simp only[bU];split
 ·rename_i h e;rw[e];simp only[Be,dR,Gn];cases rows[h]? with
  |none=>rfl
  |some r=>cases r with
   |obj o=>cases o with
    |it s pos=>by_cases hp:pos<s.length<;>simp[Iw,tX,hp]
    |mp es=>rfl
    |mq n es=>rfl
    |loop l L=>rfl
   |_=>rfl
 ·rename_i hh;simp only[eq_iff_iff,false_iff];unfold Be;split
  ·rename_i e;exact(hh _ e).elim
  ·exact id
theorem MU{okf:Bool}{z:D}{m k:bw}:bP P base ⟨dst,hi,none,.op (.BV okf z m k)⟩ ⟨fr,rows⟩ κ=yG rows okf z (m.ev fr) (k.ev fr) κ:=by
 rw[eo rfl];simp only[bU];split
 ·rename_i h s e1 e2;rw[e1,e2];simp only[yG,dR,xE];congr 1;cases rows[h]? with
  |none=>rfl
  |some r=>cases r with
   |obj o=>cases o with
    |it s pos=>rfl
    |mp es=>cases okf<;>rfl
    |mq n es=>rfl
    |loop l L=>rfl
   |_=>rfl
 ·rename_i es s e1 e2;rw[e1,e2];cases okf<;>rfl
 ·rename_i hh hh2;simp only[eq_iff_iff,false_iff];unfold yG;split
  ·rename_i e1 e2;exact(hh _ _ e1 e2).elim
  ·rename_i e1 e2;exact(hh2 _ _ e1 e2).elim
  ·exact id
theorem MP{m k v:bw}:bP P base ⟨dst,hi,none,.op (.DC m k v)⟩ ⟨fr,rows⟩ κ=BN rows (m.ev fr) (k.ev fr) (v.ev fr) κ:=by
 rw[eo rfl];simp only[bU];split
 ·rename_i h s x e1 e2 e3;rw[e1,e2,e3];simp only[BN,dR,Gq];congr 1;cases rows[h]? with
  |none=>rfl
  |some r=>cases r with
   |obj o=>cases o<;>rfl
   |_=>rfl
 ·rename_i hh;simp only[eq_iff_iff,false_iff];unfold BN;split
  ·rename_i e1 e2 e3;exact(hh _ _ _ e1 e2 e3).elim
  ·exact id
theorem Qh{x y:bw}:bP P base ⟨dst,hi,none,.op (.mx x y)⟩ ⟨fr,rows⟩ κ=Nk (x.ev fr) (y.ev fr) κ:=by
 rw[eo rfl];simp only[bU];split
 ·rename_i h1 h2;rw[h1,h2];rfl
 ·rename_i h;rw[Nk];exact h
theorem N2{fl:List Bool}{S:St}:jf P base fl [] K S=K S:=by cases fl<;>rfl
theorem Q5{fl:List Bool}{f:bw}{as:List bw}:jf P base (true::fl) (⟨dst,hi,none,.call f as⟩::l) K ⟨fr,rows⟩=EY P (f.ev fr) (tS fr as) rows (AU P base fl l K dst fr):=by rw[iA];exact propext ⟨fun h=>h.2,fun h=>⟨trivial,h⟩⟩
theorem QL{fl:List Bool}{t:Nat}{w:Bool}{f:bw}{as:List bw}:jf P base (true::fl) (⟨dst,hi,some (t,w),.call f as⟩::l) K ⟨fr,rows⟩=(nth fr t=.d (.bool w)/\EY P (f.ev fr) (tS fr as) rows (AU P base fl l K dst fr)):=by rw[iA];rfl
theorem QM{fl:List Bool}{g:Option (Nat×Bool)}{act:ep}:jf P base (false::fl) (⟨dst,hi,g,act⟩::l) K ⟨fr,rows⟩=bP P base ⟨dst,hi,g,act⟩ ⟨fr,rows⟩ (td P base fl l K dst fr rows):=rfl
theorem Rb{g:Option (Nat×Bool)}{act:ep}:jf P base [] (⟨dst,hi,g,act⟩::l) K ⟨fr,rows⟩=bP P base ⟨dst,hi,g,act⟩ ⟨fr,rows⟩ (td P base [] l K dst fr rows):=rfl
theorem QV{fl:List Bool}{v:V}{u:List (Nat×bd)}:td P base fl l K dst fr rows v u=jf P base fl l K ⟨eg fr dst v,bq rows u⟩:=rfl
theorem QO{fl:List Bool}{v:V}{rows':Rows}:AU P base fl l K dst fr v rows'=jf P base fl l K ⟨eg fr dst v,rows'⟩:=rfl
theorem JP{f:bw}{as:List bw}:bP P base ⟨dst,hi,none,.call f as⟩ ⟨fr,rows⟩ κ=nB P (f.ev fr) (tS fr as) rows κ:=by rw[iA];rfl
def quiet(s:bn):Bool:=match s.act with
 | .call _ _=>true
 | .fL _=>false
 | .op o=>match o with
  | .qB _| .FO _| .mz| .q7 _| .B9 _ _ _ _| .sM _ _ _ _ _| .DC _ _ _| .HI _| .alloc _| .box _ _| .b5 _ _ _ _| .store _ _ _| .jH _ _ _ _ _| .append _ _ _ _| .copy _ _ _| .Gf _ _ _=>false
  |_=>true
end
section
variable{P:Program}{base:Nat}{κ κ':KV}{fr:List V}{rows:Rows}
theorem DR{o:iE}{ev:bw->V}{hf:Nat}(hq:quiet ⟨none,0,none,.op o⟩=true)(hk:∀v,κ v []->κ' v [])(h:bU o ev rows hf κ):bU o ev rows hf κ':=by
 cases o with
 |gC x=>exact hk _ h
 |pick c a b=>simp only[bU]at h|-;split<;>rename_i hh<;>simp_all
 |g7 x=>
  simp only[bU]at h|-;split<;>rename_i hh<;>simp only[hh]at h
  ·exact hk _ h
  ·exact⟨h.1,hk _ h.2⟩
  ·exact hk _ h
 |bin op x y=>exact(Aw _ _ _).mono _ _ (fun v=>hk _) h
 |Ft neg x y=>simp only[bU]at h|-;split<;>simp_all
 |FK neg ks x y=>
  simp only[bU]at h|-;split
  ·rename_i h1 h2;simp only[h1,h2]at h;unfold Kq at h|-;split<;>simp_all
  ·rename_i hh;split at h
   ·rename_i h1 h2;exact(hh _ _ h1 h2).elim
   ·exact h
 |isNil neg x y=>simp only[bU]at h|-;split<;>simp_all
 |un op x=>exact(CI _ _).mono _ _ (fun v=>hk _) h
 |conv k x=>simp only[bU]at h|-;split<;>simp_all
 |same x=>simp only[bU]at h|-;split<;>simp_all
 |BW x=>exact⟨h.1,(jq _ _ _).mono _ _ (fun v hv=>⟨hv.1,hk _ hv.2⟩) h.2⟩
 |build z ps=>exact(o9 _ _ _).mono _ _ (fun v=>hk _) h
 |load agg sz a=>
  simp only[bU]at h|-;split<;>rename_i hh<;>simp only[hh]at h
  ·cases agg with
   |true=>exact⟨h.1,hk _ h.2⟩
   |false=>exact⟨h.1,fun x hx=>hk _ (h.2 x hx)⟩
  ·refine⟨h.1,h.2.1,h.2.2.1,fun es e h1 h2=>?_⟩;have h3:=h.2.2.2 es e h1 h2;cases agg with
   |true=>exact hk _ h3
   |false=>exact⟨h3.1,h3.2.1,fun x hx=>hk _ (h3.2.2 x hx)⟩
 |slice sz x lo hi=>
  simp only[bU]at h|-;split<;>rename_i hh<;>simp only[hh]at h
  ·exact⟨h.1,(eC _ _ _).mono _ _ (fun l=>(eC _ _ _).mono _ _ fun h hh=>⟨hh.1,hh.2.1,hk _ hh.2.2⟩) h.2⟩
  ·exact⟨h.1,h.2.1,(eC _ _ _).mono _ _ (fun l=>(eC _ _ _).mono _ _ fun h hh=>⟨hh.1,hh.2.1,hh.2.2.1,hk _ hh.2.2.2⟩) h.2.2⟩
  ·exact⟨h.1,(eC _ _ _).mono _ _ (fun l=>(eC _ _ _).mono _ _ fun h hh=>⟨hh.1,hh.2.1,hh.2.2.1,hk _ hh.2.2.2⟩) h.2⟩
  ·exact⟨h.1,h.2.1,h.2.2.1,(eC _ _ _).mono _ _ (fun l=>(eC _ _ _).mono _ _ fun h hh=>⟨hh.1,hh.2.1,hh.2.2.1,hk _ hh.2.2.2⟩) h.2.2.2⟩
 |nf off x=>
  simp only[bU]at h|-;split<;>rename_i hh<;>simp only[hh]at h
  ·exact hk _ h
  ·exact⟨h.1,hk _ h.2⟩
 |H8 off sz agg x=>
  simp only[bU]at h|-;split<;>rename_i hh<;>simp only[hh]at h
  ·cases agg with
   |true=>exact⟨h.1,hk _ h.2⟩
   |false=>exact⟨h.1,fun x hx=>hk _ (h.2 x hx)⟩
 |fD sz arr x i=>
  simp only[bU]at h|-;refine(fp _).mono _ _ (fun j h=>?_) h;generalize ev x=xx at h|-;cases arr with
  |none=>
   cases xx with
   |d y=>
    cases y with
    |sl s es=>exact⟨h.1,h.2.1,h.2.2.1,fun e he=>hk _ (h.2.2.2 e he)⟩
    |_=>exact h.elim
   |cl s hh n off len=>exact⟨h.1,h.2.1,h.2.2.1,h.2.2.2.1,hk _ h.2.2.2.2⟩
   |_=>exact h.elim
  |some m=>
   cases xx with
   |d y=>
    cases y with
    |ptr cs=>exact⟨h.1,h.2.1,hk _ h.2.2⟩
    |_=>exact h.elim
   |aY s hh n k o=>exact⟨h.1,h.2.1,h.2.2.1,hk _ h.2.2.2⟩
   |_=>exact h.elim
 |idx sz n agg x i=>
  simp only[bU]at h|-;refine(fp _).mono _ _ (fun j h=>?_) h;split<;>rename_i hh<;>simp only[hh]at h
  ·refine⟨h.1,h.2.1,h.2.2.1,?_⟩;have h:=h.2.2.2;cases agg with
   |true=>exact hk _ h
   |false=>exact⟨h.1,fun x hx=>hk _ (h.2 x hx)⟩
 |iL x i=>
  simp only[bU]at h|-;refine(fp _).mono _ _ (fun j h=>?_) h;split<;>rename_i hh<;>simp only[hh]at h
  ·exact⟨h.1,h.2.1,fun x hx=>hk _ (h.2.2 x hx)⟩
 |ext x i=>
  simp only[bU]at h|-;split<;>rename_i hh<;>simp only[hh]at h
  ·exact⟨h.1,fun x hx=>hk _ (h.2 x hx)⟩
 |eG f a b=>exact hk _ h
 |len str x=>
  simp only[bU]at h|-;revert h;split
  ·exact hk _
  ·exact hk _
  ·exact hk _
  ·exact fun h=>⟨h.1,hk _ h.2⟩
  ·exact fun h=>h
 |mn x y=>simp only[bU]at h|-;split<;>simp_all
 |mx x y=>simp only[bU]at h|-;split<;>simp_all
 |bad=>exact(h:False).elim
 |Jo x y z=>simp only[bU]at h|-;split<;>simp_all
 |JI x y z=>simp only[bU]at h|-;split<;>simp_all
 |cap x=>simp only[bU]at h|-;split<;>simp_all
 |clip sz x hi mx=>
  simp only[bU]at h|-;split<;>rename_i hh<;>simp only[hh]at h
  ·exact⟨h.1,h.2.1,(fp _).mono _ _ (fun l=>(fp _).mono _ _ fun h hh=>⟨hh.1,hh.2.1,hk _ hh.2.2⟩) h.2.2⟩
 |qi T x=>
  simp only[bU]at h|-;split<;>rename_i hh<;>simp only[hh]at h
  ·unfold BQ at h|-;split<;>rename_i hh2<;>simp only[hh2]at h;exact hk _ h
 |xq T z x=>
  simp only[bU]at h|-;split<;>rename_i hh<;>simp only[hh]at h
  ·unfold tB at h|-;split
   ·exact hk _ h
   ·rename_i u h1;simp only at h|-;generalize yC _=r at h|-;cases r with
    |none=>exact h
    |some ns=>exact⟨h.1,hk _ h.2⟩
 |nu neg x=>simp only[bU]at h|-;split<;>simp_all
 |DK n ok z m k=>
  simp only[bU]at h|-;split
  ·rename_i h1 h2;simp only[h1,h2]at h;refine⟨h.1,?_⟩;have h:=h.2;unfold Db at h|-;split
   ·rename_i h3 h4;rw[h3,h4]at h;exact⟨h.1,h.2.1,hk _ h.2.2⟩
   ·rename_i hh;split at h
    ·rename_i h3 h4;exact(hh _ _ _ h3 h4).elim
    ·exact h
  ·rename_i hh;split at h
   ·rename_i h3 h4;exact(hh _ _ h3 h4).elim
   ·exact h
 |iI x y=>simp only[bU]at h|-;split<;>simp_all
 |BV ok z m k=>
  simp only[bU]at h|-;split
  ·rename_i h1 h2;simp only[h1,h2]at h;refine⟨h.1,?_⟩;have h:=h.2;unfold xE at h|-;split<;>rename_i hh<;>simp_all
  ·rename_i h1 h2;simp only[h1,h2]at h;refine⟨h.1,?_⟩;have h:=h.2;unfold xE at h|-;exact hk _ h
  ·rename_i hh hh2;split at h
   ·rename_i h3 h4;exact(hh _ _ h3 h4).elim
   ·rename_i h3 h4;exact(hh2 _ _ h3 h4).elim
   ·exact h
 |_=>simp[quiet]at hq
theorem Br{s:bn}{S:St}(hq:quiet s=true)(hk:∀v u,κ v u->κ' v u)(h:bP P base s S κ):bP P base s S κ':=by
 have hact:iU P base s S κ->iU P base s S κ':=by
  unfold iU;cases ha:s.act with
  |op o=>rintro⟨h1,h2⟩;exact⟨h1,DR (by simpa only[quiet,ha]using hq) (fun v=>hk v []) h2⟩
  |call f as=>
   intro h;simp only[pW]at h|-;generalize f.ev S.fr=g at h|-;cases g with
   |fn f a b=>
    cases f<;>first
     |(obtain⟨v,u,h1,h2⟩:=h;exact⟨v,u,h1,hk _ _ h2⟩)
     |exact h.elim
   |_=>exact h.elim
  |fL x=>exact fun h=>h.elim
 cases hg:s.guard with
 |none=>simp only[bP,hg]at h|-;exact hact h
 |some p=>
  obtain⟨t,w⟩:=p;simp only[bP,hg]at h|-;generalize nth S.fr t=g at h|-;cases g with
  |d x=>
   cases x with
   |bool b=>exact⟨fun hb=>hact (h.1 hb),fun hb=>hk _ _ (h.2 hb)⟩
   |_=>exact h.elim
  |cm vs=>
   cases vs with
   |nil=>exact hk _ _ h
   |cons a l=>exact h.elim
  |_=>exact h.elim
theorem zf:∀(l:List (bn×List Nat)) (acc:List (List Nat×List Nat)) (K:St->Prop) (S:St),(∀p∈acc,p.2=[])->l.all (fun p=>quiet p.1)=true->sS P base (l.map (·.1)) K S->fU P base l acc K S:=by
 intro l;induction l with
 |nil=>intro acc K S _ _ h;exact h
 |cons x l ih=>
  intro acc K S hacc hq h;obtain⟨s,pre⟩:=x;simp only[List.all_cons,av]at hq;refine Br hq.1 (fun v u h=>?_) h;obtain⟨rfl,h⟩:=h;refine⟨_,.inl rfl,?_,sm,ih _ _ _ (fun p hp=>?_) hq.2 h⟩
  ·simp only[eM,List.map_nil,aG];intro p hp;have:=hacc p.1 (List.fst_mem_of_mem_zipIdx hp);simp[yW,this]
  ·rcases aU.1 hp with hp|hp
   ·exact hacc p hp
   ·simp at hp;rw[hp]
end
section
variable{P:Program}{b0:Nat}{Q:AX->St->Prop}{fr:List V}{rows:Rows}
def AC.at(f:AC->AC):List Nat->AC->AC
 |0::p,.seq a b=>.seq (a.at f p) b
 |1::p,.seq a b=>.seq a (b.at f p)
 |0::p,.cond c a b=>.cond c (a.at f p) b
 |1::p,.cond c a b=>.cond c a (b.at f p)
 |2::p,.block i a=>.block i (a.at f p)
 |2::p,.loop a=>.loop (a.at f p)
 |2::p,.scope a=>.scope (a.at f p)
 |0::p,.qB g ps a b=>.qB g ps (a.at f p) b
 |1::p,.qB g ps a b=>.qB g ps a (b.at f p)
 |_,a=>f a
def AC.sub:List Nat->AC->AC
 |0::p,.seq a _=>a.sub p
 |1::p,.seq _ b=>b.sub p
 |0::p,.cond _ a _=>a.sub p
 |1::p,.cond _ _ b=>b.sub p
 |2::p,.block _ a=>a.sub p
 |2::p,.loop a=>a.sub p
 |2::p,.scope a=>a.sub p
 |0::p,.qB _ _ a _=>a.sub p
 |1::p,.qB _ _ _ b=>b.sub p
 |_,a=>a
def AC.look(fl:List Bool):AC->AC
 | .bV m l=>.AY m fl l
 |a=>a
theorem OG{a b:AC}{S:St}:dW P b0 (.seq a b) Q S=dW P b0 a (ub P b0 b Q) S:=rfl
theorem N4{b:AC}{S:St}:ub P b0 b Q .normal S=dW P b0 b Q S:=rfl
theorem NU{b:AC}{S:St}{i:Nat}:ub P b0 b Q (.exit i) S=Q (.exit i) S:=rfl
theorem Pc{b:AC}{S:St}:ub P b0 b Q .ret S=Q .ret S:=rfl
theorem NJ{m:Nat}{l:List bn}:dW P b0 (.bV m l) Q ⟨fr,rows⟩=jG P rows.length l (Q .normal) ⟨fr,rows++List.replicate m .un⟩:=rfl
theorem Mp{m:Nat}{l:List (bn×List Nat)}:dW P b0 (.iK m l) Q ⟨fr,rows⟩=fU P rows.length l [] (Q .normal) ⟨fr,rows++List.replicate m .un⟩:=rfl
theorem du{l:List (bn×List Nat)}(hq:l.all (fun p=>quiet p.1)=true)(h:sS P rows.length (l.map (·.1)) (Q .normal) ⟨fr,rows⟩):dW P b0 (.iK 0 l) Q ⟨fr,rows⟩:=by rw[Mp];simpa using zf l [] (Q .normal) ⟨fr,rows⟩ sm hq h
theorem Kd{m:Nat}{fl:List Bool}{l:List bn}:dW P b0 (.AY m fl l) Q ⟨fr,rows⟩=jf P rows.length fl l (Q .normal) ⟨fr,rows++List.replicate m .un⟩:=rfl
theorem Qq{t:Nat}{κ:V->Rows->Prop}:xe [.tmp t] κ .ret ⟨fr,rows⟩=κ (nth fr t) rows:=rfl
theorem PL{t:Nat}{κ:V->Rows->Prop}:xe [.tmp t] κ .normal ⟨fr,rows⟩=κ (nth fr t) rows:=rfl
theorem dh{f:FuncId}{first cap args:List V}{κ:V->Rows->Prop}(h:dn P f (first++args++cap) rows κ):EY P (.fn (.func f) first cap) args rows κ:=h
theorem bW{m:Nat}{l:List (bn×List Nat)}(h:fU P rows.length l [] (Q .normal) ⟨fr,rows++List.replicate m .un⟩):dW P b0 (.iK m l) Q ⟨fr,rows⟩:=h
theorem Kn{c:bw}{a b:AC}:dW P b0 (.cond c a b) Q ⟨fr,rows⟩=mr (c.ev fr) P b0 a b Q ⟨fr,rows⟩:=rfl
theorem Lb{a b:AC}{S:St}:mr (.d (.bool true)) P b0 a b Q S=dW P b0 a Q S:=by simp[mr,vT]
theorem Mm{a b:AC}{S:St}:mr (.d .ke) P b0 a b Q S=(dW P b0 a Q S/\dW P b0 b Q S):=rfl
theorem JM{a b:AC}{S:St}:mr (.d (.bool false)) P b0 a b Q S=dW P b0 b Q S:=by simp[mr,vT]
theorem HG{id:Nat}{a:AC}{S:St}:dW P b0 (.block id a) Q S=dW P b0 a (iq id Q) S:=rfl
theorem HF{id:Nat}{S:St}:iq id Q .normal S=Q .normal S:=rfl
theorem ID{id:Nat}{S:St}:iq id Q .ret S=Q .ret S:=rfl
theorem Hc{id:Nat}{S:St}:iq id Q (.exit id) S=Q .normal S:=by simp[iq]
theorem G8{id i:Nat}{S:St}(h:(i==id)=false):iq id Q (.exit i) S=Q (.exit i) S:=by
 have:i≠id:=by simpa using h
 simp[iq,this]
theorem HN{a:AC}{S:St}:dW P b0 (.scope a) Q S=dW P b0 a Q S:=rfl
theorem FX{S:St}:dW P b0 .label Q S=Q .normal S:=rfl
theorem Lh{id:Nat}{S:St}:dW P b0 (.exit id) Q S=Q (.exit id) S:=rfl
theorem M7{S:St}:dW P b0 .ret Q S=Q .ret S:=rfl
theorem Ls{S:St}:dW P b0 .skip Q S=Q .normal S:=rfl
theorem aZ{b:Bool}{x y:AC}{S:St}(ht:b=true->dW P b0 x Q S)(hf:b=false->dW P b0 y Q S):mr (.d (.bool b)) P b0 x y Q S:=⟨ht,hf⟩
def wo(P:Program)(b0:Nat)(a:AC)(Q:AX->St->Prop)(J:Nat->St->Prop)(n:Nat):AX->St->Prop:=fun e S'=>
 match e with
 | .normal=>∃n' S'',n'<n/\fb b0 S' S''/\J n' S''
 | .exit i=>Q (.exit i) S'
 | .ret=>Q .ret S'
 | .fL ch=>Q (.fL ch) S'
theorem Ka{a:AC}{J:Nat->St->Prop}{n:Nat}{S:St}{ch:List PanicEntry}:wo P b0 a Q J n (.fL ch) S=Q (.fL ch) S:=rfl
theorem Pa{b:AC}{S:St}{ch:List PanicEntry}:ub P b0 b Q (.fL ch) S=Q (.fL ch) S:=rfl
theorem Hf{id:Nat}{S:St}{ch:List PanicEntry}:iq id Q (.fL ch) S=Q (.fL ch) S:=rfl
theorem Lt{a:AC}{J:Nat->St->Prop}{n i:Nat}{S:St}:wo P b0 a Q J n (.exit i) S=Q (.exit i) S:=rfl
theorem MH{a:AC}{J:Nat->St->Prop}{n:Nat}{S:St}:wo P b0 a Q J n .ret S=Q .ret S:=rfl
theorem aW{f:FuncId}{first cap args:List V}{v:V}{κ:KV}(hn:(first++args++cap).all kv=true)(hc:CallP P f (first++args++cap) v)(h:κ v []):nB P (.fn (.func f) first cap) args rows κ:=⟨v,[],.inl (.inl ⟨.inl ⟨fun x hx=>aG.1 hn x hx,hc⟩,rfl⟩),h⟩
theorem fw{f:FuncId}{first cap args:List V}{v:V}{κ:KV}(hn:∀x∈first++args++cap,dN rows x)(hs:Hd v=true)(hc:CallP P f ((first++args++cap).map (dJ rows)) v)(h:κ v []):nB P (.fn (.func f) first cap) args rows κ:=⟨v,[],.inl (.inl ⟨.inr ⟨hn,hs,hc⟩,rfl⟩),h⟩
theorem uP{f:FuncId}{first cap args:List V}{v:V}{κ:KV}(hn:∀x∈first++args++cap,dN rows x)(hc:CallP P f ((first++args++cap).map (dJ rows)) v)(h:κ v (DN (first++args++cap))):nB P (.fn (.func f) first cap) args rows κ:=⟨v,_,.inl (.inr (.inl ⟨⟨hn,hc⟩,rfl⟩)),h⟩
theorem bF(h0:Nat){f:FuncId}{first cap args vals0:List V}{v0:V}{sz:Nat}{es es':List (List V)}{κ:KV}(hv:first++args++cap=vals0.map (cJ h0))(hz:vals0.all hZ=true)(hin:h0∈(first++args++cap).flatMap fi) (hrow:rows[h0]? =some (.live sz es)) (hd:lS es) (hd':lS es') (hl:es'.length=es.length) (hc:qZ P f vals0 sz es v0 es') (h:κ (cJ h0 v0) [(h0,.live sz es')]):nB P (.fn (.func f) first cap) args rows κ:=⟨_,_,.inl (.inr (.inr ⟨h0,sz,es,es',vals0,v0,hrow,hd,hd',hl,hv,fun x hx=>aG.1 hz x hx,hin,hc,rfl,rfl⟩)),h⟩
theorem Gv{base:Nat}{K:St->Prop}{dst:Option Nat}(h0:Nat)(F':List Nat){fo:bw}{as:List bw}{f:FuncId}{first cap args vals0:List V}{v0:V}{sz:Nat}{es es':List (List V)}{acc:List (List Nat×List Nat)}{dl:List (bn×List Nat)}{pre F:List Nat} (hf:fo.ev fr=.fn (.func f) first cap) (ha:as.map (bw.ev fr)=args) (hF:(first++args++cap).flatMap fi=F') (hv:first++args++cap=vals0.map (cJ h0)) (hz:vals0.all hZ=true) (hin:h0∈(first++args++cap).flatMap fi) (hrow:rows[h0]? =some (.live sz es)) (hd:lS es) (hd':lS es') (hl:es'.length=es.length) (hc:qZ P f vals0 sz es v0 es') (h1:eM acc pre F' [h0]=true) (h:fU P base dl (acc++[(F',[h0])]) K ⟨eg fr dst (cJ h0 v0),bq rows [(h0,.live sz es')]⟩):nB P (.fn (.func f) first cap) args rows (z7 P base dl acc K dst pre F none (.call fo as) fr rows):=by have hX:nr P f (first++args++cap) rows (cJ h0 v0) [(h0,.live sz es')]:=.inr (.inr ⟨h0,sz,es,es',vals0,v0,hrow,hd,hd',hl,hv,fun x hx=>aG.1 hz x hx,hin,hc,rfl,rfl⟩);refine⟨_,_,.inl hX,F',.inr ⟨rfl,?_⟩,h1,by rw[<-hF];show(List.contains _ h0&&true)=true;rw[Bool.and_true];exact List.contains_iff_mem.2 hin,h⟩;simp only[hf,ha];exact⟨hX,hF.symm⟩
theorem fO{f:FuncId}{first cap args:List V}{v:V}{ups:List (Nat×bd)}{κ:KV}(hl:rows.length<64)(hu:(ups.all fun p=>decide (p.1<64))=true)(hh:((first++args++cap).flatMap fi).isEmpty=false) (hc:dn P f (first++args++cap) rows (fun v' R=>v'=v/\R=bq rows ups)) (h:κ v ups):nB P (.fn (.func f) first cap) args rows κ:=⟨v,ups,.inr ⟨hl,fun p hp=>of_decide_eq_true (aG.1 hu p hp),hh,hc⟩,h⟩
theorem HX{f:FuncId}{fn:Func}{ac:AC}{vals:List V}{K:V->Rows->Prop}{rs:List RS}{n:Nat}(hf:P.funcs[f]? =some fn)(hname:(fn.name== "runtime.NumGoroutine")=false) (hr:fn.results.toList.mapM (fk P)=some rs) (hn:fn.ntmps=n) (hc:fn.body.bind (cV P)=some ac.erase) (hw:dW P rows.length ac (xe rs K) ⟨vals++List.replicate (n-vals.length) (.cm []),rows⟩):dn P f vals rows K:=by obtain⟨code,hb,hc⟩:=ab.1 hc;exact KI hf hname hb hr n hn hc hw
theorem Cj{rs:List RS}{v:V}{sz:Nat}{es':List (List V)}{S:St}(S':St)(hw:fb 1 S S')(hr:S'.rows=[.live sz es'])(h:gA rs S' fun vs=>fM vs=v):yx rs v sz es' .ret S:=⟨S',hw,hr,h⟩
end
mutual
def pt:List RS->List V->List V->Rows->V->Prop
 |[],acc,_,rows,v=>ed rows (fM acc) v
 | .tmp t::l,acc,fr,rows,v=>pt l (acc++[nth fr t]) fr rows v
 | .cell a agg sz::l,acc,fr,rows,v=>mj rows agg sz (nth fr a) (HC l acc fr rows v)
def HC:List RS->List V->List V->Rows->V->V->List (Nat×bd)->Prop
 |l,acc,fr,rows,v,x,_=>pt l (acc++[x]) fr rows v
end
theorem Ad(P:Program)(fr:List V)(rows:Rows)(v:V):∀(l:List RS) (acc:List V),gA l ⟨fr,rows⟩ (fun vs=>ed rows (fM (acc++vs)) v)=pt l acc fr rows v:=by
 intro l;induction l with
 |nil=>intro acc;simp[gA,pt]
 |cons r l ih=>
  intro acc;cases r with
  |tmp t=>simp only[gA,pt];rw[<-ih];simp
  |cell a agg sz=>simp only[gA,pt];have:=(eo (P:=P) (base:=0) (hi:=0) (fr:=fr) (rows:=rows) (dst:=none) (κ:=HC l acc fr rows v) (o:=.load agg sz (.t a)) rfl).symm.trans yP;rw[bw.ev]at this;rw[<-this];congr 1;funext x u;simp only[HC];rw[<-ih];simp
theorem Nu{rs:List RS}{v:V}{fr:List V}{rows:Rows}:ow rs v .ret ⟨fr,rows⟩=pt rs [] fr rows v:=by rw[<-Ad default];rfl
theorem MX{rs:List RS}{v:V}{fr:List V}{rows:Rows}:ow rs v .normal ⟨fr,rows⟩=pt rs [] fr rows v:=by rw[<-Ad default];rfl
section
variable{rows:Rows}
theorem Lk{v:V}:ed rows v .any=True:=eq_true (.any v)
theorem Mr{k k':IntKind}{a b:Int}:ed rows (.d (.int k a)) (.d (.int k' b))=(k=k'/\a=b):=by
 rw[eq_iff_iff];constructor
 ·intro h;cases h;exact⟨rfl,rfl⟩
 ·rintro⟨rfl,rfl⟩;exact .d _
theorem II{a b:Bool}:ed rows (.d (.bool a)) (.d (.bool b))=(a=b):=by
 rw[eq_iff_iff];constructor
 ·intro h;cases h;rfl
 ·rintro rfl;exact .d _
theorem KC{a b:List UInt8}:ed rows (.d (.str a)) (.d (.str b))=(a=b):=by
 rw[eq_iff_iff];constructor
 ·intro h;cases h;rfl
 ·rintro rfl;exact .d _
theorem Gd{n:Nat}:ed rows (.d .bm) (.d (.sl n []))=True:=eq_true (.bm n)
def kZ(rows:Rows):List V->List V->Prop
 |[],[]=>True
 |a::l,b::m=>ed rows a b/\kZ rows l m
 |[],_::_=>False
 |_::_,[]=>False
theorem lG{a b:List V}(h:kZ rows a b):a.length=b.length/\∀(j:Nat) (v v':V),a[j]? =some v->b[j]? =some v'->ed rows v v':=by
 induction a generalizing b with
 |nil=>cases b with
  |nil=>exact⟨rfl,sm⟩
  |cons y m=>exact h.elim
 |cons x l ih=>cases b with
  |nil=>exact h.elim
  |cons y m=>
   obtain⟨h1,h2⟩:=h;obtain⟨h3,h4⟩:=ih h2;refine⟨by simp[h3],fun j v v' h5 h6=>?_⟩;cases j with
   |zero=>simp at h5 h6;subst h5 h6;exact h1
   |succ j=>exact h4 j v v' (by simpa using h5) (by simpa using h6)
theorem sn{a b:List V}(hl:a.length=b.length)(h:∀(j:Nat) (v v':V),a[j]? =some v->b[j]? =some v'->ed rows v v'):kZ rows a b:=by
 induction a generalizing b with
 |nil=>cases b with
  |nil=>trivial
  |cons y m=>simp at hl
 |cons x l ih=>cases b with
  |nil=>simp at hl
  |cons y m=>exact⟨h 0 x y rfl rfl,ih (by simpa using hl) fun j v v' h1 h2=>h (j+1) v v' (by simpa using h1) (by simpa using h2)⟩
theorem JU{a b:List V}:ed rows (.cm a) (.cm b)=kZ rows a b:=by
 rw[eq_iff_iff];constructor
 ·intro h;cases h with|cm _ _ hl h=>exact sn hl h
 ·intro h;exact .cm _ _ (lG h).1 (lG h).2
theorem Mj{a b:List V}:ed rows (.agg a) (.agg b)=kZ rows a b:=by
 rw[eq_iff_iff];constructor
 ·intro h;cases h with|agg _ _ hl h=>exact sn hl h
 ·intro h;exact .agg _ _ (lG h).1 (lG h).2
theorem da{sz h n off len:Nat}{xs:List (List D)}{es:List (List D)}(hrow:rowAt rows h=.live sz (es.map (·.map .d)))(hn:es.length=n)(hle:off+len<=n)(hsz:∀e∈es,e.length=sz) (hxs:xs=(es.drop off).take len):ed rows (.cl sz h n off len) (.d (.sl sz xs)):=by
 subst hxs;refine .cl sz h n off len _ _ (re.2 hrow) (by simpa using hn) hle so (fun x hx=>hsz x (List.mem_of_mem_drop (List.mem_of_mem_take hx))) ?_;intro i j e x v y h1 h2 h3 h4;rw[ar]at h1;obtain⟨e0,h5,rfl⟩:=aa.1 h1;rw[List.getElem?_take]at h2;split at h2
 ·rw[List.getElem?_drop,h5]at h2;injection h2 with h2;subst h2
  rw[ar,h4]at h3;injection h3 with h3;subst h3
  exact .d _
 ·cases h2
end
section
variable{P:Program}{b0:Nat}{Q:AX->St->Prop}{base:Nat}{s:bn}{S:St}{κ:KV}{b:Bool}
theorem EX(hf:b=false->bP P base s S κ)(ht:b=true->κ (.cm []) []):eZ (.d (.bool b)) false P base s S κ:=by
 cases b
 ·rw[Nz];exact hf rfl
 ·rw[NZ];exact ht rfl
end
end Go.Vx
namespace Go.Vx
variable{P:Program}
theorem AP{f:FuncId}{fn:Func}{ac:AC}{vals:List V}{v:V}{sz:Nat}{es es':List (List V)}{rs:List RS}{n:Nat}(hf:P.funcs[f]? =some fn)(hname:(fn.name== "runtime.NumGoroutine")=false) (hr:fn.results.toList.mapM (fk P)=some rs) (hn:fn.ntmps=n) (hc:fn.body.bind (cV P)=some ac.erase) (hw:dW P 1 ac (yx rs v sz es') ⟨vals++List.replicate (n-vals.length) (.cm []),[.live sz es]⟩):qZ P f vals sz es v es':=by obtain⟨code,hb,hc⟩:=ab.1 hc;exact DX hf hname hb hr n hn hc hw
theorem FV{f:FuncId}{fn:Func}{ac:AC}{vals:List V}{v:V}{rs:List RS}{n:Nat}(hf:P.funcs[f]? =some fn)(hname:(fn.name== "runtime.NumGoroutine")=false) (hr:fn.results.toList.mapM (fk P)=some rs) (hn:fn.ntmps=n) (hc:fn.body.bind (cV P)=some ac.erase) (hw:dW P 0 ac (ow rs v) ⟨vals++List.replicate (n-vals.length) (.cm []),[]⟩):CallP P f vals v:=by obtain⟨code,hb,hc⟩:=ab.1 hc;exact EU hf hname hb hr n hn hc hw
end Go.Vx
