/- Proved: contracts of functions that the laws of Top reach, and plain facts for them. Conditions: those that each lemma states. -/
import Derived.Test.YtmhkppbollghoaaGreatDoorQ
set_option linter.unusedSectionVars false
set_option linter.unusedSimpArgs false
set_option linter.unusedVariables false
namespace Go.Proofs.Tp
open Go.Vx
theorem dx:maxLen=9223372036854775807:=rfl
theorem Pm:IntKind.i64.wrap 0=0:=by decide
def k9(i:Nat):UInt8:=UInt8.ofNat (48+i)
def mw(s:B)(i:Nat):B:=s++[91,k9 i,93]
theorem QP{i:Nat}(h:i<10):i=0\/i=1\/i=2\/i=3\/i=4\/i=5\/i=6\/i=7\/i=8\/i=9:=om
theorem t278{i:Nat}(hi:i<10):CallP Tryz.prog 278 [.d (.int .i64 i)] (.d (.str [k9 i])):=by refine cc278.go ac278 rfl ?_;rcases QP hi with rfl|rfl|rfl|rfl|rfl|rfl|rfl|rfl|rfl|rfl<;>(simp only[vq,seval,ac278,NV,k9];decide)
theorem t266{i:Nat}(hi:i<10):CallP Tryz.prog 266 [.d (.int .i64 i),.d (.int .i64 10)] (.d (.str [k9 i])):=by refine cc266.go ac266 rfl ?_;simp only[vq,seval,ac266,dt (show(0:Int)<=i by omega),dt (show(i:Int)<100 by omega)];refine aW rfl (t278 hi) ?_;simp only[vq,seval]
theorem t244{i:Nat}(hi:i<10):CallP Tryz.prog 244 [.d (.int .i64 i)] (.d (.str [k9 i])):=by refine cc244.go ac244 rfl ?_;simp only[vq,seval,ac244];refine aW rfl (t266 hi) ?_;simp only[vq,seval]
theorem t218{i:Nat}(hi:i<10):CallP Tryz.prog 218 [.d (.int .i64 i)] (.d (.str [k9 i])):=by refine cc218.go ac218 rfl ?_;simp only[vq,seval,ac218];refine aW rfl (t244 hi) ?_;simp only[vq,seval]
theorem t177(s:B){i:Nat}(hi:i<10)(hl:s.length+3<=maxLen):CallP Tryz.prog 177 [.d (.str s),.d (.int .i64 i)] (.d (.str (mw s i))):=by have hm:=dx;refine cc177.go ac177 rfl ?_;simp only[vq,seval,ac177];refine⟨om,?_⟩;refine aW rfl (t218 hi) ?_;simp only[vq,seval];refine⟨om,om,?_⟩;simp[mw]
theorem t212{i:Nat}(hi:i<10):CallP Tryz.prog 212 [.d (.int .i64 i)] (.d (.int .i64 (-i:Int))):=by
 refine cc212.go ac212 rfl ?_;simp only[vq,seval,ac212];refine aZ (fun hc=>?_) (fun hc=>?_)
 ·simp only[aj]at hc;simp only[vq,seval];rw[a8 om om];omega
 ·simp only[ak]at hc;simp only[vq,seval];omega
theorem t173{i:Nat}(hi:i<10):CallP Tryz.prog 173 [.d (.int .i64 i)] (.d (.str [k9 i])):=by
 refine cc173.go ac173 rfl ?_;simp only[vq,seval,ac173];refine aW rfl (t212 hi) ?_;simp only[vq,seval];refine bb (fun _:Unit=>⟨cC 24 [(0,.d (.int .i64 i)),(3,.d (.str [])),(4,.d (.int .i64 (-i:Int)))],[]⟩) (fun _=>True) (fun _=>0) () (a9 vt) trivial (fun _ _=>?_);have h1:Int.tmod (-(i:Int)) 10= -i:=by rw[Int.neg_tmod,Int.tmod_eq_of_lt om om]
 have h2:Int.tdiv (-(i:Int)) 10=0:=by rw[Int.neg_tdiv,Int.tdiv_eq_zero_of_lt om om];rfl
 have h3:IntKind.i64.wrap (48-(-i:Int))=48+i:=by rw[a8 om om];omega
 have h4:IntKind.u8.wrap (48+i:Int)=48+i:=Jt om om;simp only[vq,seval,h1,h2,h3,h4,Pm];refine⟨fun e he=>⟨_,List.mem_singleton.1 he⟩,?_⟩;simp only[vq,seval,dt (show(0:Int)=0 by rfl),df (show¬(i:Int)<0 by omega)];simp only[k9,oc];congr 2
theorem t120(s:B){i:Nat}(hi:i<10)(hl:s.length+3<=maxLen):CallP Tryz.prog 120 [.d (.str s),.d (.int .i64 i)] (.d (.str (mw s i))):=by have hm:=dx;refine cc120.go ac120 rfl ?_;simp only[vq,seval,ac120];refine⟨om,?_⟩;refine aW rfl (t173 hi) ?_;simp only[vq,seval];refine⟨om,om,?_⟩;simp[mw]
def FT(sz:Nat):AC:=sq (rg [aK 4 0]) (sq (sq (rg [aM 6 0,QT 7 6,aK 8 0]) (.block 0 (.loop (sq (rg [aB 9 .lss 8 7]) (sq (.cond (.t 9) (.skip) (.exit 0)) (sq (.block 1 (sq (rg [aM 10 8,aM 5 10]) (sq (rg [aM 11 1,aM 12 0,aM 13 5,aX 14 sz 12 13,aL 15 true sz 14,aV 16 11 [(.t 15)]]) (.cond (.t 16) (sq (rg [aM 17 5,aM 4 17]) (.ret)) (.skip))))) (rg [aD 18 .add 8 1,aM 8 18]))))))) (sq (rg [aK 4 (-1)]) (.ret)))
def LN(k:Nat):AC:=sq (rg [aO 4 0 (.gC (.k (.d (.bool false))))]) (sq (rg [aM 5 0,aM 6 1,aC 7 k [(.t 5),(.t 6)],aD 8 .geq 7 0,aM 4 8]) (.ret))
def nq{α:Type}(p:α->Bool):List α->Nat->Int
 |[],_=> -1
 |x::l,k=>if p x=true then k else nq p l (k+1)
theorem qT{α:Type}(p:α->Bool)(l:List α)(k:Nat):decide (0<=nq p l k)=l.any p:=by
 induction l generalizing k with
 |nil=>rfl
 |cons x l ih=>
  rw[nq,List.any_cons];cases h:p x with
  |true=>simp
  |false=>simp[ih]
theorem CY{fn sz:Nat}(hF:wF Tryz.prog fn 19 [.tmp 4] (FT sz)){α:Type}(dd:α->List D)(l:List α)(p:α->Bool){f:Nat}(first cap:List V)(hl:l.length<=maxLen)(hsz:∀x∈l,(dd x).length=sz) (hno:∀x:α,(first++[V.agg ((dd x).map .d)]++cap).all kv=true) (hp:∀x∈l,CallP Tryz.prog f (first++[.agg ((dd x).map .d)]++cap) (.d (.bool (p x)))):CallP Tryz.prog fn [.d (.sl sz (l.map dd)),.fn (.func f) first cap] (.d (.int .i64 (nq p l 0))):=by
 have hm:=hm;refine hF.go (FT sz) rfl ?_;simp only[vq,seval,FT];refine bb (fun i:Nat=>⟨cC 19 [(0,.d (.sl sz (l.map dd))),(1,.fn (.func f) first cap),(7,.d (.int .i64 l.length)),(8,.d (.int .i64 i))],[]⟩) (fun i=>i<=l.length/\nq p l 0=nq p (l.drop i) i) (fun i=>l.length-i) 0 (a9 vt) sm (fun i hi=>?_);obtain⟨h1,h2⟩:=hi;simp only[vq,seval];refine aZ (fun hc=>?_) (fun hc=>?_)
 ·simp only[aj]at hc;obtain⟨x,hx⟩:=bh (l:=l) (i:=i) om;have hmem:=af hx;rw[bt hx,nq]at h2;simp only[vq,seval];refine⟨om,om,bg hx ?_⟩;simp only[vq,seval];refine⟨by rw[hsz x hmem];exact aq _,?_⟩;rw[al (by rw[hsz x hmem];exact aq _)];refine aW (hno x) ((hp x hmem)) ?_;simp only[vq,seval];cases hpx:p x with
  |true=>rw[hpx,if_pos rfl]at h2;simp only[vq,seval,h2]
  |false=>rw[hpx,if_neg sm]at h2;simp only[vq,seval];refine bL (i+1) om (a9 ?_) ⟨om,h2⟩;simp only[vq,seval];rw[a8 om om];trivial
 ·simp only[ak]at hc;rw[b4 om,nq]at h2;simp only[vq,seval,h2]
theorem xl{fn k sz:Nat}(hC:wF Tryz.prog fn 9 [.tmp 4] (LN k))(hF:wF Tryz.prog k 19 [.tmp 4] (FT sz)){α:Type}(dd:α->List D)(l:List α)(p:α->Bool){f:Nat}(first cap:List V)(hl:l.length<=maxLen)(hsz:∀x∈l,(dd x).length=sz) (hno:∀x:α,(first++[V.agg ((dd x).map .d)]++cap).all kv=true) (hno2:([.d (.sl sz (l.map dd)),V.fn (.func f) first cap]:List V).all kv=true) (hp:∀x∈l,CallP Tryz.prog f (first++[.agg ((dd x).map .d)]++cap) (.d (.bool (p x)))):CallP Tryz.prog fn [.d (.sl sz (l.map dd)),.fn (.func f) first cap] (.d (.bool (l.any p))):=by refine hC.go (LN k) rfl ?_;simp only[vq,seval,LN];refine aW hno2 ((CY hF dd l p first cap hl hsz hno hp)) ?_;simp only[vq,seval];exact qT p l 0
structure Vr where
 nm:B
 w:Int
 m:Int
 v:Int
def Vr.d(x:Vr):List D:=[.str x.nm,.int .i64 x.w,.int .i64 x.m,.int .i64 x.v]
def cz(l:List Vr):D:=.sl 4 (l.map Vr.d)
theorem t179(x:Vr)(s:B):CallP Tryz.prog 179 [.agg (x.d.map .d),.d (.ptr [.str s])] (.d (.bool (decide (x.nm=s)))):=by refine cc179.go ac179 rfl ?_;simp only[vq,seval,ac179,Vr.d,List.map_cons,List.map_nil]
def kr(l:List Vr)(s:B):Int:=nq (fun x=>decide (x.nm=s)) l 0
theorem t125(l:List Vr)(s:B)(hl:l.length<=maxLen):CallP Tryz.prog 125 [.d (cz l),.d (.str s)] (.d (.int .i64 (kr l s))):=by have h:=CY cc178 Vr.d l (fun x=>decide (x.nm=s)) [] [.d (.ptr [.str s])] hl (fun _ _=>rfl) (fun _=>rfl) (fun x _=>t179 x s);refine cc125.go ac125 rfl ?_;simp only[vq,seval,ac125,cz];refine fw (v:=.d (.int .i64 (kr l s))) (by simp[dN,eu,Go.Vx.rowAt,wD,kv,gn]) rfl (by simpa[dJ,eR,sP,kr]using h) ?_;simp only[vq,seval]
theorem Dk{i j:Nat}(hi:i<10)(hj:j<10)(h:k9 i=k9 j):i=j:=by have h2:=congrArg UInt8.toNat h;simp only[k9,UInt8.toNat_ofNat']at h2;omega
theorem IG{s:B}{i j:Nat}(hi:i<10)(hj:j<10)(h:mw s i=mw s j):i=j:=by
 unfold mw at h;have:=List.append_cancel_left h;injection this with _ h;injection h with h
 exact Dk hi hj h
theorem uA{s k r:B}(h:dH 91 s=(k,r,true))(j:Nat):s=mw k j↔r=[k9 j,93]:=by
 have hs:=xB h;constructor
 ·intro e;rw[e,mw]at hs;have:=List.append_cancel_left hs;injection this with _ h;exact h.symm
 ·rintro rfl;exact hs
theorem qX(r:B):iI r=true↔∃j,j<8/\r=[k9 j,93]:=by
 constructor
 ·intro h;unfold iI at h;split at h
  ·rename_i a b;simp only[av,aj]at h;obtain⟨h1,h2,rfl⟩:=h;refine⟨a.toNat-48,om,?_⟩;congr 1;unfold k9;rw[show 48+(a.toNat-48)=a.toNat by omega];simp
  ·cases h
 ·rintro⟨j,hj,rfl⟩;have:∀j,j<8->iI [k9 j,93]=true:=by decide
  exact this j hj
theorem t124(s:B)(hl:s.length+3<=maxLen):CallP Tryz.prog 124 [.d (.str s)] (.d (.bool (ef s))):=by
 have hm:=dx;refine cc124.go ac124 rfl ?_;simp only[vq,seval,ac124];refine aW rfl (t175 s om) ?_;simp only[vq,seval];rcases hcut:dH 91 s with⟨k,r,ok⟩;cases hn:k6 s with
 |true=>
  have hno:=rm (oL hn);rw[hcut]at hno;have hok:ok=false:=by injection hno with _ h;injection h
  have hv:ef s=true:=by unfold ef;rw[hcut,hok];simpa using hn
  simp only[vq,seval,hv]
 |false=>
  simp only[vq,seval];refine aW rfl (t176 s 91 om) ?_;simp only[vq,seval];have hkl:=(uX 91 s).1;simp only[vq,seval,hcut];rw[hcut]at hkl;simp only at hkl;cases ok with
  |false=>
   have hv:ef s=false:=by unfold ef;rw[hcut];simpa using hn
   simp only[vq,seval,Bool.not_false,hv]
  |true=>
   have hv:ef s=(k6 k&&iI r):=by unfold ef;rw[hcut];rfl
   simp only[vq,seval,Bool.not_true];refine aW rfl (t175 k om) ?_;simp only[vq,seval];cases hk:k6 k with
   |false=>simp only[vq,seval,Bool.not_false,hv,hk,Bool.false_and]
   |true=>
    rw[hk,Bool.true_and]at hv;simp only[vq,seval,Bool.not_true];refine bb (fun i:Nat=>⟨cC 31 [(0,.d (.str s)),(3,.d (.str k)),(22,.d (.int .i64 i))],[]⟩) (fun i=>i<=8/\∀j,j<i->r≠[k9 j,93]) (fun i=>8-i) 0 (a9 vt) ⟨om,fun j hj=>om⟩ (fun i hi=>?_);obtain⟨h1,h2⟩:=hi;simp only[vq,seval];refine aZ (fun hc=>?_) (fun hc=>?_)
    ·simp only[aj]at hc;have hi8:i<8:=om;simp only[vq,seval];refine aW rfl (t177 k (show i<10 by omega) om) ?_;simp only[vq,seval];by_cases he:s=mw k i
     ·have hr:=(uA hcut i).1 he;have:iI r=true:=(qX r).2 ⟨i,hi8,hr⟩;simp only[vq,seval,dt he,hv,this]
     ·have hr:r≠[k9 i,93]:=fun hr=>he ((uA hcut i).2 hr);simp only[vq,seval,df he];refine bL (i+1) om (a9 ?_) ⟨om,fun j hj=>?_⟩
      ·simp only[vq,seval];rw[a8 om om];trivial
      ·by_cases hji:j=i
       ·subst hji;exact hr
       ·exact h2 j om
    ·simp only[ak]at hc;have hi8:i=8:=om;subst hi8;have:iI r=false:=by
      cases h:iI r with
      |false=>rfl
      |true=>obtain⟨j,hj,hr⟩:=(qX r).1 h;exact absurd hr (h2 j hj)
     simp only[vq,seval,hv,this]
def gB(l:List Vr)(s:B):Bool:=(dH 91 s).2.2&&(List.range 7).any fun i=>decide (s=mw (dH 91 s).1 (i+1))&&decide (kr l (mw (dH 91 s).1 i)<0)
theorem DV{l:List Vr}{s k r:B}(h:dH 91 s=(k,r,true)){i:Nat}(hi:i<7)(he:s=mw k (i+1)):gB l s=decide (kr l (mw k i)<0):=by
 unfold gB;rw[h];simp only[Bool.true_and];rw[Bool.eq_iff_iff,List.any_eq_true];constructor
 ·rintro⟨j,hj,h2⟩;simp only[av,aj]at h2;have hij:=IG om (by have:=List.mem_range.1 hj;omega) (he.symm.trans h2.1);obtain rfl:i=j:=om;simpa using h2.2
 ·intro h2;exact⟨i,List.mem_range.2 hi,by simp only[dt he,h2,Bool.and_self]⟩
theorem D9{l:List Vr}{s k r:B}(h:dH 91 s=(k,r,true))(hn:∀j,1<=j->j<8->s≠mw k j):gB l s=false:=by unfold gB;rw[h];simp only[Bool.true_and];rw[List.any_eq_false];intro j hj;simp[hn (j+1) om (by have:=List.mem_range.1 hj;omega)]
theorem t128(l:List Vr)(s:B)(hll:l.length<=maxLen)(hl:s.length+3<=maxLen):CallP Tryz.prog 128 [.d (cz l),.d (.str s)] (.d (.bool (gB l s))):=by
 have hm:=dx;refine cc128.go ac128 rfl ?_;simp only[vq,seval,ac128];refine aW rfl (t176 s 91 om) ?_;simp only[vq,seval];have hkl:=(uX 91 s).1;rcases hcut:dH 91 s with⟨k,r,ok⟩;rw[hcut]at hkl;simp only at hkl;simp only[vq,seval];cases ok with
 |false=>
  have hv:gB l s=false:=by unfold gB;rw[hcut];rfl
  simp only[vq,seval,Bool.not_false,hv]
 |true=>
  simp only[vq,seval,Bool.not_true];refine bb (fun i:Nat=>⟨cC 33 [(0,.d (cz l)),(1,.d (.str s)),(5,.d (.str k)),(8,.d (.int .i64 i))],[]⟩) (fun i=>1<=i/\i<=8/\∀j,1<=j->j<i->s≠mw k j) (fun i=>8-i) 1 (a9 vt) ⟨om,om,fun j hj=>om⟩ (fun i hi=>?_);obtain⟨h0,h1,h2⟩:=hi;simp only[vq,seval];refine aZ (fun hc=>?_) (fun hc=>?_)
  ·simp only[aj]at hc;simp only[vq,seval];refine aW rfl (t177 k (show i<10 by omega) om) ?_;simp only[vq,seval];by_cases he:s=mw k i
   ·obtain⟨j,rfl⟩:∃j,i=j+1:=⟨i-1,om⟩;have hw:IntKind.i64.wrap (((j+1:Nat):Int)-1)=(j:Nat):=by rw[a8 om om];omega
    simp only[vq,seval,dt he,hw];refine aW rfl (t177 k (show j<10 by omega) om) ?_;simp only[vq,seval];refine aW rfl (t125 l (mw k j) hll) ?_;simp only[vq,seval];exact(DV hcut om he).symm
   ·simp only[vq,seval,df he];refine bL (i+1) om (a9 ?_) ⟨om,om,fun j hj1 hj=>?_⟩
    ·simp only[vq,seval];rw[a8 om om];trivial
    ·by_cases hji:j=i
     ·subst hji;exact he
     ·exact h2 j hj1 om
  ·simp only[ak]at hc;have hi8:i=8:=om;subst hi8;simp only[vq,seval,D9 (l:=l) hcut h2]
theorem t65(l:List Vr)(s:B)(hl:l.length<=maxLen):CallP Tryz.prog 65 [.d (cz l),.d (.str s)] (.d (.int .i64 (kr l s))):=by
 have hm:=hm;refine cc65.go ac65 rfl ?_;simp only[vq,seval,ac65];refine bb (fun i:Nat=>⟨cC 20 [(0,.d (cz l)),(1,.d (.str s)),(5,.d (.int .i64 i))],[]⟩) (fun i=>i<=l.length/\kr l s=nq (fun x:Vr=>decide (x.nm=s)) (l.drop i) i) (fun i=>l.length-i) 0 (a9 vt) ⟨om,by rw[List.drop_zero];rfl⟩ (fun i hi=>?_);obtain⟨h1,h2⟩:=hi;simp only[vq,seval,cz];refine aZ (fun hc=>?_) (fun hc=>?_)
 ·simp only[aj]at hc;obtain⟨x,hx⟩:=bh (l:=l) (i:=i) om;rw[bt hx,nq]at h2;simp only[vq,seval];refine⟨om,om,bg hx ?_⟩;simp only[vq,seval];simp only[vq,seval,Vr.d];by_cases he:x.nm=s
  ·rw[if_pos (by simpa using he)]at h2;simp only[vq,seval,dt he,h2]
  ·rw[if_neg (by simpa using he)]at h2;simp only[vq,seval,df he];refine bL (i+1) om (a9 ?_) ⟨om,h2⟩;simp only[vq,seval,cz];rw[a8 om om];trivial
 ·simp only[ak]at hc;rw[b4 om,nq]at h2;simp only[vq,seval,h2]
theorem Je{s:B}(h:k6 s=true):s≠[]:=by
 rintro rfl;have:k6 []=false:=by decide
 rw[this]at h;cases h
theorem EB{s:B}{k:Nat}(h:s[k]? =some 91):s=s.take k++91::s.drop (k+1):=by
 obtain⟨h1,h2⟩:=ad.1 h
 conv=>lhs;rw[<-List.take_append_drop k s]
 rw[List.drop_eq_getElem_cons h1,h2]
theorem LF{s:B}{k i:Nat}(hk:s[k]? =some 91)(hn:k6 (s.take k)=true)(hi:i<8)(he:s=mw (s.take k) i):ef s=true:=by have hs:=EB hk;have hc:=y8 (oL hn) (s.drop (k+1));rw[<-hs]at hc;have hr:=(uA hc i).1 he;unfold ef;rw[hc,if_pos rfl];simp only[hn,Bool.true_and];exact(qX _).2 ⟨i,hi,hr⟩
theorem JT{s:B}(h:ef s=true)(hn:k6 s=false):∃k i,1<=k/\k<s.length/\s[k]? =some 91/\k6 (s.take k)=true/\i<8/\s=mw (s.take k) i:=by
 rcases hcut:dH 91 s with⟨k,r,ok⟩;unfold ef at h;rw[hcut]at h;cases ok with
 |false=>simp only[Bool.false_eq_true,if_false]at h;rw[hn]at h;cases h
 |true=>
  simp only[if_true,av]at h;obtain⟨i,hi,hr⟩:=(qX r).1 h.2;have hs:=xB hcut;have ht:s.take k.length=k:=by rw[hs];simp
  refine⟨k.length,i,?_,?_,?_,by rw[ht];exact h.1,hi,?_⟩
  ·have:=Je h.1;exact List.length_pos_iff.2 this
  ·rw[hs];simp
  ·rw[hs];simp
  ·rw[ht];exact(uA hcut i).2 hr
theorem t119(s:B)(hl:s.length+3<=maxLen):CallP Tryz.prog 119 [.d (.str s)] (.d (.bool (ef s))):=by
 have hm:=dx;refine cc119.go ac119 rfl ?_;simp only[vq,seval,ac119];refine aW rfl (t172 s om) ?_;simp only[vq,seval];cases hn:k6 s with
 |true=>
  have hno:=rm (oL hn);have hv:ef s=true:=by unfold ef;rw[hno];simpa using hn
  simp only[vq,seval,hv]
 |false=>
  simp only[vq,seval];refine bb (fun k:Nat=>⟨cC 35 [(0,.d (.str s)),(3,.d (.int .i64 k))],[]⟩) (fun k=>1<=k/\k<=s.length+1/\∀j i,1<=j->j<k->i<8->s[j]? =some 91->k6 (s.take j)=true->s≠mw (s.take j) i) (fun k=>s.length+1-k) 1 (a9 vt) ⟨om,om,fun j i h1 h2=>om⟩ (fun k hk=>?_);obtain⟨h0,h1,h2⟩:=hk;simp only[vq,seval];refine aZ (fun hc=>?_) (fun hc=>?_)
  ·simp only[aj]at hc;obtain⟨b,hb⟩:=bh (l:=s) (i:=k) om;have next:(∀i,i<8->s[k]? =some 91->k6 (s.take k)=true->s≠mw (s.take k) i)->∀j i,1<=j->j<k+1->i<8->s[j]? =some 91->k6 (s.take j)=true->s≠mw (s.take j) i:=fun h j i e1 e2 e3 e4 e5=>by
    by_cases hj:j=k
    ·subst hj;exact h i e3 e4 e5
    ·exact h2 j i e1 om e3 e4 e5
   simp only[vq,seval];refine⟨om,om,b8 hb ?_⟩;simp only[vq,seval];by_cases hb9:(b.toNat:Int)=91
   ·have hb':b=91:=by
     have:b.toNat=91:=by exact_mod_cast hb9
     exact UInt8.toNat_inj.1 (by simpa using this)
    subst hb';simp only[vq,seval,show decide (((91:UInt8).toNat:Int)≠91)=false by decide]
    repeat(refine⟨om,?_⟩)
    have htk:(s.take k).length<=s.length:=by simp;omega
    refine aW rfl (t172 (s.take k) om) ?_;simp only[vq,seval];cases hnk:k6 (s.take k)with
    |false=>simp only[vq,seval,Bool.not_false];refine bL (k+1) om (a9 ?_) ⟨om,om,next fun i _ _ h=>by rw[hnk]at h;cases h⟩;simp only[vq,seval];rw[a8 om om];trivial
    |true=>
     simp only[vq,seval,Bool.not_true];refine bb (fun i:Nat=>⟨cC 35 [(0,.d (.str s)),(3,.d (.int .i64 k)),(4,.d (.int .i64 i))],[]⟩) (fun i=>i<=8/\∀j,j<i->s≠mw (s.take k) j) (fun i=>8-i) 0 (a9 vt) ⟨om,fun j hj=>om⟩ (fun i hi=>?_);obtain⟨h3,h4⟩:=hi;simp only[vq,seval];refine aZ (fun hc2=>?_) (fun hc2=>?_)
     ·simp only[aj]at hc2;simp only[vq,seval]
      repeat(refine⟨om,?_⟩)
      refine aW rfl (t120 (s.take k) (show i<10 by omega) om) ?_;simp only[vq,seval];by_cases he:s=mw (s.take k) i
      ·simp only[vq,seval,dt he,LF hb hnk (show i<8 by omega) he]
      ·simp only[vq,seval,df he];refine bL (i+1) om (a9 ?_) ⟨om,fun j hj=>?_⟩
       ·simp only[vq,seval];rw[a8 om om];trivial
       ·by_cases hji:j=i
        ·subst hji;exact he
        ·exact h4 j om
     ·simp only[ak]at hc2;obtain rfl:i=8:=om;simp only[vq,seval];refine bL (k+1) om (a9 ?_) ⟨om,om,next fun i hi _ _=>h4 i hi⟩;simp only[vq,seval];rw[a8 om om];trivial
   ·simp only[vq,seval,dt (show(b.toNat:Int)≠91 from hb9)];refine bL (k+1) om (a9 ?_) ⟨om,om,next fun i _ h _=>by rw[hb]at h;injection h with h;subst h;exact absurd dc hb9⟩;simp only[vq,seval];rw[a8 om om];trivial
  ·simp only[ak]at hc;have hv:ef s=false:=by
    cases h:ef s with
    |false=>rfl
    |true=>obtain⟨k',i,e1,e2,e3,e4,e5,e6⟩:=JT h hn;exact absurd e6 (h2 k' i e1 om e5 e3 e4)
   simp only[vq,seval,hv]
theorem AI{s:B}{k:Nat}(hv:ef s=true)(hk:s[k]? =some 91):∃r,dH 91 s=(s.take k,r,true):=by
 rcases hcut:dH 91 s with⟨K,r,ok⟩;have hmem:(91:UInt8)∈s:=af hk;cases ok with
 |false=>have:=Jk hcut;exfalso;unfold ef at hv;rw[hcut]at hv;simp only[Bool.false_eq_true,if_false]at hv;exact oL hv hmem
 |true=>
  unfold ef at hv;rw[hcut]at hv;simp only[if_true,av]at hv;obtain⟨j,hj,rfl⟩:=(qX r).1 hv.2;have hs:=xB hcut;have hno:=oL hv.1;rw[hs]at hk;have hlt:=(ad.1 hk).1;simp at hlt;have hd:∀j,j<8->k9 j≠91:=by decide
  by_cases h1:k<K.length
  ·rw[aH h1]at hk;exact absurd (af hk) hno
  ·rw[aJ om]at hk;have h2:k-K.length=0\/k-K.length=1\/k-K.length=2:=om;rcases h2 with h2|h2|h2
   ·refine⟨[k9 j,93],?_⟩;have:s.take k=K:=by rw[hs,List.take_append,al om,h2];simp
    rw[this]
   ·rw[h2]at hk;simp at hk;exact absurd hk (hd j hj)
   ·rw[h2]at hk;simp at hk
theorem CC{l:List Vr}{s:B}(hv:ef s=true)(h:∀j,1<=j->j<s.length->s[j]? =some 91->gB l s=false):gB l s=false:=by
 rcases hcut:dH 91 s with⟨K,r,ok⟩;cases ok with
 |false=>unfold gB;rw[hcut];rfl
 |true=>
  have hs:=xB hcut;have hv2:=hv;unfold ef at hv2;rw[hcut]at hv2;simp only[if_true,av]at hv2;refine h K.length (List.length_pos_iff.2 (Je hv2.1)) ?_ ?_
  ·rw[hs];simp
  ·rw[hs];simp
theorem Gm{l:List Vr}{s:B}{k n:Nat}(hv:ef s=true)(hk:s[k]? =some 91)(hn:n<7)(he:s=mw (s.take k) (n+1)):gB l s=decide (kr l (mw (s.take k) n)<0):=by obtain⟨r,hr⟩:=AI hv hk;exact DV hr hn he
theorem Fx{l:List Vr}{s:B}{k:Nat}(hv:ef s=true)(hk:s[k]? =some 91)(h:∀n,1<=n->n<8->s=mw (s.take k) n->gB l s=false):gB l s=false:=by
 obtain⟨r,hr⟩:=AI hv hk;by_cases hx:∃n,1<=n/\n<8/\s=mw (s.take k) n
 ·obtain⟨n,h1,h2,h3⟩:=hx;exact h n h1 h2 h3
 ·exact D9 hr fun j h1 h2 h3=>hx ⟨j,h1,h2,h3⟩
def Fj(l:List Vr):Prop:=∀x∈l,ef x.nm=true/\x.nm.length+3<=maxLen
theorem t66(l:List Vr)(hl:l.length<=maxLen)(ok:Fj l):CallP Tryz.prog 66 [.d (cz l)] (.d (.bool (l.any fun x=>gB l x.nm))):=by
 have hm:=dx;refine cc66.go ac66 rfl ?_;simp only[vq,seval,ac66];refine bb (fun i:Nat=>⟨cC 64 [(0,.d (cz l)),(3,.d (.int .i64 i))],[]⟩) (fun i=>i<=l.length/\(l.any fun x=>gB l x.nm)=(l.drop i).any fun x=>gB l x.nm) (fun i=>l.length-i) 0 (a9 vt) ⟨om,by rw[List.drop_zero]⟩ (fun i hi=>?_);obtain⟨h1,h2⟩:=hi;simp only[vq,seval,cz];refine aZ (fun hc=>?_) (fun hc=>?_)
 ·simp only[aj]at hc;obtain⟨x,hx⟩:=bh (l:=l) (i:=i) om;obtain⟨hv,hxl⟩:=ok x (af hx);rw[bt hx,List.any_cons]at h2;simp only[vq,seval];refine bb (fun k:Nat=>⟨cC 64 [(0,.d (cz l)),(3,.d (.int .i64 i)),(4,.d (.int .i64 k))],[]⟩) (fun k=>1<=k/\k<=x.nm.length+1/\∀j,1<=j->j<k->x.nm[j]? =some 91->gB l x.nm=false) (fun k=>x.nm.length+1-k) 1 (a9 (by simp only[vq,seval,cz];try trivial)) ⟨om,om,fun j h1 h2=>om⟩ (fun k hk=>?_);obtain⟨k1,k2,k3⟩:=hk;simp only[vq,seval,cz];refine⟨om,om,bg hx ?_⟩;simp only[vq,seval];simp only[vq,seval,Vr.d];refine aZ (fun hc2=>?_) (fun hc2=>?_)
  ·simp only[aj]at hc2;obtain⟨b,hb⟩:=bh (l:=x.nm) (i:=k) om;have next:(x.nm[k]? =some 91->gB l x.nm=false)->∀j,1<=j->j<k+1->x.nm[j]? =some 91->gB l x.nm=false:=fun h j e1 e2 e3=>by
    by_cases hj:j=k
    ·subst hj;exact h e3
    ·exact k3 j e1 om e3
   simp only[vq,seval];refine⟨om,om,bg hx ?_⟩;simp only[vq,seval];simp only[vq,seval,Vr.d];refine⟨om,om,b8 hb ?_⟩;simp only[vq,seval];by_cases hb9:(b.toNat:Int)=91
   ·have hb':b=91:=by
     have:b.toNat=91:=by exact_mod_cast hb9
     exact UInt8.toNat_inj.1 (by simpa using this)
    subst hb';simp only[vq,seval,show decide (((91:UInt8).toNat:Int)≠91)=false by decide];have htk:(x.nm.take k).length<=x.nm.length:=by simp;omega
    refine bb (fun n:Nat=>⟨cC 64 [(0,.d (cz l)),(3,.d (.int .i64 i)),(4,.d (.int .i64 k)),(5,.d (.int .i64 n))],[]⟩) (fun n=>1<=n/\n<=8/\∀j,1<=j->j<n->x.nm=mw (x.nm.take k) j->gB l x.nm=false) (fun n=>8-n) 1 (a9 (by simp only[vq,seval,cz];try trivial)) ⟨om,om,fun j h1 h2=>om⟩ (fun n hn=>?_);obtain⟨n1,n2,n3⟩:=hn;simp only[vq,seval,cz];refine aZ (fun hc3=>?_) (fun hc3=>?_)
    ·simp only[aj]at hc3;have next2:(x.nm=mw (x.nm.take k) n->gB l x.nm=false)->∀j,1<=j->j<n+1->x.nm=mw (x.nm.take k) j->gB l x.nm=false:=fun h j e1 e2 e3=>by
      by_cases hj:j=n
      ·subst hj;exact h e3
      ·exact n3 j e1 om e3
     simp only[vq,seval];refine du rfl ?_;simp only[vq,seval];refine⟨om,om,bg hx ?_⟩;simp only[vq,seval];simp only[vq,seval,Vr.d];refine⟨om,om,bg hx ?_⟩;simp only[vq,seval];simp only[vq,seval,Vr.d]
     repeat(refine⟨om,?_⟩)
     refine aW rfl (t120 (x.nm.take k) (show n<10 by omega) om) ?_;simp only[vq,seval];by_cases he:x.nm=mw (x.nm.take k) n
     ·simp only[vq,seval,dt he];refine⟨om,om,bg hx ?_⟩;simp only[vq,seval];simp only[vq,seval,Vr.d]
      repeat(refine⟨om,?_⟩)
      obtain⟨j,rfl⟩:∃j,n=j+1:=⟨n-1,om⟩;have hw:IntKind.i64.wrap (((j+1:Nat):Int)-1)=(j:Nat):=by rw[a8 om om];omega
      simp only[vq,seval,hw];refine aW rfl (t120 (x.nm.take k) (show j<10 by omega) om) ?_;simp only[vq,seval];refine aW rfl (t65 l (mw (x.nm.take k) j) hl) ?_;simp only[vq,seval];have hg:=Gm (l:=l) hv hb (show j<7 by omega) he;by_cases hlt:kr l (mw (x.nm.take k) j)<0
      ·rw[dt hlt]at hg;rw[hg,Bool.true_or]at h2;simp only[vq,seval,dt hlt,h2]
      ·rw[df hlt]at hg;simp only[vq,seval,df hlt];refine bL (j+1+1) om (a9 ?_) ⟨om,om,next2 fun _=>hg⟩;simp only[vq,seval,cz];rw[a8 om om];trivial
     ·simp only[vq,seval,df he];refine bL (n+1) om (a9 ?_) ⟨om,om,next2 fun h=>absurd h he⟩;simp only[vq,seval,cz];rw[a8 om om];trivial
    ·simp only[ak]at hc3;obtain rfl:n=8:=om;simp only[vq,seval];refine bL (k+1) om (a9 ?_) ⟨om,om,next fun _=>Fx hv hb n3⟩;simp only[vq,seval,cz];rw[a8 om om];trivial
   ·simp only[vq,seval,dt (show(b.toNat:Int)≠91 from hb9)];refine bL (k+1) om (a9 ?_) ⟨om,om,next fun h=>by rw[hb]at h;injection h with h;subst h;exact absurd dc hb9⟩;simp only[vq,seval,cz];rw[a8 om om];trivial
  ·simp only[ak]at hc2;rw[CC hv fun j e1 e2 e3=>k3 j e1 om e3,Bool.false_or]at h2;simp only[vq,seval];refine bL (i+1) om (a9 ?_) ⟨om,h2⟩;simp only[vq,seval,cz];rw[a8 om om];trivial
 ·simp only[ak]at hc;rw[b4 om]at h2;simp only[vq,seval,h2,List.any_nil]
theorem vX{w:Nat}(h:w<=8):(2:Int)^w<=256/\(1:Int)<=2^w:=by
 have:∀w,w<=8->(2:Int)^w<=256/\(1:Int)<=2^w:=by decide
 exact this w h
theorem DG{w:Int}(h1:1<=w)(h2:w<=8):IntKind.i64.wrap (1*2^(min w.toNat (IntKind.bits .i64)))=2^w.toNat:=by have hb:IntKind.bits .i64=64:=rfl;have:=vX (w:=w.toNat) om;rw[hb,Nat.min_eq_left om,Int.one_mul,a8 om om]
def n7(x:Vr):Int:=if ef x.nm=false then 7 else if x.w<1\/8<x.w\/x.m<0\/2<x.m\/x.v<0\/2^x.w.toNat<=x.v\/(x.m≠0/\x.v≠0)then 1 else 0
theorem n6{x:Vr}(h:n7 x=0):ef x.nm=true/\1<=x.w/\x.w<=8/\0<=x.m/\x.m<=2/\0<=x.v/\x.v<2^x.w.toNat/\(x.m=0\/x.v=0):=by
 unfold n7 at h;cases hn:ef x.nm with
 |false=>rw[hn]at h;simp at h
 |true=>
  rw[hn]at h;by_cases hc:x.w<1\/8<x.w\/x.m<0\/2<x.m\/x.v<0\/2^x.w.toNat<=x.v\/(x.m≠0/\x.v≠0)
  ·simp[hc]at h
  ·refine⟨rfl,om,om,om,om,om,om,om⟩
theorem t64(x:Vr)(hl:x.nm.length+3<=maxLen):CallP Tryz.prog 64 [.agg (x.d.map .d)] (.d (.int .i64 (n7 x))):=by
 refine cc64.go ac64 rfl ?_;simp only[vq,seval,ac64,Vr.d,List.map_cons,List.map_nil];refine aW rfl (t119 x.nm hl) ?_;simp only[vq,seval];cases hn:ef x.nm with
 |false=>simp only[vq,seval,Bool.not_false,n7,hn]
 |true=>
  simp only[vq,seval,Bool.not_true];have hE:∀p:Prop,(p↔(x.w<1\/8<x.w\/x.m<0\/2<x.m\/x.v<0\/2^x.w.toNat<=x.v\/(x.m≠0/\x.v≠0)))->(p->n7 x=1)/\(¬p->n7 x=0):=fun p hp=>by unfold n7;rw[hn];exact⟨fun h=>by rw[if_neg sm,if_pos (hp.1 h)],fun h=>by rw[if_neg sm,if_neg (fun h2=>h (hp.2 h2))]⟩
  have h1:(x.w<1\/8<x.w\/x.m<0\/2<x.m\/x.v<0\/2^x.w.toNat<=x.v\/(x.m≠0/\x.v≠0))->n7 x=1:=(hE _ Iff.rfl).1;have h0:¬(x.w<1\/8<x.w\/x.m<0\/2<x.m\/x.v<0\/2^x.w.toNat<=x.v\/(x.m≠0/\x.v≠0))->n7 x=0:=(hE _ Iff.rfl).2;clear hE;by_cases c1:x.w<1
  ·simp only[vq,seval,dt c1,h1 (.inl c1)]
  by_cases c2:8<x.w
  ·simp only[vq,seval,df c1,dt c2,h1 (by simp[c2])]
  by_cases c3:x.m<0
  ·simp only[vq,seval,df c1,df c2,dt c3,h1 (by simp[c3])]
  by_cases c4:2<x.m
  ·simp only[vq,seval,df c1,df c2,df c3,dt c4,h1 (by simp[c4])]
  by_cases c5:x.v<0
  ·simp only[vq,seval,df c1,df c2,df c3,df c4,dt c5,h1 (by simp[c5])]
  simp only[vq,seval,df c1,df c2,df c3,df c4,df c5];refine du rfl ?_;simp only[vq,seval];have hs:=DG (w:=x.w) om om;by_cases c6:x.m=0
  ·have c6':¬x.m≠0:=fun h=>h c6;simp only[vq,seval,dt c6];refine⟨om,?_⟩;simp only[vq,seval,hs];by_cases c7:2^x.w.toNat<=x.v
   ·simp only[vq,seval,dt c7,h1 (by simp[c7])]
   ·simp only[vq,seval,df c7,df c6',h0 om]
  ·have c6':x.m≠0:=c6;simp only[vq,seval,df c6,dt c6'];by_cases c9:x.v≠0
   ·simp only[vq,seval,dt c9,h1 (by simp[c6,c9])]
   ·have hp:=(vX (w:=x.w.toNat) om).2;simp only[vq,seval,df c9,h0 om]
def fE{α:Type}(f:α->Int):List α->Int
 |[]=>0
 |x::l=>if f x=0 then fE f l else f x
theorem nv{α:Type}{f:α->Int}:∀{l:List α},fE f l=0->∀x∈l,f x=0
 |[],_,_,h=>by cases h
 |y::l,h,x,hx=>by
  rw[fE]at h;split at h
  ·rename_i h0;rcases aP.1 hx with rfl|hx
   ·exact h0
   ·exact nv h x hx
  ·rename_i h0;exact absurd h h0
def dk:List Vr->Int
 |[]=>0
 |x::l=>(if x.m=0 then 0 else x.w)+dk l
def qk(l:List Vr):Bool:=(List.range l.length).any fun i=>match l[i]? with|some x=>decide (kr l x.nm≠i)|none=>false
def ou(l:List Vr):Int:=if 16<l.length then 2 else if fE n7 l≠0 then fE n7 l else if qk l=true then 8 else if(l.any fun x=>gB l x.nm)=true then 10 else if 20<dk l then 2 else 0
theorem CK{α:Type}{p:α->Bool}:∀{l:List α} {i:Nat} {x:α} (k:Nat),l[i]? =some x->p x=true->(decide (nq p l k≠((k+i:Nat):Int))=(l.take i).any p)
 |[],i,x,k,h,_=>by simp at h
 |y::l,0,x,k,h,hp=>by simp at h;subst h;simp[nq,hp]
 |y::l,i+1,x,k,h,hp=>by
  simp at h;have ih:=CK (k+1) h hp;rw[List.take_succ_cons,List.any_cons,nq];cases hy:p y with
  |true=>rw[if_pos rfl];simp;omega
  |false=>rw[if_neg sm,Bool.false_or,<-ih];congr 2;rw[show k+1+i=k+(i+1) by omega]
theorem KX{l:List Vr}{i:Nat}{x:Vr}(h:l[i]? =some x):decide (0<=kr (l.take i) x.nm)=decide (kr l x.nm≠i):=by have h1:=CK (p:=fun y:Vr=>decide (y.nm=x.nm)) 0 h sm;rw[Nat.zero_add]at h1;rw[kr,qT,kr,h1]
theorem zP{l:List Vr}{i:Nat}{x:Vr}(h:l[i]? =some x):dk (l.take (i+1))=dk (l.take i)+(if x.m=0 then 0 else x.w):=by
 have app:∀a b,dk (a++b)=dk a+dk b:=fun a b=>by
  induction a with
  |nil=>simp[dk]
  |cons y a ih=>simp only[List.cons_append,dk,ih];omega
 rw[oJ h,app];simp[dk]
theorem DP{l:List Vr}{i:Nat}{x:Vr}(h:l[i]? =some x)(hd:decide (kr l x.nm≠i)=true):qk l=true:=by unfold qk;rw[List.any_eq_true];exact⟨i,List.mem_range.2 (ad.1 h).1,by rw[h];exact hd⟩
theorem EN{l:List Vr}(h:∀(i:Nat) x,l[i]? =some x->decide (kr l x.nm≠i)=false):qk l=false:=by unfold qk;rw[List.any_eq_false];intro i hi;have hi:=List.mem_range.1 hi;obtain⟨x,hx⟩:=bh hi;rw[hx];simp[h i x hx]
def Pw(l:List Vr):Prop:=l.length<=maxLen/\∀x∈l,x.nm.length+3<=maxLen
theorem MI{l:List Vr}(ok:Pw l)(h:fE n7 l=0):Fj l:=fun x hx=>⟨(n6 (nv h x hx)).1,ok.2 x hx⟩
theorem t30(l:List Vr)(ok:Pw l):CallP Tryz.prog 30 [.d (cz l)] (.d (.int .i64 (ou l))):=by
 have hm:=hm;have hl:=ok.1;refine cc30.go ac30 rfl ?_;simp only[vq,seval,ac30,cz];by_cases h16:(16:Int)<l.length
 ·have:ou l=2:=by unfold ou;rw[if_pos om]
  simp only[vq,seval,dt h16,this]
 simp only[vq,seval,df h16];have h16':l.length<=16:=om;have k7:ou l=if fE n7 l≠0 then fE n7 l else if qk l=true then 8 else if(l.any fun x=>gB l x.nm)=true then 10 else if 20<dk l then 2 else 0:=by unfold ou;rw[if_neg om]
 refine bb (fun i:Nat=>⟨cC 57 [(0,.d (cz l)),(3,.d (.int .i64 (dk (l.take i)))),(4,.d (.int .i64 i))],[]⟩) (fun i=>i<=l.length/\fE n7 l=fE n7 (l.drop i)/\0<=dk (l.take i)/\dk (l.take i)<=8*i) (fun i=>l.length-i) 0 (a9 (by simp only[vq,seval,cz];try trivial)) ⟨om,by rw[List.drop_zero],by simp[dk],by simp[dk]⟩ (fun i hi=>?_);obtain⟨h1,h2,h3,h4⟩:=hi;simp only[vq,seval,cz];refine aZ (fun hc=>?_) (fun hc=>?_)
 ·simp only[aj]at hc;obtain⟨x,hx⟩:=bh (l:=l) (i:=i) om;rw[bt hx,fE]at h2;simp only[vq,seval];refine⟨om,om,bg hx ?_⟩;simp only[vq,seval];simp only[vq,seval,Vr.d,List.map_cons,List.map_nil];refine aW rfl (t64 x (ok.2 x (af hx))) ?_;simp only[vq,seval];by_cases he:n7 x=0
  ·rw[if_pos he]at h2;obtain⟨_,w1,w2,_⟩:=n6 he;have hb:=zP hx;simp only[vq,seval,he];refine⟨om,om,bg hx ?_⟩;simp only[vq,seval];simp only[vq,seval,Vr.d];by_cases hmz:x.m=0
   ·rw[if_pos hmz]at hb;simp only[vq,seval,df (show¬x.m≠0 from fun h=>h hmz)];refine bL (i+1) om (a9 ?_) ⟨om,h2,om,om⟩;simp only[vq,seval,cz];rw[a8 om om,hb];simp
   ·rw[if_neg hmz]at hb;simp only[vq,seval,dt (show x.m≠0 from hmz)];refine⟨om,om,bg hx ?_⟩;simp only[vq,seval];simp only[vq,seval,Vr.d];refine bL (i+1) om (a9 ?_) ⟨om,h2,om,om⟩;simp only[vq,seval,cz];rw[a8 om om,hb,a8 om om];simp
  ·rw[if_neg he]at h2;have:ou l=n7 x:=by rw[k7,h2,if_pos he]
   simp only[vq,seval,dt (show n7 x≠0 from he),this]
 ·simp only[ak]at hc;obtain rfl:i=l.length:=om;rw[b4 (aq _),fE]at h2;rw[List.take_length];rw[h2,if_neg sm]at k7;simp only[vq,seval];refine bb (fun i:Nat=>⟨cC 57 [(0,.d (cz l)),(3,.d (.int .i64 (dk l))),(6,.d (.int .i64 i))],[]⟩) (fun i=>i<=l.length/\∀j x,j<i->l[j]? =some x->decide (kr l x.nm≠j)=false) (fun i=>l.length-i) 0 (a9 (by simp only[vq,seval,cz];try trivial)) ⟨om,fun j x hj=>om⟩ (fun i hi=>?_);obtain⟨h5,h6⟩:=hi;simp only[vq,seval,cz];refine aZ (fun hc=>?_) (fun hc=>?_)
  ·simp only[aj]at hc;obtain⟨x,hx⟩:=bh (l:=l) (i:=i) om;simp only[vq,seval];refine du rfl ?_;simp only[vq,seval]
   repeat(refine⟨om,?_⟩)
   refine sd hx ?_;simp only[vq,seval];simp only[vq,seval,Vr.d];have h65:=t65 (l.take i) x.nm so;unfold cz at h65;rw[List.map_take]at h65;refine aW rfl (h65) ?_;simp only[vq,seval];have hd:=KX hx;cases hdd:decide (kr l x.nm≠i)with
   |true=>
    rw[hdd]at hd;have:ou l=8:=by rw[k7,if_pos (DP hx hdd)]
    simp only[vq,seval,hd,this]
   |false=>
    rw[hdd]at hd;simp only[vq,seval,hd];refine bL (i+1) om (a9 ?_) ⟨om,fun j y hj hy=>?_⟩
    ·simp only[vq,seval,cz];rw[a8 om om];simp
    ·by_cases hji:j=i
     ·subst hji;rw[hx]at hy;injection hy with hy;subst hy;exact hdd
     ·exact h6 j y om hy
  ·simp only[ak]at hc;obtain rfl:i=l.length:=om;have AS:=EN (l:=l) fun j y hy=>h6 j y (ad.1 hy).1 hy;rw[AS,if_neg sm]at k7;have h66:=t66 l hl (MI ok h2);unfold cz at h66;simp only[vq,seval];refine aW rfl (h66) ?_;simp only[vq,seval];cases hg:l.any fun x=>gB l x.nm with
   |true=>rw[hg,if_pos rfl]at k7;simp only[vq,seval,k7]
   |false=>
    rw[hg,if_neg sm]at k7;simp only[vq,seval];by_cases h20:20<dk l
    ·rw[if_pos h20]at k7;simp only[vq,seval,dt h20,k7]
    ·rw[if_neg h20]at k7;simp only[vq,seval,df h20,k7]
theorem eN{b0:Nat}{fr fr':List V}{rows:Go.Vx.Rows}(m:Nat)(hm:b0<=m)(h:pX fr fr')(h2:fr'.all (hB m)=true)(hr:kg m (rows.take m)):fb b0 ⟨fr,rows⟩ ⟨fr',rows.take m⟩:=(a9 h).trans (kO m hm hr (mb h2))
theorem eE{m sz:Nat}{e:List D}:dz m (.live sz [e.map .d]):=fun x hx v hv=>by obtain rfl:=List.mem_singleton.1 hx;obtain⟨d,_,rfl⟩:=aw.1 hv;rfl
theorem t127(l:List Vr)(x:Vr)(hll:l.length<=maxLen)(hl:x.nm.length+3<=maxLen):CallP Tryz.prog 127 [.agg (x.d.map .d),.d (.ptr [cz l])] (.d (.bool (gB l x.nm))):=by refine cc127.go ac127 rfl ?_;simp only[vq,seval,ac127,Vr.d,List.map_cons,List.map_nil];refine aW rfl (t128 l x.nm hll hl) ?_;simp only[vq,seval]
theorem t71(l:List Vr)(ok:Pw l):CallP Tryz.prog 71 [.d (cz l)] (.d (.int .i64 (ou l))):=by
 have hm:=hm;have hl:=ok.1;refine cc71.go ac71 rfl ?_;simp only[vq,seval,ac71,cz];by_cases h16:(16:Int)<l.length
 ·have:ou l=2:=by unfold ou;rw[if_pos om]
  simp only[vq,seval,dt h16,this]
 simp only[vq,seval,df h16];have h16':l.length<=16:=om;have k7:ou l=if fE n7 l≠0 then fE n7 l else if qk l=true then 8 else if(l.any fun x=>gB l x.nm)=true then 10 else if 20<dk l then 2 else 0:=by unfold ou;rw[if_neg om]
 refine bb (fun i:Nat=>⟨cC 91 [(1,.aY 1 0 1 0 0),(11,.d (cz l)),(12,.d (.int .i64 l.length)),(13,.d (.int .i64 i))],[.live 1 [[.d (cz l)]]]⟩) (fun i=>i<=l.length/\fE n7 l=fE n7 (l.drop i)) (fun i=>l.length-i) 0 (a9 (by simp only[vq,seval,cz];try trivial)) ⟨om,by rw[List.drop_zero]⟩ (fun i hi=>?_);obtain⟨h1,h2⟩:=hi;simp only[vq,seval,cz];refine aZ (fun hc=>?_) (fun hc=>?_)
 ·simp only[aj]at hc;obtain⟨x,hx⟩:=bh (l:=l) (i:=i) om;have hmem:=af hx;rw[bt hx,fE]at h2;simp only[vq,seval];refine⟨om,om,bg hx ?_⟩;simp only[vq,seval];simp only[vq,seval,Vr.d,List.map_cons,List.map_nil];refine aW rfl (t124 x.nm (ok.2 x hmem)) ?_;simp only[vq,seval];have h0:ef x.nm=true->¬(x.w<1\/8<x.w\/x.m<0\/2<x.m\/x.v<0\/2^x.w.toNat<=x.v\/(x.m≠0/\x.v≠0))->n7 x=0:=fun hn h=>by unfold n7;rw[hn,if_neg sm,if_neg h]
  have h1':ef x.nm=true->(x.w<1\/8<x.w\/x.m<0\/2<x.m\/x.v<0\/2^x.w.toNat<=x.v\/(x.m≠0/\x.v≠0))->ou l=1:=fun hn h=>by
   have:n7 x=1:=by unfold n7;rw[hn,if_neg sm,if_pos h]
   rw[this,if_neg dc]at h2;rw[k7,h2,if_pos dc]
  cases hn:ef x.nm with
  |false=>
   have h3:n7 x=7:=by unfold n7;rw[hn];simp
   rw[h3,if_neg dc]at h2;have:ou l=7:=by rw[k7,h2,if_pos dc]
   simp only[vq,seval,Bool.not_false,this]
  |true=>
   have h0:=h0 hn;have h1':=h1' hn;simp only[vq,seval,Bool.not_true];refine du rfl ?_;simp only[vq,seval];by_cases c1:x.w<1
   ·simp only[vq,seval,dt c1,h1' (.inl c1)]
   by_cases c2:8<x.w
   ·simp only[vq,seval,df c1,dt c2,h1' (by simp[c2])]
   by_cases c3:x.m<0
   ·simp only[vq,seval,df c1,df c2,dt c3,h1' (by simp[c3])]
   by_cases c4:2<x.m
   ·simp only[vq,seval,df c1,df c2,df c3,dt c4,h1' (by simp[c4])]
   by_cases c5:x.v<0
   ·simp only[vq,seval,df c1,df c2,df c3,df c4,dt c5,h1' (by simp[c5])]
   simp only[vq,seval,df c1,df c2,df c3,df c4,df c5];have hs:=DG (w:=x.w) om om;refine⟨om,?_⟩;simp only[vq,seval,hs];by_cases c7:2^x.w.toNat<=x.v
   ·simp only[vq,seval,dt c7,h1' (by simp[c7])]
   by_cases c6:x.m=0
   ·have c6':¬x.m≠0:=fun h=>h c6;rw[if_pos (h0 om)]at h2;simp only[vq,seval,df c7,df c6'];refine bL (i+1) om (eN 1 om (by simp only[vq,seval,cz];rw[a8 om om];simp) rfl ⟨eE (e:=[cz l]),trivial⟩) ⟨om,h2⟩
   ·have c6':x.m≠0:=c6;by_cases c9:x.v≠0
    ·simp only[vq,seval,df c7,dt c6',dt c9,h1' (by simp[c6,c9])]
    ·rw[if_pos (h0 om)]at h2;simp only[vq,seval,df c7,dt c6',df c9];refine bL (i+1) om (eN 1 om (by simp only[vq,seval,cz];rw[a8 om om];simp) rfl ⟨eE (e:=[cz l]),trivial⟩) ⟨om,h2⟩
 ·simp only[ak]at hc;obtain rfl:i=l.length:=om;rw[b4 (aq _),fE]at h2;rw[h2,if_neg sm]at k7;have hall:=nv h2;simp only[vq,seval];refine bb (fun i:Nat=>⟨cC 91 [(1,.aY 1 0 1 0 0),(5,.d (.int .i64 (dk (l.take i)))),(63,.d (cz l)),(64,.d (.int .i64 l.length)),(65,.d (.int .i64 i))],[.live 1 [[.d (cz l)]]]⟩) (fun i=>i<=l.length/\(0<=dk (l.take i)/\dk (l.take i)<=8*i)/\∀(j:Nat) x,j<i->l[j]? =some x->decide (kr l x.nm≠j)=false) (fun i=>l.length-i) 0 (a9 (by simp only[vq,seval,cz];try trivial)) ⟨om,by simp[dk],fun j x hj=>om⟩ (fun i hi=>?_);obtain⟨h5,⟨h3,h4⟩,h6⟩:=hi;simp only[vq,seval,cz];refine aZ (fun hc=>?_) (fun hc=>?_)
  ·simp only[aj]at hc;obtain⟨x,hx⟩:=bh (l:=l) (i:=i) om;obtain⟨_,w1,w2,_⟩:=n6 (hall x (af hx));have hb:=zP hx;have h125:=t125 l x.nm hl;unfold cz at h125;simp only[vq,seval];refine⟨om,om,bg hx ?_⟩;simp only[vq,seval];simp only[vq,seval,Vr.d,List.map_cons,List.map_nil];refine aW rfl (h125) ?_;simp only[vq,seval];have inv:decide (kr l x.nm≠i)=false->∀(j:Nat) y,j<i+1->l[j]? =some y->decide (kr l y.nm≠j)=false:=fun hd j y hj hy=>by
    by_cases hji:j=i
    ·subst hji;rw[hx]at hy;injection hy with hy;subst hy;exact hd
    ·exact h6 j y om hy
   by_cases hdd:kr l x.nm≠i
   ·have:ou l=8:=by rw[k7,if_pos (DP hx (dt hdd))]
    simp only[vq,seval,dt hdd,this]
   ·simp only[vq,seval,df hdd];by_cases hmz:x.m=0
    ·rw[if_pos hmz]at hb;simp only[vq,seval,df (show¬x.m≠0 from fun h=>h hmz)];refine bL (i+1) om (eN 1 om (by simp only[vq,seval,cz];rw[a8 om om,hb];simp) rfl ⟨eE (e:=[cz l]),trivial⟩) ⟨om,om,inv (df hdd)⟩
    ·rw[if_neg hmz]at hb;simp only[vq,seval,dt (show x.m≠0 from hmz)];refine bL (i+1) om (eN 1 om (by simp only[vq,seval,cz];rw[a8 om om,hb,a8 om om];simp) rfl ⟨eE (e:=[cz l]),trivial⟩) ⟨om,om,inv (df hdd)⟩
  ·simp only[ak]at hc;obtain rfl:i=l.length:=om;rw[List.take_length]at h3 h4|-;have AS:=EN (l:=l) fun j y hy=>h6 j y (ad.1 hy).1 hy;rw[AS,if_neg sm]at k7;simp only[vq,seval];have hcon:=xl cc126 cc178 Vr.d l (fun x=>gB l x.nm) [] [.d (.ptr [cz l])] hl (fun _ _=>rfl) (fun _=>rfl) rfl (fun x hx=>t127 l x hl (ok.2 x hx));refine fw (v:=.d (.bool (l.any fun x=>gB l x.nm))) (by simp[dN,eu,Go.Vx.rowAt,wD,kv,gn]) rfl (by simpa[dJ,eR,sP,cz]using hcon) ?_;simp only[vq,seval];cases hg:l.any fun x=>gB l x.nm with
   |true=>rw[hg,if_pos rfl]at k7;simp only[vq,seval,k7]
   |false=>
    rw[hg,if_neg sm]at k7;simp only[vq,seval];by_cases h20:20<dk l
    ·rw[if_pos h20]at k7;simp only[vq,seval,dt h20,k7]
    ·rw[if_neg h20]at k7;simp only[vq,seval,df h20,k7]
end Go.Proofs.Tp
