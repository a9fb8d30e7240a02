/- Proved: contracts of functions that the laws of Top reach, and plain facts for them. Conditions: those that each lemma states. -/
import Derived.Test.YtmhkppbollghoaaGreatDoorCb
set_option linter.unusedSectionVars false
set_option linter.unusedSimpArgs false
set_option linter.unusedVariables false
namespace Go.Proofs.Tp
open Go.Vx
theorem bS:(∀b:Bool,(true&&b)=b)/\(∀b:Bool,(false&&b)=false)/\(∀b:Bool,(b&&true)=b)/\(∀b:Bool,(b&&false)=false)/\(∀b:Bool,(true||b)=true)/\(∀b:Bool,(false||b)=b)/\(∀b:Bool,(b||true)=true)/\(∀b:Bool,(b||false)=b)/\(!true)=false/\(!false)=true/\(∀b:Bool,(!!b)=b)/\((false=true)=False)/\(∀a b:Int,(if True then a else b)=a)/\(∀a b:Int,(if False then a else b)=b)/\((true=true)=True):=by simp
section
variable[bf]
def M8:=PLift.up (ai @vx (ai @vz @vp))
theorem vq:type_of%M8.down:=M8.down
theorem ck{X:Prop}(h:X:=by simp[eM,yW,bn.ng,ep.dY,iE.dY,iE.bare,iE.makes,fe,fi,bw.ev,nth]):X:=h
theorem vt{X:Prop}(h:X:=by simp only[vq,seval];try trivial):X:=h
theorem ha{X:Prop}(h:X:=by simp[fi,fe]):X:=h
theorem nh{X:Prop}(h:X:=by simp[kv,lY,gn]):X:=h
theorem gW{X:Prop}(h:X:=by simp[hZ,yf,AM]):X:=h
theorem zh{X:Prop}(h:X:=by simp[cJ,iB,cY]):X:=h
theorem fq{X:Prop}(h:X:=by first|(simp only[vq,seval];exact rfl)|exact AN rfl (fun S'=>by first|rfl|(simp only[vq,seval];rfl))):X:=h
end
def oz(c:Int):Bool:=decide (97<=c)&&decide (c<=122)
def sL(c:Int):Bool:=decide (48<=c)&&decide (c<=57)
def Ps(c:Int):Bool:=decide (65<=c)&&decide (c<=90)
def oq(c:Int):Bool:=oz c||(sL c||(Ps c||decide (c=95)))
theorem t241(c:Int):CallP Tryz.prog 241 [.d (.int .i32 c)] (.d (.bool (oz c))):=by
 refine cc241.go ac241 rfl ?_;by_cases h:97<=c
 ·simp only[vq,seval,ac241,dt h,oz]
 ·simp only[vq,seval,ac241,df h,oz,Bool.false_and]
theorem t261(c:Int):CallP Tryz.prog 261 [.d (.int .i32 c)] (.d (.bool (sL c))):=by
 refine cc261.go ac261 rfl ?_;by_cases h:48<=c
 ·simp only[vq,seval,ac261,dt h,sL]
 ·simp only[vq,seval,ac261,df h,sL,Bool.false_and]
theorem t209(c:Int):CallP Tryz.prog 209 [.d (.int .u8 c)] (.d (.bool (oz c))):=by
 refine cc209.go ac209 rfl ?_;by_cases h:97<=c
 ·simp only[vq,seval,ac209,dt h,oz]
 ·simp only[vq,seval,ac209,df h,oz,Bool.false_and]
theorem t237(c:Int):CallP Tryz.prog 237 [.d (.int .u8 c)] (.d (.bool (sL c))):=by
 refine cc237.go ac237 rfl ?_;by_cases h:48<=c
 ·simp only[vq,seval,ac237,dt h,sL]
 ·simp only[vq,seval,ac237,df h,sL,Bool.false_and]
theorem t242(c:Int):CallP Tryz.prog 242 [.d (.int .i32 c)] (.d (.bool (oq c))):=by
 refine cc242.go ac242 rfl ?_;simp only[vq,seval,ac242];refine aW rfl (t241 c) ?_;simp only[vq,seval];unfold oq;cases hl:oz c with
 |true=>simp only[vq,seval,Bool.true_or]
 |false=>
  simp only[vq,seval,Bool.false_or];refine aW rfl (t261 c) ?_;simp only[vq,seval];cases hd:sL c with
  |true=>simp only[vq,seval,Bool.true_or]
  |false=>
   unfold Ps;by_cases h:65<=c
   ·by_cases h2:c<=90
    ·simp only[vq,seval,dt h,dt h2,Bool.false_or,Bool.true_or]
    ·simp only[vq,seval,dt h,df h2,Bool.false_or,Bool.false_and]
   ·simp only[vq,seval,df h,Bool.false_or,Bool.false_and]
theorem t211(c:Int):CallP Tryz.prog 211 [.d (.int .u8 c)] (.d (.bool (oq c))):=by
 refine cc211.go ac211 rfl ?_;simp only[vq,seval,ac211];refine aW rfl (t209 c) ?_;simp only[vq,seval];unfold oq;cases hl:oz c with
 |true=>simp only[vq,seval,Bool.true_or]
 |false=>
  simp only[vq,seval,Bool.false_or];refine aW rfl (t237 c) ?_;simp only[vq,seval];cases hd:sL c with
  |true=>simp only[vq,seval,Bool.true_or]
  |false=>
   unfold Ps;by_cases h:65<=c
   ·by_cases h2:c<=90
    ·simp only[vq,seval,dt h,dt h2,Bool.false_or,Bool.true_or]
    ·simp only[vq,seval,dt h,df h2,Bool.false_or,Bool.false_and]
   ·simp only[vq,seval,df h,Bool.false_or,Bool.false_and]
def yA(b:UInt8):Bool:=oz b.toNat
def qp(b:UInt8):Bool:=oq b.toNat
def pq(s:B):Bool:=decide (s≠[])&&((s.take 1).all yA&&s.all qp)
theorem Aa{c:Int}(h:128<=c):oq c=false:=by simp only[oq,oz,sL,Ps,Bool.or_eq_false_iff,Bool.and_eq_false_iff,ak];omega
theorem Mw{b:UInt8}(h:128<=b.toNat):qp b=false:=Aa om
theorem Cl{s:B}{i:Nat}{b:UInt8}{p:UInt8->Bool}(h:s[i]? =some b)(hp:p b=false):s.all p=false:=by rw[List.all_eq_false];exact⟨b,af h,by simp[hp]⟩
theorem Ac{s:B}{i:Nat}{b:UInt8}(h:s[i]? =some b)(hb:b.toNat<128):dD s i=(b.toNat,1):=by
 obtain⟨h1,h2⟩:=ad.1 h;have hs:i<(⟨s.toArray⟩:ByteArray).size:=by show i<s.toArray.size;simpa using h1
 have he:(⟨s.toArray⟩:ByteArray)[i]'hs=b:=by show s.toArray[i]'(by simpa using h1)=b;simpa using h2
 have:=decode_ascii ⟨s.toArray⟩ i hs (by rw[he];exact hb);rw[he]at this;exact this
theorem Ir{s:B}{i:Nat}{b:UInt8}(h:s[i]? =some b)(hb:¬b.toNat<128):128<=(dD s i).1:=by
 obtain⟨h1,h2⟩:=ad.1 h;have hs:i<(⟨s.toArray⟩:ByteArray).size:=by show i<s.toArray.size;simpa using h1
 have he:(⟨s.toArray⟩:ByteArray)[i]'hs=b:=by show s.toArray[i]'(by simpa using h1)=b;simpa using h2
 exact(decode_high ⟨s.toArray⟩ i hs (by rw[he];omega)).1
theorem t215(s:B)(hl:s.length<=maxLen):CallP Tryz.prog 215 [.d (.str s)] (.d (.bool (pq s))):=by
 have hm:=hm;refine cc215.go ac215 rfl ?_;simp only[vq,seval,ac215];refine bb (fun i:Nat=>⟨cC 25 [(0,.d (.str s)),(6,.aY 0 0 0 0 0)],[.obj (.it s i)]⟩) (fun i=>i<=s.length/\(s.take i).all qp=true/\(0<i->(s.take 1).all yA=true)) (fun i=>s.length-i) 0 (a9 vt) sm (fun i hi=>?_);obtain⟨h1,h2,h3⟩:=hi;simp only[vq,seval];refine Bg (fun hc=>?_) (fun hc=>?_)
 ·simp only[aj]at hc;obtain⟨b,hb⟩:=bh (l:=s) (i:=i) hc;have hbad:oq ((dD s i).1:Int)=false->pq s=false:=fun h=>by
   by_cases hb2:b.toNat<128
   ·rw[Ac hb hb2]at h;rw[pq,Cl hb (p:=qp) h];simp
   ·rw[pq,Cl hb (p:=qp) (Mw om)];simp
  have hok:oq ((dD s i).1:Int)=true->dD s i=(b.toNat,1):=fun h=>by
   by_cases hb2:b.toNat<128
   ·exact Ac hb hb2
   ·have:=Aa (c:=((dD s i).1:Int)) (by have:=Ir hb hb2;omega);rw[h]at this;cases this
  have fin:oq ((dD s i).1:Int)=true->(i=0->oz ((dD s i).1:Int)=true)->(s.take (i+1)).all qp=true/\(s.take 1).all yA=true:=fun h h4=>by
   have hr:=hok h;rw[hr]at h h4;refine⟨by rw[oJ hb,List.all_append,h2];simp[qp];exact h,?_⟩;by_cases hz:i=0
   ·subst hz;rw[show 1=0+1 by rfl,oJ hb];simp[yA];exact h4 rfl
   ·exact h3 om
  simp only[vq,seval];by_cases hz:(i:Int)=0
  ·simp only[vq,seval,dt hz];refine aW rfl (t241 _) ?_;simp only[vq,seval];cases hlo:oz ((dD s i).1:Int)with
   |false=>
    simp only[vq,seval];have:pq s=false:=by
     by_cases hf:oq ((dD s i).1:Int)=true
     ·have hr:=hok hf;rw[hr]at hlo;have hi0:i=0:=om;subst hi0;rw[pq,show s.take 1=[b] by rw[show 1=0+1 by rfl,oJ hb];simp];simp[yA,hlo]
     ·exact hbad (by simpa using hf)
    rw[this]
   |true=>
    simp only[vq,seval];refine aW rfl (t242 _) ?_;simp only[vq,seval];cases hfo:oq ((dD s i).1:Int)with
    |false=>simp only[vq,seval];rw[hbad hfo]
    |true=>simp only[vq,seval];have hr:=hok hfo;obtain⟨f1,f2⟩:=fin hfo (fun _=>hlo);simp only[hr];refine bL (i+1) om (a9 ?_) ⟨om,f1,fun _=>f2⟩;simp only[vq,seval]
  ·simp only[vq,seval,df hz];refine aW rfl (t242 _) ?_;simp only[vq,seval];cases hfo:oq ((dD s i).1:Int)with
   |false=>simp only[vq,seval];rw[hbad hfo]
   |true=>simp only[vq,seval];have hr:=hok hfo;obtain⟨f1,f2⟩:=fin hfo (fun h=>om);simp only[hr];refine bL (i+1) om (a9 ?_) ⟨om,f1,fun _=>f2⟩;simp only[vq,seval]
 ·simp only[ak]at hc;simp only[vq,seval];rw[Dm om]at h2;rw[pq,h2];by_cases hs:s=[]
  ·subst hs;rfl
  ·rw[h3 (by have:=List.length_pos_iff.2 hs;omega)];simp
def Jy:List B->B->Nat->Int
 |[],_,_=> -1
 |x::l,s,k=>if s=x then(k:Int)else Jy l s (k+1)
theorem JV(l:List B)(s:B)(k:Nat):decide (0<=Jy l s k)=l.contains s:=by
 induction l generalizing k with
 |nil=>rfl
 |cons x l ih=>
  rw[Jy,List.contains_cons];by_cases h:s=x
  ·rw[if_pos h];subst h;simp
  ·rw[if_neg h,ih];simp[h]
theorem t246(l:List B)(s:B)(hl:l.length<=maxLen):CallP Tryz.prog 246 [.d (.sl 1 (l.map sD)),.d (.str s)] (.d (.int .i64 (Jy l s 0))):=by
 have hm:=hm;refine cc246.go ac246 rfl ?_;simp only[vq,seval,ac246];refine bb (fun i:Nat=>⟨cC 19 [(0,.d (.sl 1 (l.map sD))),(1,.d (.str s)),(7,.d (.int .i64 l.length)),(8,.d (.int .i64 i))],[]⟩) (fun i=>i<=l.length/\Jy l s 0=Jy (l.drop i) s i) (fun i=>l.length-i) 0 (a9 vt) sm (fun i hi=>?_);obtain⟨h1,h2⟩:=hi;simp only[vq,seval];refine aZ (fun hc=>?_) (fun hc=>?_)
 ·simp only[aj]at hc;obtain⟨x,hx⟩:=bh (l:=l) (i:=i) om;rw[bt hx,Jy]at h2;simp only[vq,seval];refine⟨om,om,bg hx ?_⟩;simp only[vq,seval];simp only[vq,seval,sD];by_cases he:s=x
  ·rw[if_pos he]at h2;simp only[vq,seval,dt he,h2]
  ·rw[if_neg he]at h2;simp only[vq,seval,df he];refine bL (i+1) om (a9 ?_) ⟨om,h2⟩;simp only[vq,seval];rw[a8 om om];trivial
 ·simp only[ak]at hc;rw[b4 om,Jy]at h2;simp only[vq,seval,h2]
theorem t221(l:List B)(s:B)(hl:l.length<=maxLen):CallP Tryz.prog 221 [.d (.sl 1 (l.map sD)),.d (.str s)] (.d (.bool (l.contains s))):=by refine cc221.go ac221 rfl ?_;simp only[vq,seval,ac221];refine aW rfl (t246 l s hl) ?_;simp only[vq,seval];rw[JV]
theorem t235(l:List B)(s:B)(hl:l.length<=maxLen):CallP Tryz.prog 235 [.d (.sl 1 (l.map sD)),.d (.str s)] (.d (.bool (l.contains s))):=by
 have hm:=hm;refine cc235.go ac235 rfl ?_;simp only[vq,seval,ac235];refine bb (fun i:Nat=>⟨cC 18 [(0,.d (.sl 1 (l.map sD))),(1,.d (.str s)),(5,.d (.int .i64 i))],[]⟩) (fun i=>i<=l.length/\l.contains s=(l.drop i).contains s) (fun i=>l.length-i) 0 (a9 vt) sm (fun i hi=>?_);obtain⟨h1,h2⟩:=hi;simp only[vq,seval];refine aZ (fun hc=>?_) (fun hc=>?_)
 ·simp only[aj]at hc;obtain⟨x,hx⟩:=bh (l:=l) (i:=i) om;rw[bt hx,List.contains_cons]at h2;simp only[vq,seval];refine⟨om,om,bg hx ?_⟩;simp only[vq,seval];simp only[vq,seval,sD];by_cases he:x=s
  ·subst he;rw[h2];simp only[vq,seval,beq_self_eq_true,Bool.true_or]
  ·rw[show(s==x)=false by simp[Ne.symm he],Bool.false_or]at h2;simp only[vq,seval,df he];refine bL (i+1) om (a9 ?_) ⟨om,h2⟩;simp only[vq,seval];rw[a8 om om];trivial
 ·simp only[ak]at hc;rw[b4 om]at h2;simp only[vq,seval,h2]
theorem Da:xy.length<=maxLen:=by decide
theorem t216(s:B):CallP Tryz.prog 216 [.d (.str s)] (.d (.bool (xy.contains s))):=by refine cc216.go ac216 rfl ?_;simp only[vq,seval,ac216];refine aW rfl (t221 xy s Da) ?_;simp only[vq,seval]
theorem t236:CallP Tryz.prog 236 [] (.d M0):=by refine cc236.go ac236 rfl ?_;simp only[vq,seval,ac236];exact da (es:=xy.map fun s=>[.str s]) rfl rfl dc dc rfl
theorem t210(s:B):CallP Tryz.prog 210 [.d (.str s)] (.d (.bool (xy.contains s))):=by refine cc210.go ac210 rfl ?_;simp only[vq,seval,ac210];refine aW rfl (t236) ?_;simp only[vq,seval];refine aW rfl (t235 xy s Da) ?_;simp only[vq,seval]
def k6(s:B):Bool:=pq s&&(decide (s.length<=16)&& !xy.contains s)
theorem t175(s:B)(hl:s.length<=maxLen):CallP Tryz.prog 175 [.d (.str s)] (.d (.bool (k6 s))):=by
 refine cc175.go ac175 rfl ?_;simp only[vq,seval,ac175];refine aW rfl (t215 s hl) ?_;simp only[vq,seval];unfold k6;cases hw:pq s with
 |false=>simp only[vq,seval,Bool.false_and]
 |true=>
  simp only[vq,seval];by_cases h:(s.length:Int)<=16
  ·simp only[vq,seval,dt h,dt (show s.length<=16 by omega)];refine aW rfl (t216 s) ?_;simp only[vq,seval]
  ·simp only[vq,seval,df h,df (show¬s.length<=16 by omega),Bool.false_and]
theorem t172(s:B)(hl:s.length<=maxLen):CallP Tryz.prog 172 [.d (.str s)] (.d (.bool (k6 s))):=by
 have hm:=hm;refine cc172.go ac172 rfl ?_;simp only[vq,seval,ac172];by_cases h0:s=[]
 ·subst h0;simp only[vq,seval];rfl
 ·simp only[vq,seval,df h0];unfold k6;by_cases h:16<(s.length:Int)
  ·simp only[vq,seval,dt h,df (show¬s.length<=16 by omega),Bool.false_and,Bool.and_false]
  ·simp only[vq,seval,df h,dt (show s.length<=16 by omega)];have hpos:=List.length_pos_iff.2 h0;obtain⟨b,hb⟩:=bh (l:=s) (i:=0) hpos;have ht:s.take 1=[b]:=by rw[show 1=0+1 by rfl,oJ hb];simp
   refine⟨om,b8 hb ?_⟩;simp only[vq,seval];refine aW rfl (t209 _) ?_;simp only[vq,seval];cases hlo:oz (b.toNat:Int)with
   |false=>simp only[vq,seval];rw[pq,ht];simp[yA,hlo]
   |true=>
    simp only[vq,seval];refine aW rfl (t210 s) ?_;simp only[vq,seval];cases hk:xy.contains s with
    |true=>simp only[vq,seval,Bool.and_false]
    |false=>
     simp only[vq,seval];have hw:pq s=s.all qp:=by rw[pq,ht];simp[yA,hlo,h0]
     rw[hw];refine bb (fun i:Nat=>⟨cC 32 [(0,.d (.str s)),(3,.d (.int .i64 i))],[]⟩) (fun i=>i<=s.length/\s.all qp=(s.drop i).all qp) (fun i=>s.length-i) 0 (a9 vt) sm (fun i hi=>?_);obtain⟨h1,h2⟩:=hi;simp only[vq,seval];refine aZ (fun hc=>?_) (fun hc=>?_)
     ·simp only[aj]at hc;obtain⟨x,hx⟩:=bh (l:=s) (i:=i) om;rw[bt hx,List.all_cons]at h2;simp only[vq,seval];refine⟨om,om,b8 hx ?_⟩;simp only[vq,seval];refine aW rfl (t211 _) ?_;simp only[vq,seval];unfold qp at h2;cases hf:oq (x.toNat:Int)with
      |false=>rw[hf,Bool.false_and]at h2;simp only[vq,seval];exact h2.symm
      |true=>rw[hf,Bool.true_and]at h2;simp only[vq,seval];refine bL (i+1) om (a9 ?_) ⟨om,h2⟩;simp only[vq,seval];rw[a8 om om];trivial
     ·simp only[ak]at hc;rw[b4 om]at h2;simp only[vq,seval,h2]
def dH(c:UInt8):B->B×B×Bool
 |[]=>([],[],false)
 |b::l=>if b=c then([],l,true)else(b::(dH c l).1,(dH c l).2)
theorem zj(c:UInt8)(s:B):(Lib.indexByte s c= -1/\dH c s=(s,[],false))\/∃i:Nat,i<s.length/\Lib.indexByte s c=i/\dH c s=(s.take i,s.drop (i+1),true):=by
 induction s with
 |nil=>exact .inl ⟨rfl,rfl⟩
 |cons b l ih=>
  by_cases h:b=c
  ·refine .inr ⟨0,sm,?_,?_⟩
   ·simp[Lib.indexByte,h]
   ·simp[dH,h]
  ·rcases ih with⟨h1,h2⟩|⟨i,h1,h2,h3⟩
   ·refine .inl ⟨?_,?_⟩
    ·simp[Lib.indexByte,h,h1]
    ·simp[dH,h,h2]
   ·refine .inr ⟨i+1,by simp;omega,?_,?_⟩
    ·have:(i:Int)≠ -1:=om;simp[Lib.indexByte,h,h2,this]
    ·simp[dH,h,h3]
theorem t262(s:B)(c:UInt8):CallP Tryz.prog 262 [.d (.str s),.d (.int .u8 c.toNat)] (.d (.int .i64 (Lib.indexByte s c))):=by refine cc262.go ac262 rfl ?_;simp only[vq,seval,ac262];rw[show(c.toNat.toUInt8)=c by simp]
theorem t243(s:B)(c:UInt8):CallP Tryz.prog 243 [.d (.str s),.d (.str [c])] (.d (.int .i64 (Lib.indexByte s c))):=by
 refine cc243.go ac243 rfl ?_;simp only[vq,seval,ac243];by_cases h:[c]=s
 ·subst h;simp only[vq,seval,dt rfl];simp[Lib.indexByte]
 ·simp only[vq,seval,df h];refine aW rfl (t262 s c) ?_;simp only[vq,seval]
theorem t217(s:B)(c:UInt8)(hl:s.length<=maxLen):CallP Tryz.prog 217 [.d (.str s),.d (.str [c])] (.cm [.d (.str (dH c s).1),.d (.str (dH c s).2.1),.d (.bool (dH c s).2.2)]):=by
 have hm:=hm;refine cc217.go ac217 rfl ?_;simp only[vq,seval,ac217];refine aW rfl (t243 s c) ?_;simp only[vq,seval];rcases zj c s with⟨h1,h2⟩|⟨i,h1,h2,h3⟩
 ·rw[h1,h2];simp only[vq,seval]
 ·rw[h2,h3];simp only[vq,seval,dt (show 0<=(i:Int) by omega)];refine du rfl ?_;simp only[vq,seval];rw[a8 om om];refine⟨om,om,om,om,om,?_⟩;rw[show((i:Int)+1).toNat=i+1 by omega,al (aq _)]
theorem t176(s:B)(c:UInt8)(hl:s.length<=maxLen):CallP Tryz.prog 176 [.d (.str s),.d (.str [c])] (.cm [.d (.str (dH c s).1),.d (.str (dH c s).2.1),.d (.bool (dH c s).2.2)]):=by refine cc176.go ac176 rfl ?_;simp only[vq,seval,ac176];refine aW rfl (t217 s c hl) ?_;simp only[vq,seval]
def zA:List B->B->Nat->Int
 |[],_,_=> -1
 |x::l,s,i=>if x=s then i else zA l s (i+1)
def iI:B->Bool
 |[a,b]=>decide (48<=a.toNat)&&(decide (a.toNat<56)&&decide (b=93))
 |_=>false
def ef(s:B):Bool:=if(dH 91 s).2.2=true then k6 (dH 91 s).1&&iI (dH 91 s).2.1 else k6 s
theorem uX(c:UInt8)(s:B):(dH c s).1.length<=s.length/\(dH c s).2.1.length<=s.length:=by
 rcases zj c s with⟨_,h2⟩|⟨i,_,_,h3⟩
 ·rw[h2];simp
 ·rw[h3];simp;omega
theorem xB{c:UInt8}{s k r:B}(h:dH c s=(k,r,true)):s=k++c::r:=by
 induction s generalizing k with
 |nil=>simp[dH]at h
 |cons b l ih=>
  rw[dH]at h;split at h
  ·next hb=>injection h with h1 h2;injection h2 with h2 h3;subst hb h1 h2;rfl
  ·injection h with h1 h2
   have:=ih (k:=(dH c l).1) (by rw[<-h2]);rw[<-h1,List.cons_append,<-this]
theorem Jk{c:UInt8}{s k r:B}(h:dH c s=(k,r,false)):k=s/\r=[]:=by
 rcases zj c s with⟨_,h2⟩|⟨i,_,_,h3⟩
 ·rw[h2]at h;injection h with h1 h2;injection h2 with h2 h3;exact⟨h1.symm,h2.symm⟩
 ·rw[h3]at h;injection h with h1 h2;injection h2 with h2 h3;cases h3
theorem y8{c:UInt8}{s:B}(h:c∉s)(r:B):dH c (s++c::r)=(s,r,true):=by
 induction s with
 |nil=>simp[dH]
 |cons b l ih=>rw[List.cons_append,dH,if_neg (fun e=>h (by simp[e])),ih (fun hx=>h (by simp[hx]))]
theorem rm{c:UInt8}{s:B}(h:c∉s):dH c s=(s,[],false):=by
 induction s with
 |nil=>rfl
 |cons b l ih=>rw[dH,if_neg (fun e=>h (by simp[e])),ih (fun hx=>h (by simp[hx]))]
theorem LI:qp 91=false:=by decide
theorem oL{s:B}(h:k6 s=true):(91:UInt8)∉s:=fun hm=>by simp only[k6,pq,av]at h;have:=aG.1 h.1.2.2 91 hm;rw[LI]at this;cases this
def sJ(s:B):Bool:=decide (4<=s.length)&&(decide (s[s.length-1]? =some 93)&&(decide (s[s.length-3]? =some 91)&&((match s[s.length-2]? with|some d=>decide (48<=d.toNat)&&decide (d.toNat<56)|none=>false)&&k6 (s.take (s.length-3)))))
theorem N9{s:B}(h:3<=s.length){a b c:UInt8}(h1:s[s.length-3]? =some a)(h2:s[s.length-2]? =some b)(h3:s[s.length-1]? =some c):s=s.take (s.length-3)++[a,b,c]:=by
 conv=>lhs;rw[<-List.take_append_drop (s.length-3) s]
 congr 1;rw[bt h1,bt (by rw[show s.length-3+1=s.length-2 by omega];exact h2),bt (by rw[show s.length-3+1+1=s.length-1 by omega];exact h3),b4 om]
theorem HA(s:B):(sJ s||k6 s)=ef s:=by
 unfold ef;obtain⟨c,hc⟩:∃c,dH 91 s=c:=⟨_,rfl⟩;obtain⟨k,r,m⟩:=c;rw[hc];simp only;have hsplit:sJ s=true->∃k d,s=k++[91,d,93]/\k6 k=true/\48<=d.toNat/\d.toNat<56:=fun h=>by simp only[sJ,av,aj]at h;obtain⟨h1,h2,h3,h4,h5⟩:=h;obtain⟨d,hd⟩:=bh (l:=s) (i:=s.length-2) om;rw[hd]at h4;simp only[av,aj]at h4;exact⟨_,d,N9 om h3 hd h2,h5,h4.1,h4.2⟩
 cases m with
 |false=>
  obtain⟨rfl,rfl⟩:=Jk hc;rw[if_neg dc];cases hs:sJ k with
  |false=>rw[Bool.false_or]
  |true=>obtain⟨k',d,e,hk,_,_⟩:=hsplit hs;rw[e,y8 (oL hk)]at hc;injection hc with _ hc;injection hc with _ hc;cases hc
 |true=>
  have hs:=xB hc;rw[if_pos rfl];have hnm:k6 s=false:=by
   cases hn:k6 s with
   |false=>rfl
   |true=>exact absurd (by rw[hs];simp) (oL hn)
  rw[hnm,Bool.or_false];cases hs3:sJ s with
  |true=>
   obtain⟨k',d,e,hk,h1,h2⟩:=hsplit hs3;rw[e,y8 (oL hk)]at hc;injection hc with e1 hc;injection hc with e2 hc
   rw[<-e1,hk,<-e2,iI,dt h1,dt h2];rfl
  |false=>
   cases hk:k6 k with
   |false=>rfl
   |true=>
    cases hi:iI r with
    |false=>rfl
    |true=>
     exfalso
     match r,hi with
     |[a,b],hi=>
      simp only[iI,av,aj]at hi;obtain⟨h1,h2,rfl⟩:=hi;have hpos:0<k.length:=by
       cases k with
       |nil=>exact absurd hk dc
       |cons=>simp
      have hl:s.length=k.length+3:=by rw[hs];simp
      have g1:s[s.length-1]? =some 93:=by rw[hl,hs,aJ om,show k.length+3-1-k.length=2 by omega];rfl
      have g2:s[s.length-2]? =some a:=by rw[hl,hs,aJ om,show k.length+3-2-k.length=1 by omega];rfl
      have g3:s[s.length-3]? =some 91:=by rw[hl,hs,aJ om,show k.length+3-3-k.length=0 by omega];rfl
      have g4:s.take (s.length-3)=k:=by rw[hl,hs,show k.length+3-3=k.length by omega];simp
      have:sJ s=true:=by rw[sJ,g1,g2,g3,g4,hk,dt (show 4<=s.length by omega)];simp[h1,h2]
      rw[this]at hs3;cases hs3
theorem t260(s:B)(hl:s.length<=maxLen):CallP Tryz.prog 260 [.d (.str s)] (.cm [.any,.any,.d (.bool (sJ s))]):=by
 have hm:=hm;refine cc260.go ac260 rfl ?_;unfold sJ;by_cases h4:(s.length:Int)<4
 ·rw[df (show¬4<=s.length by omega)];simp only[vq,seval,ac260,dt h4,Bool.false_and]
 ·rw[dt (show 4<=s.length by omega)];obtain⟨a,ha⟩:=bh (l:=s) (i:=s.length-1) om;obtain⟨b,hb⟩:=bh (l:=s) (i:=s.length-2) om;obtain⟨c,hc⟩:=bh (l:=s) (i:=s.length-3) om;rw[ha,hb,hc];have w1:IntKind.i64.wrap ((s.length:Int)-1)=((s.length-1:Nat):Int):=by rw[a8 om om];omega
  have w2:IntKind.i64.wrap ((s.length:Int)-2)=((s.length-2:Nat):Int):=by rw[a8 om om];omega
  have w3:IntKind.i64.wrap ((s.length:Int)-3)=((s.length-3:Nat):Int):=by rw[a8 om om];omega
  have eb:∀(x y:UInt8) (n:Int),(y.toNat:Int)=n->decide ((x.toNat:Int)=n)=decide (some x=some y):=fun x y n hn=>decide_eq_decide.2 ⟨fun h=>by rw[show x=y from UInt8.toNat.inj om],fun h=>by injection h with h;rw[h];exact hn⟩;have en:∀(x y:UInt8) (n:Int),(y.toNat:Int)=n->decide ((x.toNat:Int)≠n)= !decide (some x=some y):=fun x y n hn=>by rw[<-eb x y n hn];exact ah
  simp only[vq,seval,ac260,df h4,w1];refine⟨om,om,b8 ha ?_⟩;simp only[vq,seval,en a 93 93 rfl];by_cases h1:some a=some (93:UInt8)
  ·simp only[vq,seval,dt h1,w3];refine⟨om,om,b8 hc ?_⟩;simp only[vq,seval,en c 91 91 rfl];by_cases h3:some c=some (91:UInt8)
   ·simp only[vq,seval,dt h3,w2,w3];refine⟨om,om,b8 hb ?_⟩;have wb:IntKind.i64.wrap (b.toNat:Int)=(b.toNat:Int):=a8 om (by have:=b.toNat_lt;omega);have wb2:IntKind.i64.wrap ((b.toNat:Int)-48)=(b.toNat:Int)-48:=a8 om (by have:=b.toNat_lt;omega);simp only[vq,seval,wb,wb2,w3];refine⟨om,om,?_⟩;by_cases h5:(b.toNat:Int)-48<0
    ·rw[df (show¬48<=b.toNat by omega)];simp only[vq,seval,dt h5,Bool.false_and]
    ·rw[dt (show 48<=b.toNat by omega)];by_cases h6:8<=(b.toNat:Int)-48
     ·rw[df (show¬b.toNat<56 by omega)];simp only[vq,seval,df h5,dt h6,Bool.false_and]
     ·rw[dt (show b.toNat<56 by omega)];simp only[vq,seval,df h5,df h6];refine aW rfl (t172 (s.take (s.length-3)) so) ?_;simp only[vq,seval];cases hn:k6 (s.take (s.length-3))with
      |false=>simp only[vq,seval]
      |true=>simp only[vq,seval]
   ·simp only[vq,seval,df h3,Bool.false_and]
  ·simp only[vq,seval,df h1,Bool.false_and]
theorem t240(s:B)(hl:s.length<=maxLen):CallP Tryz.prog 240 [.d (.str s)] (.d (.bool (ef s))):=by
 refine cc240.go ac240 rfl ?_;rw[<-HA];simp only[vq,seval,ac240];refine aW rfl (t260 s hl) ?_;simp only[vq,seval];cases h:sJ s with
 |true=>simp only[vq,seval,Bool.true_or]
 |false=>rw[Bool.false_or];simp only[vq,seval];refine aW rfl (t172 s hl) ?_;simp only[vq,seval]
end Go.Proofs.Tp
