/- Proved: contracts of functions that the laws of Top reach, and plain facts for them. Conditions: those that each lemma states. -/
import Derived.Test.YtmhkppbollghoaaGreatDoorF1
set_option linter.unusedSectionVars false
set_option linter.unusedSimpArgs false
set_option linter.unusedVariables false
namespace Go.Proofs.Tp
open Go.Vx
def eW(n:Int):Int:=n%65536
abbrev Wd(n:Int):Prop:=0<=n/\n<=65535
theorem iG(n:Int):Wd (eW n):=by unfold eW;omega
theorem EM(n:Int):((BitVec.ofInt IntKind.i64.bits n&&&BitVec.ofInt IntKind.i64.bits 65535).toNat:Int)=n%65536:=by
 show((BitVec.ofInt 64 n&&&BitVec.ofInt 64 65535).toNat:Int)=n%65536;rw[BitVec.toNat_and,BitVec.toNat_ofInt,BitVec.toNat_ofInt];have:((65535:Int)%((2^64:Nat):Int)).toNat=2^16-1:=by decide
 rw[this,Nat.and_two_pow_sub_one_eq_mod];omega
theorem t247(n:Int):CallP Tryz.prog 247 [.d (.int .i64 n)] (.d (.int .u16 (eW n))):=by refine cc247.go ac247 rfl ?_;simp only[vq,seval,ac247];rw[EM,IntKind.wrap_u16,IntKind.wrap_i64];unfold eW;omega
theorem t248(n:Int)(h:Wd n):CallP Tryz.prog 248 [.d (.int .u16 n)] (.d (.int .i64 n)):=by refine cc248.go ac248 rfl ?_;simp only[vq,seval,ac248];rw[a8]<;>omega
theorem t222(n:Int):CallP Tryz.prog 222 [.d (.int .i64 n)] (.d (.int .i64 (eW n))):=by refine cc222.go ac222 rfl ?_;simp only[vq,seval,ac222];refine aW rfl (t247 n) ?_;simp only[vq,seval];refine aW rfl (t248 _ (iG n)) ?_;simp only[vq,seval]
theorem Lp{i:Nat}(h:i<17):0<(2:Int)^i/\(2:Int)^i<=65536:=by
 have:∀i,i<17->0<(2:Int)^i/\(2:Int)^i<=65536:=by decide
 exact this i h
theorem t274(w n:Int)(h:Wd w)(hn:0<=n/\n<=15):CallP Tryz.prog 274 [.d (.int .u16 w),.d (.int .i64 n)] (.d (.int .u16 (eW (w*2^n.toNat)))):=by refine cc274.go ac274 rfl ?_;simp only[vq,seval,ac274];refine⟨hn.1,?_⟩;rw[IntKind.wrap_u16,Nat.min_eq_left (by show n.toNat<=16;omega)];rfl
theorem t275(w n:Int)(h:Wd w)(hn:0<=n/\n<=15):CallP Tryz.prog 275 [.d (.int .u16 w),.d (.int .i64 n)] (.d (.int .u16 (w/2^n.toNat))):=by refine cc275.go ac275 rfl ?_;simp only[vq,seval,ac275];refine⟨hn.1,?_⟩;rw[Nat.min_eq_left (by show n.toNat<=16;omega)]
theorem t272(w n:Int):CallP Tryz.prog 272 [.d (.int .u16 w),.d (.int .u16 n)] (.d (.int .u16 (eW (w*n)))):=by refine cc272.go ac272 rfl ?_;simp only[vq,seval,ac272];rw[IntKind.wrap_u16];rfl
theorem t250(w n:Int):CallP Tryz.prog 250 [.d (.int .u16 w),.d (.int .u16 n)] (.d (.int .u16 (eW (w+n)))):=by refine cc250.go ac250 rfl ?_;simp only[vq,seval,ac250];rw[IntKind.wrap_u16];rfl
theorem t271(w n:Int):CallP Tryz.prog 271 [.d (.int .u16 w),.d (.int .u16 n)] (.d (.int .u16 (eW (w-n)))):=by refine cc271.go ac271 rfl ?_;simp only[vq,seval,ac271];rw[IntKind.wrap_u16];rfl
theorem t269(w:Int):CallP Tryz.prog 269 [.d (.int .u16 w)] (.d (.int .u16 (eW (0-w)))):=by refine cc269.go ac269 rfl ?_;simp only[vq,seval,ac269];rw[IntKind.wrap_u16];rfl
theorem Cp(w:Int)(h:Wd w):((BitVec.ofInt IntKind.u16.bits (if IntKind.u16.signed=true then-1 else IntKind.u16.max)^^^BitVec.ofInt IntKind.u16.bits w).toNat:Int)=65535-w:=by
 show((BitVec.ofInt 16 65535^^^BitVec.ofInt 16 w).toNat:Int)=65535-w;have e:BitVec.ofInt 16 65535^^^BitVec.ofInt 16 w= ~~~BitVec.ofInt 16 w:=by
  have:BitVec.ofInt 16 65535=BitVec.allOnes 16:=by decide
  rw[this,BitVec.allOnes_xor]
 rw[e,BitVec.toNat_not,BitVec.toNat_ofInt];omega
theorem t268(w:Int)(h:Wd w):CallP Tryz.prog 268 [.d (.int .u16 w)] (.d (.int .u16 (65535-w))):=by refine cc268.go ac268 rfl ?_;simp only[vq,seval,ac268];rw[Cp w h,Eh om om]
theorem t249(g:Nat)(w b r:Int)(hr:Wd r)(hg:CallP Tryz.prog g [.d (.int .u16 w),.d (.int .u16 (eW b))] (.d (.int .u16 r))):CallP Tryz.prog 249 [.fn (.func g) [.d (.int .u16 w)] [],.d (.int .i64 b)] (.d (.int .i64 r)):=by refine cc249.go ac249 rfl ?_;simp only[vq,seval,ac249];refine aW rfl (t247 b) ?_;simp only[vq,seval];refine aW rfl (hg) ?_;simp only[vq,seval];refine aW rfl (t248 r hr) ?_;simp only[vq,seval]
theorem t267(g:Nat)(w r:Int)(hr:Wd r)(hg:CallP Tryz.prog g [.d (.int .u16 w)] (.d (.int .u16 r))):CallP Tryz.prog 267 [.fn (.func g) [.d (.int .u16 w)] []] (.d (.int .i64 r)):=by refine cc267.go ac267 rfl ?_;simp only[vq,seval,ac267];refine aW rfl (hg) ?_;simp only[vq,seval];refine aW rfl (t248 r hr) ?_;simp only[vq,seval]
def y4(a n:Int):Int:=if n<0\/15<n then 0 else eW (eW a*2^n.toNat)
def qm(a n:Int):Int:=if n<0\/15<n then 0 else eW a/2^n.toNat
def yR(a i:Int):Int:=qm a i%2
def ot(a:Int):Nat->Int
 |0=>0
 |n+1=>ot a n+yR a n
def r8(a:Int):Int:=ot a 16
theorem t256(a b:Int):CallP Tryz.prog 256 [.d (.int .i64 a),.d (.int .i64 b)] (.d (.int .i64 (eW (eW a*eW b)))):=by refine cc256.go ac256 rfl ?_;simp only[vq,seval,ac256];refine aW rfl (t247 a) ?_;simp only[vq,seval];refine aW rfl (t249 272 (eW a) b _ (iG _) (t272 (eW a) (eW b))) ?_;simp only[vq,seval]
theorem t223(a b:Int):CallP Tryz.prog 223 [.d (.int .i64 a),.d (.int .i64 b)] (.d (.int .i64 (eW (eW a+eW b)))):=by refine cc223.go ac223 rfl ?_;simp only[vq,seval,ac223];refine aW rfl (t247 a) ?_;simp only[vq,seval];refine aW rfl (t249 250 (eW a) b _ (iG _) (t250 (eW a) (eW b))) ?_;simp only[vq,seval]
theorem t255(a b:Int):CallP Tryz.prog 255 [.d (.int .i64 a),.d (.int .i64 b)] (.d (.int .i64 (eW (eW a-eW b)))):=by refine cc255.go ac255 rfl ?_;simp only[vq,seval,ac255];refine aW rfl (t247 a) ?_;simp only[vq,seval];refine aW rfl (t249 271 (eW a) b _ (iG _) (t271 (eW a) (eW b))) ?_;simp only[vq,seval]
theorem t253(a:Int):CallP Tryz.prog 253 [.d (.int .i64 a)] (.d (.int .i64 (eW (0-eW a)))):=by refine cc253.go ac253 rfl ?_;simp only[vq,seval,ac253];refine aW rfl (t247 a) ?_;simp only[vq,seval];refine aW rfl (t267 269 (eW a) _ (iG _) (t269 (eW a))) ?_;simp only[vq,seval]
theorem Jl(a:Int):Wd (65535-eW a):=by have:=iG a;omega
theorem t252(a:Int):CallP Tryz.prog 252 [.d (.int .i64 a)] (.d (.int .i64 (65535-eW a))):=by refine cc252.go ac252 rfl ?_;simp only[vq,seval,ac252];refine aW rfl (t247 a) ?_;simp only[vq,seval];refine aW rfl (t267 268 (eW a) _ (Jl _) (t268 _ (iG a))) ?_;simp only[vq,seval]
theorem t273(g:Nat)(w n r:Int)(hr:0<=n/\n<=15->Wd r/\CallP Tryz.prog g [.d (.int .u16 w),.d (.int .i64 n)] (.d (.int .u16 r))):CallP Tryz.prog 273 [.fn (.func g) [.d (.int .u16 w)] [],.d (.int .i64 n)] (.d (.int .i64 (if n<0\/15<n then 0 else r))):=by
 refine cc273.go ac273 rfl ?_;simp only[vq,seval,ac273];refine EX (fun h=>?_) (fun h=>?_)
 ·simp only[vq,seval,h];refine aZ (fun h2=>?_) (fun h2=>?_)
  ·simp only[vq,seval];simp only[aj]at h2;rw[if_pos om]
  ·simp only[vq,seval];simp only[ak]at h h2;obtain⟨h3,h4⟩:=hr om;refine aW rfl (h4) ?_;simp only[vq,seval];refine aW rfl (t248 r h3) ?_;simp only[vq,seval];rw[if_neg om]
 ·simp only[vq,seval,h];simp only[aj]at h;rw[if_pos om]
theorem t257(a n:Int):CallP Tryz.prog 257 [.d (.int .i64 a),.d (.int .i64 n)] (.d (.int .i64 (y4 a n))):=by refine cc257.go ac257 rfl ?_;simp only[vq,seval,ac257];refine aW rfl (t247 a) ?_;simp only[vq,seval];refine aW rfl (t273 274 (eW a) n _ (fun h=>⟨iG _,t274 _ _ (iG a) h⟩)) ?_;simp only[vq,seval];rfl
theorem JH(a:Int){i:Nat}(h:i<17):Wd (eW a/2^i):=by
 have h1:=iG a;have h2:=Lp h;constructor
 ·exact Int.ediv_nonneg h1.1 om
 ·have:=Int.ediv_le_self (2^i) h1.1;omega
theorem t258(a n:Int):CallP Tryz.prog 258 [.d (.int .i64 a),.d (.int .i64 n)] (.d (.int .i64 (qm a n))):=by refine cc258.go ac258 rfl ?_;simp only[vq,seval,ac258];refine aW rfl (t247 a) ?_;simp only[vq,seval];refine aW rfl (t273 275 (eW a) n _ (fun h=>⟨JH a om,t275 _ _ (iG a) h⟩)) ?_;simp only[vq,seval];rfl
theorem OX(a n:Int):Wd (qm a n):=by
 unfold qm;split
 ·exact⟨om,om⟩
 ·exact JH a om
theorem O1(a n:Int):0<=yR a n/\yR a n<=1:=by unfold yR;omega
theorem GV(a:Int)(n:Nat):0<=ot a n/\ot a n<=n:=by
 induction n with
 |zero=>simp[ot]
 |succ n ih=>have:=O1 a n;simp only[ot];omega
def tU(n:Nat):Nat:=n%2+n/2%2+n/4%2+n/8%2+n/16%2+n/32%2+n/64%2+n/128%2
theorem Gx:∀i:Fin 256,(Dt[i.val]?).map (·.toNat)=some (tU i.val):=by decide +kernel
theorem Ie(n:Int)(h:Wd n):((BitVec.ofInt IntKind.u16.bits n&&&BitVec.ofInt IntKind.u16.bits 255).toNat:Int)=n%256:=by
 show((BitVec.ofInt 16 n&&&BitVec.ofInt 16 255).toNat:Int)=n%256;rw[BitVec.toNat_and,BitVec.toNat_ofInt,BitVec.toNat_ofInt];have:((255:Int)%((2^16:Nat):Int)).toNat=2^8-1:=by decide
 rw[this,Nat.and_two_pow_sub_one_eq_mod];omega
theorem xG{j:Nat}(hj:j<256){f:UInt8->Prop}(h:∀b:UInt8,b.toNat=tU j->f b):gX Dt j f:=by have h1:=Gx ⟨j,hj⟩;obtain⟨b,h2,h3⟩:=aa.1 h1;exact fg.2 ⟨b,h2,h b h3⟩
theorem xR:(Dt.length:Int)=256:=by decide +kernel
theorem e8:(2:Int)^(min 8 IntKind.u16.bits)=256:=by decide
theorem zV(n:Nat):tU n<=8:=by unfold tU;omega
def Lr(w:Int):Int:=tU (w/256).toNat+tU (w%256).toNat
theorem t270(w:Int)(h:Wd w):CallP Tryz.prog 270 [.d (.int .u16 w)] (.d (.int .i64 (Lr w))):=by refine cc270.go ac270 rfl ?_;simp only[vq,seval,ac270];refine du rfl ?_;simp only[vq,seval];rw[e8,xR];refine⟨om,om,xG om fun b hb=>?_⟩;simp only[vq,seval];rw[Ie w h,Eh (n:=w%256) om om,xR];refine⟨om,om,xG om fun c hc=>?_⟩;simp only[vq,seval];have h1:=zV (w/256).toNat;have h2:=zV (w%256).toNat;rw[hb,hc,Jt om om,a8 om om];rfl
theorem Mx(a:Int)(i:Nat)(h:i<16):yR a i=eW a/2^i%2:=by unfold yR qm;rw[if_neg om];rfl
theorem Hh(m:Nat):tU (m/256)+tU (m%256)=0+m%2+m/2%2+m/4%2+m/8%2+m/16%2+m/32%2+m/64%2+m/128%2+m/256%2+m/512%2+m/1024%2+m/2048%2+m/4096%2+m/8192%2+m/16384%2+m/32768%2:=by
 have a1:m/256/2%2=m/512%2:=om;have a2:m/256/4%2=m/1024%2:=om;have a3:m/256/8%2=m/2048%2:=om;have a4:m/256/16%2=m/4096%2:=om;have a5:m/256/32%2=m/8192%2:=om;have a6:m/256/64%2=m/16384%2:=om;have a7:m/256/128%2=m/32768%2:=om;have c1:m%256/2%2=m/2%2:=om;have c2:m%256/4%2=m/4%2:=om;have c3:m%256/8%2=m/8%2:=om;have c4:m%256/16%2=m/16%2:=om;have c5:m%256/32%2=m/32%2:=om;have c6:m%256/64%2=m/64%2:=om;have c7:m%256/128%2=m/128%2:=om;have c0:m%256%2=m%2:=om;unfold tU;rw[a1,a2,a3,a4,a5,a6,a7,c0,c1,c2,c3,c4,c5,c6,c7,Nat.zero_add]
 ac_rfl
theorem LV(a:Int):Lr (eW a)=r8 a:=by obtain⟨m,hm⟩:∃m:Nat,eW a=m:=⟨(eW a).toNat,by have:=iG a;omega⟩;unfold Lr r8;simp only[ot,Mx a,Nat.reduceLT,hm,Int.reducePow];have e1:((m:Int)/256).toNat=m/256:=om;have e2:((m:Int)%256).toNat=m%256:=om;rw[e1,e2];have:=congrArg (Nat.cast (R:=Int)) (Hh m);simp only[Int.natCast_add,Int.natCast_emod,Int.natCast_ediv,Int.cast_ofNat_Int,Int.natCast_zero]at this;rw[this,Int.ediv_one]
theorem t254(a:Int):CallP Tryz.prog 254 [.d (.int .i64 a)] (.d (.int .i64 (r8 a))):=by refine cc254.go ac254 rfl ?_;simp only[vq,seval,ac254];refine aW rfl (t247 a) ?_;simp only[vq,seval];refine aW rfl (t270 _ (iG a)) ?_;simp only[vq,seval];exact LV a
def tC(b:Bool):Int:=if b=true then 1 else 0
theorem t251(b:Bool):CallP Tryz.prog 251 [.d (.bool b)] (.d (.int .i64 (tC b))):=by refine cc251.go ac251 rfl ?_;cases b<;>simp only[vq,seval,ac251]<;>rfl
def oP(op a:Int):Int:=if op=4 then tC (decide (a=0))else if op=5 then 65535-eW a else if op=6 then eW (0-eW a)else r8 a
theorem t224(op a:Int):CallP Tryz.prog 224 [.d (.int .i64 op),.d (.int .i64 a)] (.d (.int .i64 (oP op a))):=by
 refine cc224.go ac224 rfl ?_;simp only[vq,seval,ac224];unfold oP;by_cases h4:op=4
 ·rw[if_pos h4];simp only[vq,seval,dt h4];refine aW rfl (t251 _) ?_;simp only[vq,seval]
 rw[if_neg h4];simp only[vq,seval,df h4];by_cases h5:op=5
 ·rw[if_pos h5];simp only[vq,seval,dt h5];refine aW rfl (t252 a) ?_;simp only[vq,seval]
 rw[if_neg h5];simp only[vq,seval,df h5];by_cases h6:op=6
 ·rw[if_pos h6];simp only[vq,seval,dt h6];refine aW rfl (t253 a) ?_;simp only[vq,seval]
 rw[if_neg h6];simp only[vq,seval,df h6];refine aW rfl (t254 a) ?_;simp only[vq,seval]
def uL(a b:Int):Int:=((a.toNat&&&b.toNat:Nat):Int)
def GY(a b:Int):Int:=((a.toNat|||b.toNat:Nat):Int)
def uU(a b:Int):Int:=((a.toNat^^^b.toNat:Nat):Int)
def ek(op a b:Int):Int:=if op=7 then eW (eW a+eW b)else if op=8 then eW (eW a-eW b)else if op=9 then eW (eW a*eW b)else if op=10 then uL a b else if op=11 then GY a b else if op=12 then uU a b else if op=13 then y4 a b else if op=14 then qm a b else if op=15 then tC (decide (a=b))else if op=16 then tC (!decide (a=b))else if op=17 then tC (decide (a<b))else if op=18 then tC (decide (a<=b))else if op=19 then tC (!decide (a=0)&& !decide (b=0))else if op=20 then tC (!decide (a=0)|| !decide (b=0))else tC (decide (a=0)|| !decide (b=0))
theorem pk{a:Int}(h:Wd a):(BitVec.ofInt IntKind.i64.bits a).toNat=a.toNat:=by show(BitVec.ofInt 64 a).toNat=a.toNat;rw[BitVec.toNat_ofInt];omega
theorem rO{a:Int}(h:Wd a):a.toNat<2^16:=om
theorem Jj{a b:Int}(ha:Wd a)(hb:Wd b):Wd (uL a b)/\IntKind.i64.wrap ((BitVec.ofInt IntKind.i64.bits a&&&BitVec.ofInt IntKind.i64.bits b).toNat:Int)=uL a b:=by
 have h:=Nat.and_lt_two_pow a.toNat (rO hb);have w:Wd (uL a b):=by unfold uL;omega
 rw[BitVec.toNat_and,pk ha,pk hb];exact⟨w,a8 (by unfold uL at w;omega) (by unfold uL at w;omega)⟩
theorem Na{a b:Int}(ha:Wd a)(hb:Wd b):Wd (GY a b)/\IntKind.i64.wrap ((BitVec.ofInt IntKind.i64.bits a|||BitVec.ofInt IntKind.i64.bits b).toNat:Int)=GY a b:=by
 have h:=Nat.or_lt_two_pow (rO ha) (rO hb);have w:Wd (GY a b):=by unfold GY;omega
 rw[BitVec.toNat_or,pk ha,pk hb];exact⟨w,a8 (by unfold GY at w;omega) (by unfold GY at w;omega)⟩
theorem IV{a b:Int}(ha:Wd a)(hb:Wd b):Wd (uU a b)/\IntKind.i64.wrap ((BitVec.ofInt IntKind.i64.bits a^^^BitVec.ofInt IntKind.i64.bits b).toNat:Int)=uU a b:=by
 have h:=Nat.xor_lt_two_pow (rO ha) (rO hb);have w:Wd (uU a b):=by unfold uU;omega
 rw[BitVec.toNat_xor,pk ha,pk hb];exact⟨w,a8 (by unfold uU at w;omega) (by unfold uU at w;omega)⟩
theorem t225(op a b:Int)(ho:7<=op/\op<=21)(ha:Wd a)(hb:Wd b):CallP Tryz.prog 225 [.d (.int .i64 op),.d (.int .i64 a),.d (.int .i64 b)] (.d (.int .i64 (ek op a b))):=by
 refine cc225.go ac225 rfl ?_;have:op=7\/op=8\/op=9\/op=10\/op=11\/op=12\/op=13\/op=14\/op=15\/op=16\/op=17\/op=18\/op=19\/op=20\/op=21:=om;rcases this with rfl|rfl|rfl|rfl|rfl|rfl|rfl|rfl|rfl|rfl|rfl|rfl|rfl|rfl|rfl
 ·simp only[vq,seval,ac225];refine aW rfl (t223 a b) ?_;simp only[vq,seval];rfl
 ·simp only[vq,seval,ac225];refine aW rfl (t255 a b) ?_;simp only[vq,seval];rfl
 ·simp only[vq,seval,ac225];refine aW rfl (t256 a b) ?_;simp only[vq,seval];rfl
 ·simp only[vq,seval,ac225];rw[(Jj ha hb).2];rfl
 ·simp only[vq,seval,ac225];rw[(Na ha hb).2];rfl
 ·simp only[vq,seval,ac225];rw[(IV ha hb).2];rfl
 ·simp only[vq,seval,ac225];refine aW rfl (t257 a b) ?_;simp only[vq,seval];rfl
 ·simp only[vq,seval,ac225];refine aW rfl (t258 a b) ?_;simp only[vq,seval];rfl
 ·simp only[vq,seval,ac225];refine aW rfl (t251 _) ?_;simp only[vq,seval];rfl
 ·simp only[vq,seval,ah,bS,ac225];refine aW rfl (t251 _) ?_;simp only[vq,seval];rfl
 ·simp only[vq,seval,ac225];refine aW rfl (t251 _) ?_;simp only[vq,seval];rfl
 ·simp only[vq,seval,ac225];refine aW rfl (t251 _) ?_;simp only[vq,seval];rfl
 ·simp only[vq,seval,ah,bS,ac225];by_cases h:a=0
  ·simp only[vq,seval,ah,bS,dt h];refine aW rfl (t251 _) ?_;simp only[vq,seval];simp[ek,h]
  ·simp only[vq,seval,ah,bS,df h];refine aW rfl (t251 _) ?_;simp only[vq,seval];simp[ek,h]
 ·simp only[vq,seval,ah,bS,ac225];by_cases h:a=0
  ·simp only[vq,seval,ah,bS,dt h];refine aW rfl (t251 _) ?_;simp only[vq,seval];simp[ek,h]
  ·simp only[vq,seval,ah,bS,df h];refine aW rfl (t251 _) ?_;simp only[vq,seval];simp[ek,h]
 ·simp only[vq,seval,ah,bS,ac225];by_cases h:a=0
  ·simp only[vq,seval,ah,bS,dt h];refine aW rfl (t251 _) ?_;simp only[vq,seval];simp[ek,h]
  ·simp only[vq,seval,ah,bS,df h];refine aW rfl (t251 _) ?_;simp only[vq,seval];simp[ek,h]
def FJ(x:Int):List Int->Int
 |lo::hi::r=>if lo<=x/\x<=hi then 1 else FJ x r
 |_=>0
def BU(op:Int)(l:List Int):Int:=if op=22 then(if l[0]?.getD 0≠0 then l[1]?.getD 0 else l[2]?.getD 0)else if op=23 then FJ (l[0]?.getD 0) l.tail else if l.length=1 then oP op (l[0]?.getD 0)else ek op (l[0]?.getD 0) (l[1]?.getD 0)
def BI(op:Int)(l:List Int):Prop:=(op=22/\l.length=3)\/(op=23/\3<=l.length/\l.length<=33)\/((op=4\/op=5\/op=6\/op=25)/\l.length=1)\/(7<=op/\op<=21/\l.length=2)
theorem t190(op:Int)(l:List Int)(ok:BI op l)(hw:∀x∈l,Wd x):CallP Tryz.prog 190 [.d (.int .i64 op),.d (.sl 1 (l.map iD))] (.d (.int .i64 (BU op l))):=by
 have hmL:=dx;refine cc190.go ac190 rfl ?_;unfold BU;rcases ok with⟨rfl,h⟩|⟨rfl,h1,h2⟩|⟨h0,h⟩|⟨h1,h2,h⟩
 ·match l,h with
  |[a,b,c],_=>
   simp only[vq,seval,ac190,List.map_cons,List.map_nil,iD];by_cases ha:a=0
   ·simp only[vq,seval,ah,bS,dt ha,iD];simp[ha]
   ·simp only[vq,seval,ah,bS,df ha,iD];simp[ha]
 ·obtain⟨x,hx⟩:=bh (l:=l) (i:=0) om;rw[hx,if_neg dc,if_pos rfl];have ht:l.tail=l.drop 1:=by simp
  rw[ht];simp only[Option.getD_some];simp only[vq,seval,ac190];refine bb (fun i:Nat=>⟨cC 63 [(0,.d (.int .i64 23)),(1,.d (.sl 1 (l.map iD))),(5,.d (.int .i64 i))],[]⟩) (fun i=>i<=l.length+1/\FJ x (l.drop 1)=FJ x (l.drop i)) (fun i=>l.length+1-i) 1 (a9 vt) ⟨om,rfl⟩ (fun i hi=>?_);obtain⟨g1,g2⟩:=hi;simp only[vq,seval];rw[a8 om om];refine aZ (fun hc=>?_) (fun hc=>?_)
  ·simp only[aj]at hc;obtain⟨lo,hlo⟩:=bh (l:=l) (i:=i) om;obtain⟨hi,hhi⟩:=bh (l:=l) (i:=i+1) om;rw[bt hlo,bt hhi,FJ]at g2;simp only[vq,seval];refine du rfl ?_;simp only[vq,seval];refine⟨om,om,bg hlo ?_⟩;simp only[vq,seval];simp only[vq,seval,iD];refine⟨om,bg hx ?_⟩;simp only[vq,seval,iD];by_cases h3:lo<=x
   ·simp only[vq,seval,dt h3];refine⟨om,bg hx ?_⟩;simp only[vq,seval,iD];rw[a8 om om];have:(i:Int)+1=((i+1:Nat):Int):=om;rw[this];refine⟨om,om,bg hhi ?_⟩;simp only[vq,seval];simp only[vq,seval,iD];by_cases h4:x<=hi
    ·rw[if_pos ⟨h3,h4⟩]at g2;simp only[vq,seval,dt h4,g2]
    ·rw[if_neg (fun z=>h4 z.2)]at g2;simp only[vq,seval,df h4];refine bL (i+2) om (a9 ?_) ⟨om,g2⟩;simp only[vq,seval];rw[a8 om om];trivial
   ·rw[if_neg (fun z=>h3 z.1)]at g2;simp only[vq,seval,df h3];refine bL (i+2) om (a9 ?_) ⟨om,g2⟩;simp only[vq,seval];rw[a8 om om];trivial
  ·simp only[ak]at hc;have g3:FJ x (l.drop 1)=0:=by
    rw[g2];by_cases h5:i<l.length
    ·obtain⟨lo,hlo⟩:=bh (l:=l) (i:=i) h5;rw[bt hlo,b4 om];rfl
    ·rw[b4 om];rfl
   simp only[vq,seval,g3]
 ·match l,h with
  |[a],_=>have n22:¬op=22:=om;have n23:¬op=23:=om;simp only[vq,seval,ac190,List.map_cons,List.map_nil,iD,df n22,df n23];refine aW rfl (t224 op a) ?_;simp only[vq,seval];simp[n22,n23]
 ·match l,h with
  |[a,b],_=>have n22:¬op=22:=om;have n23:¬op=23:=om;simp only[vq,seval,ac190,List.map_cons,List.map_nil,iD,df n22,df n23];refine du rfl ?_;simp only[vq,seval,iD];refine aW rfl (t225 op a b ⟨h1,h2⟩ (hw a sm) (hw b sm)) ?_;simp only[vq,seval];simp[n22,n23]
structure Sg where
 nm:B
 v:Int
def Sg.d(x:Sg):List D:=[.str x.nm,.int .i64 x.v]
def oI(l:List Sg):D:=.sl 2 (l.map Sg.d)
def sW:List Sg->B->Int×Bool
 |[],_=>(0,false)
 |x::l,s=>if x.nm=s then(eW x.v,true)else sW l s
theorem Px:Wd 0:=⟨by decide,by decide⟩
theorem Q4:Wd 1:=⟨by decide,by decide⟩
theorem Ll(l:List Sg)(s:B):Wd (sW l s).1:=by
 induction l with
 |nil=>exact Px
 |cons x l ih=>rw[sW];split;exact iG _;exact ih
theorem t187(l:List Sg)(s:B)(hl:l.length<=maxLen):CallP Tryz.prog 187 [.agg [.d (oI l)],.d (.str s)] (.cm [.d (.int .i64 (sW l s).1),.d (.bool (sW l s).2)]):=by
 have hm:=hm;refine cc187.go ac187 rfl ?_;simp only[vq,seval,ac187,oI];refine bb (fun i:Nat=>⟨cC 23 [(1,.d (.str s)),(9,.d (oI l)),(10,.d (.int .i64 l.length)),(11,.d (.int .i64 i))],[]⟩) (fun i=>i<=l.length/\sW l s=sW (l.drop i) s) (fun i=>l.length-i) 0 (bz 0 om rfl rfl trivial (by simp only[vq,seval,oI];try trivial)) ⟨om,rfl⟩ (fun i hi=>?_);obtain⟨h1,h2⟩:=hi;simp only[vq,seval,oI];refine aZ (fun hc=>?_) (fun hc=>?_)
 ·simp only[aj]at hc;obtain⟨x,hx⟩:=bh (l:=l) (i:=i) om;rw[bt hx,sW]at h2;simp only[vq,seval];refine⟨om,om,bg hx ?_⟩;simp only[vq,seval];simp only[vq,seval,Sg.d];by_cases he:x.nm=s
  ·rw[if_pos he]at h2;simp only[vq,seval,dt he];refine aW rfl (t222 x.v) ?_;simp only[vq,seval];rw[h2];exact⟨rfl,rfl⟩
  ·rw[if_neg he]at h2;simp only[vq,seval,df he];refine bL (i+1) om (bz 0 om rfl rfl trivial ?_) ⟨om,h2⟩;simp only[vq,seval,oI];rw[a8 om om];trivial
 ·simp only[ak]at hc;rw[b4 om,sW]at h2;simp only[vq,seval,h2]
def mI(x:Ex):Prop:=ei x=0/\fN x=false
theorem q9{x:Ex}(h:ei x=0):1<=x.op/\x.op<=25/\(x.op=1->0<=x.n/\x.n<=65535)/\iH x=true:=by
 unfold ei at h;split at h
 ·cases h
 split at h
 ·cases h
 split at h
 ·cases h
 rename_i h1 h2 h3;refine⟨om,om,fun h4=>?_,?_⟩
 ·simp[sZ,h4]at h2;omega
 ·simp[sG]at h3;exact h3.2
theorem qJ{x:Ex}(h:mI x):(x.op=1\/x.op=2)\/(x.op≠1/\x.op≠2/\x.op≠3/\x.op≠24/\∀l:List Int,l.length=x.args.length->BI x.op l):=by
 obtain⟨h1,h2,h3,h4⟩:=q9 h.1;have ha:=h.2;simp[fN]at ha;by_cases c:x.op=1\/x.op=2
 ·exact .inl c
 refine .inr ⟨om,om,ha.1,ha.2,fun l hl=>?_⟩;unfold iH at h4;split at h4
 ·rename_i h23;simp at h4;exact .inr (.inl ⟨h23,om,om⟩)
 ·rename_i h23;rw[aj]at h4;unfold qE at h4;rw[if_neg om]at h4;split at h4
  ·exact .inr (.inr (.inl ⟨om,om⟩))
  split at h4
  ·exact .inl ⟨om,om⟩
  rw[if_neg om]at h4;exact .inr (.inr (.inr ⟨om,om,om⟩))
mutual
def o5(s:List Sg):Ex->Int
 | .mk op n nm l=>if op=1 then n else if op=2 then(sW s nm).1 else BU op (GF s l)
def GF(s:List Sg):List Ex->List Int
 |[]=>[]
 |x::l=>o5 s x::GF s l
end
theorem DD(s:List Sg)(l:List Ex):GF s l=l.map (o5 s):=by
 induction l with
 |nil=>rfl
 |cons x l ih=>rw[GF,ih,List.map_cons]
theorem zl(s:List Sg)(x:Ex):o5 s x=if x.op=1 then x.n else if x.op=2 then(sW s x.nm).1 else BU x.op (x.args.map (o5 s)):=by cases x;rw[o5,DD];rfl
theorem DT(b:Bool):Wd (tC b):=by cases b<;>exact⟨by decide,by decide⟩
theorem MD(a n:Int):Wd (y4 a n):=by unfold y4;split;exact⟨by decide,by decide⟩;exact iG _
theorem GS(a:Int):Wd (r8 a):=by have:=GV a 16;unfold r8;exact⟨this.1,om⟩
theorem Og{c:Prop}[Decidable c]{a b:Int}(ha:Wd a)(hb:Wd b):Wd (if c then a else b):=by split;exact ha;exact hb
theorem LG{op:Int}{l:List Int}(ok:BI op l)(hw:∀x∈l,Wd x):Wd (BU op l):=by
 have g:∀i,i<l.length->Wd (l[i]?.getD 0):=fun i hi=>by rw[ae hi];exact hw _ (List.getElem_mem hi)
 unfold BU;rcases ok with⟨rfl,h⟩|⟨rfl,h1,h2⟩|⟨h0,h⟩|⟨h1,h2,h⟩
 ·rw[if_pos rfl];split;exact g 1 om;exact g 2 om
 ·rw[if_neg dc,if_pos rfl];generalize l.tail=t;have:∀(n:Nat) (t:List Int) (x:Int),t.length<=n->Wd (FJ x t):=fun n=>by
   induction n with
   |zero=>intro t x h;obtain rfl:=aQ (Nat.le_zero.1 h);exact Px
   |succ n ih=>
    intro t x h
    match t with
    |[]=>exact Px
    |[_]=>exact Px
    |lo::hi::r=>rw[FJ];split;exact Q4;exact ih r x (by simp at h;omega)
  exact this _ t _ (aq _)
 ·rw[if_neg om,if_neg om,if_pos h];have:=g 0 om;unfold oP;split
  ·exact DT _
  split
  ·exact Jl _
  split
  ·exact iG _
  ·exact GS _
 ·rw[if_neg om,if_neg om,if_neg om];have ha:=g 0 om;have hb:=g 1 om;unfold ek
  repeat' with_reducible refine Og ?_ ?_
  all_goals first|exact DT _|exact(Jj ha hb).1|exact(Na ha hb).1|exact(IV ha hb).1|exact MD _ _|exact OX _ _|exact iG _
theorem tW(s:List Sg):∀(m:Nat) (e:Ex),e.nodes.length<=m->(∀x∈e.nodes,mI x)->Wd (o5 s e)
 |0,e,h,_=>by have:=cZ e;omega
 |m+1,e,hle,hg=>by
  have hn:=hg e (by rw[Ex.bT];simp);rw[zl];split
  ·rename_i h;exact(q9 hn.1).2.2.1 h
  split
  ·exact Ll _ _
  rename_i h1 h2;rcases qJ hn with h|⟨_,_,_,_,h⟩
  ·omega
  refine LG (h _ sm) fun x hx=>?_;obtain⟨y,hy,rfl⟩:=aw.1 hx;have:=eU hy;rw[Ex.bT,List.length_cons]at hle;exact tW s m y om fun z hz=>hg z (by rw[Ex.bT];exact List.mem_cons_of_mem _ (eV hy hz))
theorem QS{R:Go.Vx.Rows}{h n:Nat}{l:List Int}(hr:R[h]? =some (rI l))(hn:l.length=n):dN R (.cl 1 h n 0 n)/\dJ R (.cl 1 h n 0 n)=.d (.sl 1 (l.map iD)):=by
 refine⟨⟨om,_,hr,by simpa using hn,fun e he v hv=>?_⟩,?_⟩
 ·obtain⟨y,hy,rfl⟩:=aw.1 he;obtain⟨s,_,rfl⟩:=aw.1 hy;simp[iD]at hv;subst hv;rfl
 ·simp only[dJ,eR,hr,rI,List.drop_zero];rw[al so];simp[iD,sP]
theorem QZ{m:Nat}{d:D}:dz m (.live 1 [[.d d]]):=eE (e:=[d])
theorem t141(s:List Sg)(hs:s.length<=maxLen):∀(m:Nat) (e:Ex),e.nodes.length<=m->nA e->(∀x∈e.nodes,mI x)->CallP Tryz.prog 141 [.agg [.d (oI s)],.agg (e.d.map .d)] (.d (.int .i64 (o5 s e)))
 |0,e,h,_,_=>by have:=cZ e;omega
 |m+1,e,hle,he,hg=>by
  have hm:=hm;have hmL:=dx;have hn:=he.1;have hA:=(he.2 e (by rw[Ex.bT];simp)).1;have hgn:=hg e (by rw[Ex.bT];simp);have hsub:∀x∈e.args,x.nodes.length<=m/\nA x/\∀y∈x.nodes,mI y:=fun x hx=>⟨(mU hle he x hx).1,(mU hle he x hx).2,fun y hy=>hg y (by rw[Ex.bT];exact List.mem_cons_of_mem _ (eV hx hy))⟩;have hAl:e.args.length<=4294967296:=by
   have:e.args.length<=(Ex.bX e.args).length:=by
    generalize e.args=l;induction l with
    |nil=>exact aq _
    |cons x l ih=>rw[Ex.bX,az,List.length_cons];have:=cZ x;omega
   rw[Ex.bT,List.length_cons]at hn;omega
  rw[e.jB];refine cc141.go (AC.at AC.wk [1,1,0,0] ac141) rfl ?_;simp only[vq,seval,ac141,AC.at,List.map_cons,List.map_nil];refine fu _ (eJ 5 1 rfl) ?_;simp only[vq,seval];refine bb (fun i:Nat=>⟨cC 65 [(2,.aY 1 0 1 0 0),(3,.aY 4 1 1 0 0),(5,.cl 1 2 i 0 i),(13,.d (.sl 4 (e.args.map Ex.d))),(14,.d (.int .i64 e.args.length)),(15,.d (.int .i64 i))],[.live 1 [[.d (oI s)]],.live 4 [e.d.map .d],rI ((e.args.take i).map (o5 s))]⟩) (fun i=>i<=e.args.length) (fun i=>e.args.length-i) 0 (bk (by rw[e.jB];rfl) vt) om ?_;rintro i h1;simp only[vq,seval];refine aZ (fun hc=>?_) (fun hc=>?_)
  ·simp only[aj]at hc;obtain⟨x,hx⟩:=bh (l:=e.args) (i:=i) om;have hmem:=af hx;simp only[vq,seval];refine⟨om,om,bg hx ?_⟩;simp only[vq,seval];simp only[vq,seval,dI];refine aW (by simp[kv,gn,lY]) (t141 s hs m x (hsub x hmem).1 (hsub x hmem).2.1 (hsub x hmem).2.2) ?_;simp only[vq,seval,rI];refine⟨by rw[List.length_take];omega,by simp only[bM];omega,?_⟩;refine bL (i+1) om (bz 3 om (by rw[bQ hx];simp[iD]) rfl ⟨QZ,eE (e:=e.d),nY (l:=((e.args.take (i+1)).map (o5 s)).map iD),trivial⟩ ?_) om;simp only[vq,seval];rw[a8 om om];trivial
  ·simp only[ak]at hc;obtain rfl:i=e.args.length:=om;rw[al (aq _),e.jB];have hE:=zl s e;simp only[vq,seval,List.map_cons,List.map_nil];by_cases h1:e.op=1
   ·rw[if_pos h1]at hE;rw[hE];simp only[vq,seval,dt h1]
   rw[if_neg h1]at hE;simp only[vq,seval,df h1];by_cases h2:e.op=2
   ·rw[if_pos h2]at hE;rw[hE];simp only[vq,seval,dt h2];refine aW rfl (t187 s e.nm hs) ?_;simp only[vq,seval]
   rcases qJ hgn with h|⟨_,_,h3,h24,hop⟩
   ·omega
   simp only[vq,seval,df h2,df h3,df h24];rw[if_neg h2]at hE;have hs:=QS (R:=[bd.live 1 [[V.d (oI s)]],bd.live 4 [[V.d (D.int IntKind.i64 e.op),V.d (D.int IntKind.i64 e.n),V.d (D.str e.nm),V.d (D.sl 4 (List.map Ex.d e.args))]],rI (List.map (o5 s) e.args)]) (h:=2) (n:=e.args.length) rfl sm;refine fw (v:=.d (.int .i64 (o5 s e))) (fun v hv=>?_) rfl ?_ ?_
   ·simp only[List.nil_append,List.append_nil,aP,List.not_mem_nil,or_false]at hv;rcases hv with rfl|rfl
    ·rfl
    ·exact hs.1
   ·simp only[List.nil_append,List.append_nil,List.map_cons,List.map_nil,hs.2];rw[hE];refine t190 e.op _ (hop _ sm) fun x hx=>?_;obtain⟨y,hy,rfl⟩:=aw.1 hx;exact tW s _ y (aq _) (hsub y hy).2.2
   simp only[vq,seval]
theorem QB(d:D)(l:List D):([V.agg [.d d],V.agg (l.map .d)]:List V).all kv=true:=by simp[kv,lY,gn]
theorem t140(s:List Sg)(hs:s.length<=maxLen)(e:Ex)(he:nA e)(ha:e.nodes.any fN=false)(hk:∀x∈e.nodes,x.op=2->(sW s x.nm).2=true):CallP Tryz.prog 140 [.agg [.d (oI s)],.agg (e.d.map .d)] (.d (.bool true)):=by
 have hm:=hm;have hmL:=dx;have hn:=he.1;have hna:=oV e;rw[ha,ak]at hna;have hln:=kL [2] e;have hkn:∀n∈dT [2] e,(sW s n).2=true:=fun n h=>by obtain⟨y,h1,h2,rfl⟩:=(mg _ _ _).1 h;exact hk y h1 (by simpa using h2)
 refine cc140.go ac140 rfl ?_;simp only[vq,seval,ac140,dI];refine aW (p9 _) (t132 e he) ?_;simp only[vq,seval];refine bb (fun i:Nat=>⟨cC 45 [(2,.aY 1 0 1 0 0),(3,.aY 4 1 1 0 0),(14,.d (.sl 1 ((dT [2] e).map sD))),(15,.d (.int .i64 (dT [2] e).length)),(16,.d (.int .i64 i))],[.live 1 [[.d (oI s)]],.live 4 [e.d.map .d]]⟩) (fun i=>i<=(dT [2] e).length) (fun i=>(dT [2] e).length-i) 0 (a9 vt) om ?_;rintro i h1;simp only[vq,seval];refine aZ (fun hc=>?_) (fun hc=>?_)
 ·simp only[aj]at hc;obtain⟨n,hx⟩:=bh (l:=dT [2] e) (i:=i) om;simp only[vq,seval];refine⟨om,om,bg hx ?_⟩;simp only[vq,seval];simp only[vq,seval,sD];refine aW rfl (t187 s n hs) ?_;simp only[vq,seval];simp only[vq,seval,hkn n (af hx)];refine bL (i+1) om (a9 ?_) om;simp only[vq,seval];rw[a8 om om];trivial
 ·simp only[vq,seval,dI];refine aW (p9 _) (t130 e he) ?_;simp only[vq,seval];have h0:dT [3,24] e=[]:=aQ om;rw[h0];simp only[vq,seval,List.map_nil];refine bb (fun i:Nat=>⟨cC 45 [(31,.d (.int .i64 0)),(32,.d (.int .i64 0))],[]⟩) (fun _=>True) (fun i=>i) 0 (bz 0 om rfl rfl trivial vt) trivial ?_;intro i _;simp only[vq,seval]
theorem GB(l:List Ex)(h:l.foldl jZ 0=0):∀x∈l,ei x=0:=by
 induction l with
 |nil=>intro x hx;cases hx
 |cons y l ih=>
  rw[List.foldl_cons,jZ,if_pos rfl]at h;by_cases h0:ei y=0
  ·rw[h0]at h;intro x hx;rcases aP.1 hx with rfl|hx
   ·exact h0
   ·exact ih h x hx
  ·rw[xT h0]at h;exact absurd h h0
theorem Hv{e:Ex}(h:lE e=0):∀x∈e.nodes,ei x=0:=by
 have h0:vw e=0:=by
  unfold lE at h;split at h
  ·cases h
  ·exact h
 rw[vw,fst_eq _ _ rfl]at h0;exact GB _ h0
theorem wT{e:Ex}(hv:lE e=0)(ha:e.nodes.any fN=false):∀x∈e.nodes,mI x:=fun x hx=>
 ⟨Hv hv x hx,by
  cases h:fN x with
  |false=>rfl
  |true=>rw[List.any_eq_true.2 ⟨x,hx,h⟩]at ha;cases ha⟩
theorem t87(s:List Sg)(hs:s.length<=maxLen)(e:Ex)(he:nA e)(hv:lE e=0)(ha:e.nodes.any fN=false)(hk:∀x∈e.nodes,x.op=2->(sW s x.nm).2=true):CallP Tryz.prog 87 [.agg (e.d.map .d),.d (oI s)] (.cm [.d (.int .i64 (o5 s e)),.d (.int .i64 0)]):=by have hg:∀x∈e.nodes,mI x:=wT hv ha;refine cc87.go ac87 rfl ?_;simp only[vq,seval,ac87,dI];refine aW (p9 _) (t97 e he) ?_;simp only[vq,seval];simp only[vq,seval,ah,bS,dt hv,dI];refine aW (QB _ _) (t140 s hs e he ha hk) ?_;simp only[vq,seval];simp only[vq,seval,dI];refine aW (QB _ _) (t141 s hs _ e (aq _) he hg) ?_;simp only[vq,seval]
end Go.Proofs.Tp
