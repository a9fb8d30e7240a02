/- Proved: contracts of functions that the laws of Top reach, and plain facts for them. Conditions: those that each lemma states. -/
import Derived.Test.YtmhkppbollghoaaGreatDoorH5
import Derived.Test.YtmhkppbollghoaaGreatDoorF6
set_option linter.unusedSectionVars false
set_option linter.unusedSimpArgs false
set_option linter.unusedVariables false
namespace Go.Proofs.Tp
section
variable[NB]
abbrev Gr:=List Nd
def gY(N:Gr)(f:Nat):Option (Nat×Gr):=sb (fun f _ _=> !f) N (f,f,f)
def gF(N:Gr)(f g:Nat):Option (Nat×Gr):=sb (fun f g _=>f&&g) N (f,g,g)
def qz(N:Gr)(f g:Nat):Option (Nat×Gr):=sb (fun f g _=>f||g) N (f,g,g)
def lZ(N:Gr)(f g:Nat):Option (Nat×Gr):=sb (fun f g _=>f !=g) N (f,g,g)
def np(N:Gr)(f g h:Nat):Option (Nat×Gr):=sb (fun f g h=>(f&&g)||(!f&&h)) N (f,g,h)
def nz(N:Gr)(l:Nat):Option (Nat×Gr):=let r:=qq ⟨N,false,[]⟩ l 0 1;if r.2.full=true then none else some (r.1,r.2.N)
structure st{α:Type}(N:Gr)(r:Option (α×Gr))(P:α->Gr->Prop):Prop where
 h:∀a N',r=some (a,N')->ct N'/\(∃L,N'=N++L)/\P a N'
theorem st.jX{α β:Type}{N:Gr}{r:Option (α×Gr)}{P:α->Gr->Prop}{k:α×Gr->Option (β×Gr)}{Q:β->Gr->Prop}(h:st N r P) (hk:∀a L,ct (N++L)->P a (N++L)->st (N++L) (k (a,N++L)) Q):st N (r.bind k) Q:=by refine⟨fun b N' hb=>?_⟩;obtain⟨⟨a,N1⟩,h1,h2⟩:=ab.1 hb;obtain⟨g1,⟨L,rfl⟩,p1⟩:=h.h a N1 h1;obtain⟨g2,⟨L2,rfl⟩,q⟩:=(hk a L g1 p1).h b N' h2;exact⟨g2,⟨L++L2,by rw[List.append_assoc]⟩,q⟩
theorem st.mp{α β:Type}{N:Gr}{r:Option (α×Gr)}{P:α->Gr->Prop}{k:α×Gr->β×Gr}{Q:β->Gr->Prop}(h:st N r P)(hk:∀a N',P a N'->(k (a,N')).2=N'/\Q (k (a,N')).1 N'):st N (r.map k) Q:=by refine⟨fun b N' hb=>?_⟩;obtain⟨⟨a,N1⟩,h1,h2⟩:=aa.1 hb;obtain⟨g1,g2,p1⟩:=h.h a N1 h1;obtain⟨q1,q2⟩:=hk _ _ p1;rw[h2]at q1 q2;simp only at q1 q2;subst q1;exact⟨g1,g2,q2⟩
theorem st.ok{α:Type}{N:Gr}{a:α}{P:α->Gr->Prop}(g:ct N)(h:P a N):st N (some (a,N)) P:=⟨fun b N' hb=>by injection hb with hb;injection hb with h1 h2;subst h1 h2;exact⟨g,⟨[],sm⟩,h⟩⟩
theorem st.mono{α:Type}{N:Gr}{r:Option (α×Gr)}{P Q:α->Gr->Prop}(h:st N r P)(hk:∀a L,ct (N++L)->P a (N++L)->Q a (N++L)):st N r Q:=⟨fun a N' ha=>by obtain⟨g,⟨L,rfl⟩,p⟩:=h.h a N' ha;exact⟨g,⟨L,rfl⟩,hk a L g p⟩⟩
abbrev yH:=(Nat->Bool)->Bool
abbrev pc:=(Nat->Bool)->Nat
structure hv(N:Gr)(f:Nat)(b:yH):Prop where
 l:f<N.length
 e:∀β,ev β N f=b β
theorem hv.app{N:Gr}{f:Nat}{b:yH}(h:hv N f b)(L:Gr):hv (N++L) f b:=⟨by have:=h.l;simp;omega,fun β=>by rw[fS _ _ _ h.l];exact h.e β⟩
def bN(b:Bool):Nat:=if b=true then 1 else 0
def vl(β:Nat->Bool)(N:Gr):List Nat->Nat
 |[]=>0
 |f::w=>bN (ev β N f)+2*vl β N w
structure hw(N:Gr)(w:List Nat)(v:pc):Prop where
 l:∀f∈w,f<N.length
 e:∀β,vl β N w=v β
theorem yv(β:Nat->Bool){N:Gr}(L:Gr):∀{w:List Nat},(∀f∈w,f<N.length)->vl β (N++L) w=vl β N w
 |[],_=>rfl
 |f::w,h=>by rw[vl,vl,fS _ _ _ (h f sm),yv β L (fun g hg=>h g (by simp[hg]))]
theorem hw.app{N:Gr}{w:List Nat}{v:pc}(h:hw N w v)(L:Gr):hw (N++L) w v:=⟨fun f hf=>by have:=h.l f hf;simp;omega,fun β=>by rw[yv _ _ h.l];exact h.e β⟩
theorem hw.self{N:Gr}{w:List Nat}(h:∀f∈w,f<N.length):hw N w (fun β=>vl β N w):=⟨h,fun _=>rfl⟩
theorem hv.self{N:Gr}{f:Nat}(h:f<N.length):hv N f (fun β=>ev β N f):=⟨h,fun _=>rfl⟩
theorem k7{N:Gr}(g:ct N):hv N 0 (fun _=>false):=⟨by have:=g.two;omega,fun β=>(sV β g).1⟩
theorem vQ{N:Gr}(g:ct N):hv N 1 (fun _=>true):=⟨by have:=g.two;omega,fun β=>(sV β g).2⟩
theorem sx(β:Nat->Bool)(N:Gr):∀(w:List Nat),vl β N w<2^w.length
 |[]=>by simp[vl]
 |f::w=>by
  have:=sx β N w;have hb:bN (ev β N f)<=1:=by unfold bN;split<;>omega
  rw[vl,List.length_cons,Nat.pow_succ];omega
section
variable{N:Gr}{f g h:Nat}{a b c:yH}
theorem rr{op:Bool->Bool->Bool->Bool}(G:ct N)(ha:hv N f a)(hb:hv N g b)(hc:hv N h c):st N (sb op N (f,g,h)) (fun i N'=>hv N' i (fun β=>op (a β) (b β) (c β))):=⟨fun i N' he=>by obtain⟨h1,h2,h3,h4,_⟩:=zu G ⟨ha.l,hb.l,hc.l⟩ he;exact⟨h1,h2,h3,fun β=>by rw[h4,ha.e,hb.e,hc.e]⟩⟩
theorem kx(G:ct N)(ha:hv N f a):st N (gY N f) (fun i N'=>hv N' i (fun β=> !a β)):=rr G ha ha ha
theorem jz(G:ct N)(ha:hv N f a)(hb:hv N g b):st N (gF N f g) (fun i N'=>hv N' i (fun β=>a β&&b β)):=rr G ha hb hb
theorem pY(G:ct N)(ha:hv N f a)(hb:hv N g b):st N (qz N f g) (fun i N'=>hv N' i (fun β=>a β||b β)):=rr G ha hb hb
theorem rT(G:ct N)(ha:hv N f a)(hb:hv N g b):st N (lZ N f g) (fun i N'=>hv N' i (fun β=>a β !=b β)):=rr G ha hb hb
theorem Lc(G:ct N)(ha:hv N f a)(hb:hv N g b)(hc:hv N h c):st N (np N f g h) (fun i N'=>hv N' i (fun β=>(a β&&b β)||(!a β&&c β))):=rr G ha hb hc
theorem CP(G:ct N){l:Nat}(hl:l<NB.nb):st N (nz N l) (fun i N'=>hv N' i (fun β=>β l)):=⟨fun i N' he=>by
  have h2:=G.two;obtain⟨z0,z1⟩:=G.n0;have R:=yE (op:=fun _ _ _=>false) (s:=⟨N,false,[]⟩) ⟨G,fun e=>(by cases e),fun _ p hp=>(by cases hp)⟩ (lv:=l) (lo:=0) (hi:=1) (by simp only;omega) (by simp only;omega) (Nat.lt_of_lt_of_le hl NB.le) hl (fun _=>by have:=NB.le;simp only[z0,z1];omega);unfold nz at he;simp only at he;split at he
  ·cases he
  ·rename_i hf;injection he with he;injection he with e1 e2
   subst e1 e2;obtain⟨v,p,_,i3,o⟩:=R;obtain⟨_,o1,_⟩:=o (by simpa using hf);refine⟨v.g,p,i3,fun β=>?_⟩;rw[o1,(sV β G).1,(sV β G).2];cases β l<;>rfl⟩
end
def dS(n:Nat):List Nat:=(List.range 16).map fun k=>n/2^k%2
def nK(t:Nat):List Nat:=t::List.replicate 15 0
theorem AE(β:Nat->Bool){N:Gr}(G:ct N)(n:Nat):vl β N (List.replicate n 0)=0:=by
 induction n with
 |zero=>rfl
 |succ n ih=>rw[List.replicate_succ,vl,ih,(sV β G).1];rfl
theorem Ja{N:Gr}(G:ct N){t:Nat}{b:yH}(h:hv N t b):hw N (nK t) (fun β=>bN (b β)):=by
 have h2:=G.two;refine⟨fun f hf=>?_,fun β=>?_⟩
 ·rcases aP.1 hf with rfl|hf
  ·exact h.l
  ·have:=List.eq_of_mem_replicate hf;omega
 ·rw[nK,vl,AE β G,h.e];omega
theorem FU(β:Nat->Bool){N:Gr}(G:ct N)(m:Nat):∀n,vl β N ((List.range m).map fun k=>n/2^k%2)=n%2^m:=by
 induction m with
 |zero=>intro n;simp[vl,Nat.mod_one]
 |succ m ih=>
  intro n;rw[List.range_succ_eq_map,List.map_cons,List.map_map,vl];have e:(List.map ((fun k=>n/2^k%2)∘Nat.succ) (List.range m))=(List.range m).map fun k=>(n/2)/2^k%2:=by refine List.map_congr_left fun k _=>?_;simp only[Function.comp,Nat.succ_eq_add_one,Nat.pow_succ];rw[Nat.div_div_eq_div_mul,Nat.mul_comm 2]
  rw[e,ih (n/2)];have hb:bN (ev β N (n/2^0%2))=n%2:=by
   rw[Nat.pow_zero,Nat.div_one];have:n%2=0\/n%2=1:=om;rcases this with e|e<;>rw[e]
   ·rw[(sV β G).1];rfl
   ·rw[(sV β G).2];rfl
  rw[hb];have h1:=Nat.div_add_mod (n/2) (2^m);have h2:n=2^(m+1)*(n/2/2^m)+(n%2+2*(n/2%2^m)):=by
   have h4:2^m*2*(n/2/2^m)=2*(2^m*(n/2/2^m)):=by rw[Nat.mul_comm (2^m) 2,Nat.mul_assoc]
   rw[Nat.pow_succ,h4];omega
  have h3:n/2%2^m<2^m:=Nat.mod_lt _ (Nat.two_pow_pos m);have h5:n%2^(m+1)=(2^(m+1)*(n/2/2^m)+(n%2+2*(n/2%2^m)))%2^(m+1):=congrArg (· %2^(m+1)) h2;have h6:n%2+2*(n/2%2^m)<2^(m+1):=by rw[Nat.pow_succ];omega
  rw[h5,Nat.mul_add_mod,Nat.mod_eq_of_lt h6]
theorem sE{N:Gr}(G:ct N){n:Nat}(hn:n<65536):hw N (dS n) (fun _=>n):=by
 have h2:=G.two;refine⟨fun f hf=>?_,fun β=>?_⟩
 ·obtain⟨k,_,rfl⟩:=aw.1 hf;omega
 ·rw[dS,FU β G,Nat.mod_eq_of_lt hn]
theorem jm(n:Nat):(dS n).length=16:=by simp[dS]
theorem eX(n:Nat):(nK n).length=16:=by simp[nK]
end
section
variable[NB]
def lX:List Nat->List Nat->Nat->Gr->Option (List Nat×Gr)
 |x::xs,y::ys,c,N=>
  (lZ N x y).bind fun h=>(lZ h.2 h.1 c).bind fun o=>
  if xs=[]then some ([o.1],o.2)else
  (gF o.2 x y).bind fun g=>(gF g.2 h.1 c).bind fun k=>(qz k.2 g.1 k.1).bind fun d=>(lX xs ys d.1 d.2).map fun r=>(o.1::r.1,r.2)
 |_,_,_,N=>some ([],N)
theorem fa{N:Gr}{f:Nat}{w:List Nat}{v:pc}(h:hw N (f::w) v):hv N f (fun β=>ev β N f)/\hw N w (fun β=>vl β N w)/\∀β,v β=bN (ev β N f)+2*vl β N w:=⟨hv.self (h.l f sm),hw.self fun g hg=>h.l g (by simp[hg]),fun β=>(h.e β).symm⟩
theorem pS{N:Gr}{f:Nat}{w:List Nat}{b:yH}{v u:pc}(h1:hv N f b)(h2:hw N w v)(h:∀β,u β=bN (b β)+2*v β):hw N (f::w) u:=⟨fun g hg=>by rcases aP.1 hg with rfl|hg;exact h1.l;exact h2.l g hg,fun β=>by rw[vl,h1.e,h2.e,h]⟩
theorem o8(N:Gr):hw N [] (fun _=>0):=⟨fun f hf=>(by cases hf),fun _=>rfl⟩
theorem hw.cg{N:Gr}{w:List Nat}{v u:pc}(h:hw N w v)(e:∀β,u β=v β):hw N w u:=⟨h.l,fun β=>by rw[h.e,e]⟩
theorem hv.cg{N:Gr}{f:Nat}{b c:yH}(h:hv N f b)(e:∀β,c β=b β):hv N f c:=⟨h.l,fun β=>by rw[h.e,e]⟩
theorem Gs(a b m:Nat)(hb:b<2):(b+2*(a%2^m))=(b+2*a)%2^(m+1):=by
 have h1:=Nat.div_add_mod a (2^m);have h3:a%2^m<2^m:=Nat.mod_lt _ (Nat.two_pow_pos m);have h6:b+2*(a%2^m)<2^(m+1):=by rw[Nat.pow_succ];omega
 have h4:2^(m+1)*(a/2^m)=2*(2^m*(a/2^m)):=by rw[Nat.pow_succ,Nat.mul_comm (2^m) 2,Nat.mul_assoc]
 have h2:b+2*a=2^(m+1)*(a/2^m)+(b+2*(a%2^m)):=by rw[h4];omega
 rw[h2,Nat.mul_add_mod,Nat.mod_eq_of_lt h6]
theorem CV(a b c:Bool):bN a+bN b+bN c=bN ((a !=b) !=c)+2*bN ((a&&b)||((a !=b)&&c)):=by cases a<;>cases b<;>cases c<;>rfl
theorem Au(a:Bool):bN a<2:=by cases a<;>decide
theorem pB:∀{xs ys:List Nat} {c:Nat} {N:Gr} {vx vy:pc} {bc:yH},ct N->xs.length=ys.length->hw N xs vx->hw N ys vy->hv N c bc->st N (lX xs ys c N) (fun o N'=>o.length=xs.length/\hw N' o (fun β=>(vx β+vy β+bN (bc β))%2^xs.length))
 |[],[],c,N,vx,vy,bc,G,_,hx,hy,hc=>by
  rw[lX]
  ·exact st.ok G ⟨rfl,⟨fun f hf=>(by cases hf),fun β=>by simp[vl,Nat.mod_one]⟩⟩
  ·intro _ _ _ _ _ h;cases h
 |[],_::_,_,_,_,_,_,_,hl,_,_,_=>by simp at hl
 |_::_,[],_,_,_,_,_,_,hl,_,_,_=>by simp at hl
 |x::xs,y::ys,c,N,vx,vy,bc,G,hl,hx,hy,hc=>by
  obtain⟨x1,x2,x3⟩:=fa hx;obtain⟨y1,y2,y3⟩:=fa hy;rw[lX];refine st.jX (rT G x1 y1) fun h L1 G1 H1=>?_;replace x1:=x1.app L1;replace x2:=x2.app L1;replace y1:=y1.app L1;replace y2:=y2.app L1;replace hc:=hc.app L1;refine st.jX (rT G1 H1 hc) fun o L2 G2 H2=>?_;replace x1:=x1.app L2;replace x2:=x2.app L2;replace y1:=y1.app L2;replace y2:=y2.app L2;replace hc:=hc.app L2;replace H1:=H1.app L2;dsimp only;split
  ·rename_i hxs;subst hxs;have hys:ys=[]:=aQ (by simpa using hl.symm);subst hys;refine st.ok G2 ⟨rfl,pS H2 (o8 _) fun β=>?_⟩;have:=CV (ev β N x) (ev β N y) (bc β);have hb:=Au ((ev β N x !=ev β N y) !=bc β);rw[x3,y3];simp only[vl,List.length_cons,List.length_nil];omega
  ·refine st.jX (jz G2 x1 y1) fun g L3 G3 H3=>?_;replace x2:=x2.app L3;replace y2:=y2.app L3;replace hc:=hc.app L3;replace H1:=H1.app L3;replace H2:=H2.app L3;refine st.jX (jz G3 H1 hc) fun k L4 G4 H4=>?_;replace x2:=x2.app L4;replace y2:=y2.app L4;replace H2:=H2.app L4;replace H3:=H3.app L4;refine st.jX (pY G4 H3 H4) fun d L5 G5 H5=>?_;replace x2:=x2.app L5;replace y2:=y2.app L5;replace H2:=H2.app L5;refine st.mp (P:=fun r N'=>r.length=xs.length/\hv N' o (fun β=>(ev β N x !=ev β N y) !=bc β)/\hw N' r (fun β=>(vl β N xs+vl β N ys+bN ((ev β N x&&ev β N y)||((ev β N x !=ev β N y)&&bc β)))%2^xs.length)) (st.mono (pB G5 (by simpa using hl) x2 y2 H5) fun r L6 G6 hr=>⟨hr.1,H2.app L6,hr.2⟩) fun r N' hr=>?_;obtain⟨r1,r2,r3⟩:=hr;refine⟨rfl,by simp[r1],pS r2 r3 fun β=>?_⟩;rw[x3,y3,List.length_cons,Gs _ _ _ (Au _)];have:=CV (ev β N x) (ev β N y) (bc β);congr 1;omega
def pG:List Nat->Gr->Option (List Nat×Gr)
 |[],N=>some ([],N)
 |x::xs,N=>(gY N x).bind fun r=>(pG xs r.2).map fun s=>(r.1::s.1,s.2)
theorem uB:∀{xs:List Nat} {N:Gr} {vx:pc},ct N->hw N xs vx->st N (pG xs N) (fun o N'=>o.length=xs.length/\hw N' o (fun β=>2^xs.length-1-vx β))
 |[],N,vx,G,hx=>st.ok G ⟨rfl,(o8 _).cg fun β=>sm⟩
 |x::xs,N,vx,G,hx=>by
  obtain⟨x1,x2,x3⟩:=fa hx;rw[pG];refine st.jX (kx G x1) fun h L1 G1 H1=>?_;replace x2:=x2.app L1;refine st.mp (P:=fun r N'=>r.length=xs.length/\hv N' h (fun β=> !ev β N x)/\hw N' r (fun β=>2^xs.length-1-vl β N xs)) (st.mono (uB G1 x2) fun r L6 G6 hr=>⟨hr.1,H1.app L6,hr.2⟩) fun r N' hr=>?_;obtain⟨r1,r2,r3⟩:=hr;refine⟨rfl,by simp[r1],pS r2 r3 fun β=>?_⟩;have h1:=sx β N xs;rw[x3,List.length_cons,Nat.pow_succ];have:bN (!ev β N x)+bN (ev β N x)=1:=by cases ev β N x<;>rfl
  omega
def xu(x y:List Nat)(N:Gr):Option (List Nat×Gr):=(pG y N).bind fun r=>lX x r.1 1 r.2
theorem yF{x y:List Nat}{N:Gr}{vx vy:pc}(G:ct N)(hl:x.length=y.length)(hx:hw N x vx)(hy:hw N y vy):st N (xu x y N) (fun o N'=>o.length=x.length/\hw N' o (fun β=>(vx β+(2^x.length-1-vy β)+1)%2^x.length)):=by refine st.jX (uB G hy) fun r L G1 hr=>?_;have:=pB G1 (hl.trans hr.1.symm) (hx.app L) hr.2 (vQ G1);rw[hl]at this|-;exact this
def mv:List Nat->List Nat->Nat->Gr->Option (Nat×Gr)
 |x::xs,y::ys,t,N=>(lZ N x y).bind fun h=>(gY h.2 h.1).bind fun k=>(gF k.2 t k.1).bind fun d=>mv xs ys d.1 d.2
 |_,_,t,N=>some (t,N)
theorem qQ:∀{xs ys:List Nat} {t:Nat} {N:Gr} {vx vy:pc} {b:yH},ct N->xs.length=ys.length->hw N xs vx->hw N ys vy->hv N t b->st N (mv xs ys t N) (fun o N'=>hv N' o (fun β=>b β&&decide (vx β=vy β)))
 |[],[],t,N,vx,vy,b,G,_,hx,hy,ht=>by
  rw[mv]
  ·exact st.ok G (ht.cg fun β=>by rw[<-hx.e,<-hy.e];simp[vl])
  ·intro _ _ _ _ h;cases h
 |[],_::_,_,_,_,_,_,_,hl,_,_,_=>by simp at hl
 |_::_,[],_,_,_,_,_,_,hl,_,_,_=>by simp at hl
 |x::xs,y::ys,t,N,vx,vy,b,G,hl,hx,hy,ht=>by
  obtain⟨x1,x2,x3⟩:=fa hx;obtain⟨y1,y2,y3⟩:=fa hy;rw[mv];refine st.jX (rT G x1 y1) fun h L1 G1 H1=>?_;replace x2:=x2.app L1;replace y2:=y2.app L1;replace ht:=ht.app L1;refine st.jX (kx G1 H1) fun k L2 G2 H2=>?_;replace x2:=x2.app L2;replace y2:=y2.app L2;replace ht:=ht.app L2;refine st.jX (jz G2 ht H2) fun d L3 G3 H3=>?_;replace x2:=x2.app L3;replace y2:=y2.app L3;refine st.mono (qQ G3 (by simpa using hl) x2 y2 H3) fun o L4 G4 ho=>ho.cg fun β=>?_;rw[x3,y3];cases b β
  ·simp
  ·cases ev β N x<;>cases ev β N y<;>simp[bN]<;>omega
def lN:List Nat->List Nat->Nat->Gr->Option (Nat×Gr)
 |x::xs,y::ys,t,N=>(gY N x).bind fun p=>(gF p.2 p.1 y).bind fun u=>(lZ u.2 x y).bind fun h=>(gY h.2 h.1).bind fun k=>(gF k.2 k.1 t).bind fun v=>(qz v.2 u.1 v.1).bind fun d=>lN xs ys d.1 d.2
 |_,_,t,N=>some (t,N)
theorem pF:∀{xs ys:List Nat} {t:Nat} {N:Gr} {vx vy:pc} {b:yH},ct N->xs.length=ys.length->hw N xs vx->hw N ys vy->hv N t b->st N (lN xs ys t N) (fun o N'=>hv N' o (fun β=>decide (vx β<vy β)||(b β&&decide (vx β=vy β))))
 |[],[],t,N,vx,vy,b,G,_,hx,hy,ht=>by
  rw[lN]
  ·exact st.ok G (ht.cg fun β=>by rw[<-hx.e,<-hy.e];simp[vl])
  ·intro _ _ _ _ h;cases h
 |[],_::_,_,_,_,_,_,_,hl,_,_,_=>by simp at hl
 |_::_,[],_,_,_,_,_,_,hl,_,_,_=>by simp at hl
 |x::xs,y::ys,t,N,vx,vy,b,G,hl,hx,hy,ht=>by obtain⟨x1,x2,x3⟩:=fa hx;obtain⟨y1,y2,y3⟩:=fa hy;rw[lN];refine st.jX (kx G x1) fun p L1 G1 H1=>?_;replace x1:=x1.app L1;replace x2:=x2.app L1;replace y1:=y1.app L1;replace y2:=y2.app L1;replace ht:=ht.app L1;refine st.jX (jz G1 H1 y1) fun u L2 G2 H2=>?_;replace x1:=x1.app L2;replace x2:=x2.app L2;replace y1:=y1.app L2;replace y2:=y2.app L2;replace ht:=ht.app L2;refine st.jX (rT G2 x1 y1) fun h L3 G3 H3=>?_;replace x2:=x2.app L3;replace y2:=y2.app L3;replace ht:=ht.app L3;replace H2:=H2.app L3;refine st.jX (kx G3 H3) fun k L4 G4 H4=>?_;replace x2:=x2.app L4;replace y2:=y2.app L4;replace ht:=ht.app L4;replace H2:=H2.app L4;refine st.jX (jz G4 H4 ht) fun v L5 G5 H5=>?_;replace x2:=x2.app L5;replace y2:=y2.app L5;replace H2:=H2.app L5;refine st.jX (pY G5 H2 H5) fun d L6 G6 H6=>?_;replace x2:=x2.app L6;replace y2:=y2.app L6;refine st.mono (pF G6 (by simpa using hl) x2 y2 H6) fun o L7 G7 ho=>ho.cg fun β=>?_;rw[x3,y3,Bool.eq_iff_iff];cases b β<;>cases ev β N x<;>cases ev β N y<;>simp[bN]<;>omega
end
section
variable[NB]
theorem yt(β:Nat->Bool)(N:Gr)(a b:List Nat):vl β N (a++b)=vl β N a+2^a.length*vl β N b:=by
 induction a with
 |nil=>simp[vl]
 |cons x a ih=>rw[List.cons_append,vl,vl,ih,List.length_cons,Nat.pow_succ,Nat.mul_comm (2^a.length) 2,Nat.mul_assoc];omega
theorem As(β:Nat->Bool)(N:Gr)(w:List Nat)(m:Nat)(h:m<=w.length):vl β N (w.take m)=vl β N w%2^m:=by
 have e:vl β N w=vl β N (w.take m)+2^(w.take m).length*vl β N (w.drop m):=by rw[<-yt,List.take_append_drop]
 have hl:(w.take m).length=m:=by simp;omega
 have:=sx β N (w.take m);rw[hl]at e this;rw[e,Nat.add_comm,Nat.mul_add_mod,Nat.mod_eq_of_lt this]
theorem Am(β:Nat->Bool)(N:Gr)(w:List Nat)(m:Nat)(h:m<=w.length):vl β N (w.drop m)=vl β N w/2^m:=by
 have e:vl β N w=vl β N (w.take m)+2^(w.take m).length*vl β N (w.drop m):=by rw[<-yt,List.take_append_drop]
 have hl:(w.take m).length=m:=by simp;omega
 have:=sx β N (w.take m);rw[hl]at e this;rw[e,Nat.add_mul_div_left _ _ (Nat.two_pow_pos m),Nat.div_eq_of_lt this,Nat.zero_add]
theorem hw.tk{N:Gr}{w:List Nat}{v:pc}(h:hw N w v){m:Nat}(hm:m<=w.length):hw N (w.take m) (fun β=>v β%2^m):=⟨fun f hf=>h.l f (List.mem_of_mem_take hf),fun β=>by rw[As _ _ _ _ hm,h.e]⟩
theorem hw.dp{N:Gr}{w:List Nat}{v:pc}(h:hw N w v){m:Nat}(hm:m<=w.length):hw N (w.drop m) (fun β=>v β/2^m):=⟨fun f hf=>h.l f (List.mem_of_mem_drop hf),fun β=>by rw[Am _ _ _ _ hm,h.e]⟩
theorem Ag{N:Gr}(G:ct N)(n:Nat):hw N (List.replicate n 0) (fun _=>0):=⟨fun f hf=>by have:=G.two;have:=List.eq_of_mem_replicate hf;omega,fun β=>AE β G n⟩
theorem Di{N:Gr}{a b:List Nat}{u v:pc}(h1:hw N a u)(h2:hw N b v):hw N (a++b) (fun β=>u β+2^a.length*v β):=⟨fun f hf=>by rcases aU.1 hf with h|h;exact h1.l f h;exact h2.l f h,fun β=>by rw[yt,h1.e,h2.e]⟩
def anyS:List Nat->Nat->Gr->Option (List Nat×Gr)
 |[],_,N=>some ([],N)
 |x::xs,y,N=>(gF N x y).bind fun r=>(anyS xs y r.2).map fun s=>(r.1::s.1,s.2)
theorem Dz:∀{xs:List Nat} {y:Nat} {N:Gr} {vx:pc} {b:yH},ct N->hw N xs vx->hv N y b->st N (anyS xs y N) (fun o N'=>o.length=xs.length/\hw N' o (fun β=>vx β*bN (b β)))
 |[],y,N,vx,b,G,hx,hy=>st.ok G ⟨rfl,(o8 _).cg fun β=>by rw[<-hx.e];simp[vl]⟩
 |x::xs,y,N,vx,b,G,hx,hy=>by obtain⟨x1,x2,x3⟩:=fa hx;rw[anyS];refine st.jX (jz G x1 hy) fun h L1 G1 H1=>?_;replace x2:=x2.app L1;replace hy:=hy.app L1;refine st.mp (P:=fun r N'=>r.length=xs.length/\hv N' h (fun β=>ev β N x&&b β)/\hw N' r (fun β=>vl β N xs*bN (b β))) (st.mono (Dz G1 x2 hy) fun r L6 G6 hr=>⟨hr.1,H1.app L6,hr.2⟩) fun r N' hr=>?_;obtain⟨r1,r2,r3⟩:=hr;refine⟨rfl,by simp[r1],pS r2 r3 fun β=>?_⟩;rw[x3];cases b β<;>cases ev β N x<;>simp[bN]
def ue(x:List Nat):List Nat->Nat->List Nat->Gr->Option (List Nat×Gr)
 |[],_,s,N=>some (s,N)
 |y::ys,k,s,N=>(anyS (x.take (16-k)) y N).bind fun p=>(lX s (List.replicate k 0++p.1) 0 p.2).bind fun r=>ue x ys (k+1) r.1 r.2
theorem EP(a k:Nat)(h:k<=16):2^k*(a%2^(16-k))%2^16=2^k*a%2^16:=by
 have e:(2:Nat)^16=2^k*2^(16-k):=by rw[<-Nat.pow_add];congr 1;omega
 rw[e,Nat.mul_mod_mul_left,Nat.mul_mod_mul_left,Nat.mod_mod]
theorem CH:∀{ys:List Nat} {k:Nat} {x s:List Nat} {N:Gr} {vx vy vs:pc},ct N->x.length=16->s.length=16->ys.length+k=16->hw N x vx->hw N ys vy->hw N s vs->st N (ue x ys k s N) (fun o N'=>o.length=16/\hw N' o (fun β=>(vs β+2^k*(vx β*vy β))%2^16))
 |[],k,x,s,N,vx,vy,vs,G,hx,hs,hk,Hx,Hy,Hs=>st.ok G ⟨hs,Hs.cg fun β=>by have:=sx β N s;rw[hs,Hs.e]at this;rw[<-Hy.e,vl,Nat.mul_zero,Nat.mul_zero,Nat.add_zero,Nat.mod_eq_of_lt this]⟩
 |y::ys,k,x,s,N,vx,vy,vs,G,hx,hs,hk,Hx,Hy,Hs=>by
  obtain⟨y1,y2,y3⟩:=fa Hy;rw[List.length_cons]at hk;rw[ue];refine st.jX (Dz G (Hx.tk (m:=16-k) om) y1) fun p L1 G1 H1=>?_;replace y2:=y2.app L1;replace Hx:=Hx.app L1;replace Hs:=Hs.app L1;obtain⟨p1,p2⟩:=H1;rw[List.length_take,hx,Nat.min_eq_left om]at p1;have hp:(List.replicate k 0++p).length=16:=by simp[p1];omega
  refine st.jX (pB G1 (hs.trans hp.symm) Hs (Di (Ag G1 k) p2) (k7 G1)) fun r L2 G2 H2=>?_;replace y2:=y2.app L2;replace Hx:=Hx.app L2;obtain⟨r1,r2⟩:=H2;rw[hs]at r1 r2;refine st.mono (CH G2 hx r1 om Hx y2 r2) fun o L3 G3 ho=>⟨ho.1,ho.2.cg fun β=>?_⟩;rw[y3];simp only[List.length_replicate,bN,Bool.false_eq_true,if_false,Nat.add_zero,Nat.zero_add];generalize vl β N ys=Y;generalize vx β=X;generalize vs β=S;have h1:=EP X k om;have hpw:2^(k+1)*(X*Y)=2^k*(X*(2*Y)):=by rw[Nat.pow_succ,Nat.mul_assoc,Nat.mul_left_comm 2 X Y]
  rw[hpw,Nat.mul_add X,Nat.mul_add (2^k),<-Nat.add_assoc,Nat.add_mod (S+_) _ (2^16),Nat.add_mod (_%2^16) _ (2^16),Nat.mod_mod];have h2:(S+2^k*(X%2^(16-k)*(if ev β N y=true then 1 else 0)))%2^16=(S+2^k*(X*(if ev β N y=true then 1 else 0)))%2^16:=by
   split
   ·rw[Nat.mul_one,Nat.mul_one,Nat.add_mod,h1,<-Nat.add_mod]
   ·simp
  rw[h2,Nat.mod_mod,<-Nat.add_mod,Nat.mod_add_mod]
def km(op:Gr->Nat->Nat->Option (Nat×Gr)):List Nat->List Nat->Gr->Option (List Nat×Gr)
 |x::xs,y::ys,N=>(op N x y).bind fun r=>(km op xs ys r.2).map fun s=>(r.1::s.1,s.2)
 |_,_,N=>some ([],N)
def comb(bo:Bool->Bool->Bool):Nat->Nat->Nat->Nat
 |0,_,_=>0
 |n+1,a,b=>bN (bo (decide (a%2=1)) (decide (b%2=1)))+2*comb bo n (a/2) (b/2)
theorem nX(a:Bool)(m:Nat):decide ((bN a+2*m)%2=1)=a/\(bN a+2*m)/2=m:=by
 cases a
 ·simp[bN]
 ·simp only[bN,if_true];exact⟨by rw[aj];omega,om⟩
theorem si{op:Gr->Nat->Nat->Option (Nat×Gr)}{bo:(Nat->Bool)->Bool->Bool->Bool}{T:Gr->Prop}(hT:∀N L,T N->T (N++L))(hop:∀{N f g a b},ct N->T N->hv N f a->hv N g b->st N (op N f g) (fun i N'=>hv N' i (fun β=>bo β (a β) (b β)))):∀{xs ys:List Nat} {N:Gr} {vx vy:pc},ct N->T N->xs.length=ys.length->hw N xs vx->hw N ys vy->st N (km op xs ys N) (fun o N'=>o.length=xs.length/\hw N' o (fun β=>comb (bo β) xs.length (vx β) (vy β)))
 |[],[],N,vx,vy,G,t,_,hx,hy=>by
  rw[km]
  ·exact st.ok G ⟨rfl,o8 _⟩
  ·intro _ _ _ _ h;cases h
 |[],_::_,_,_,_,_,_,hl,_,_=>by simp at hl
 |_::_,[],_,_,_,_,_,hl,_,_=>by simp at hl
 |x::xs,y::ys,N,vx,vy,G,t,hl,hx,hy=>by obtain⟨x1,x2,x3⟩:=fa hx;obtain⟨y1,y2,y3⟩:=fa hy;rw[km];refine st.jX (hop G t x1 y1) fun h L1 G1 H1=>?_;replace x2:=x2.app L1;replace y2:=y2.app L1;refine st.mp (P:=fun r N'=>r.length=xs.length/\hv N' h (fun β=>bo β (ev β N x) (ev β N y))/\hw N' r (fun β=>comb (bo β) xs.length (vl β N xs) (vl β N ys))) (st.mono (si hT hop G1 (hT _ _ t) (by simpa using hl) x2 y2) fun r L6 G6 hr=>⟨hr.1,H1.app L6,hr.2⟩) fun r N' hr=>?_;obtain⟨r1,r2,r3⟩:=hr;refine⟨rfl,by simp[r1],pS r2 r3 fun β=>?_⟩;rw[x3,y3,List.length_cons,comb,(nX _ _).1,(nX _ _).1,(nX _ _).2,(nX _ _).2]
theorem mV(bo:Bool->Bool->Bool)(h0:bo false false=false):∀(n a b i:Nat),a<2^n->b<2^n->(comb bo n a b).testBit i=bo (a.testBit i) (b.testBit i)
 |0,a,b,i,ha,hb=>by
  have:a=0:=by simpa using ha
  have:b=0:=by simpa using hb
  subst a b;simp[comb,h0]
 |n+1,a,b,i,ha,hb=>by
  rw[comb];rw[Nat.pow_succ]at ha hb;cases i with
  |zero=>rw[Nat.testBit_zero,(nX _ _).1,Nat.testBit_zero,Nat.testBit_zero]
  |succ i=>rw[Nat.testBit_succ,(nX _ _).2,Nat.testBit_succ,Nat.testBit_succ];exact mV bo h0 n _ _ i om om
theorem Du{n a b:Nat}(ha:a<2^n)(hb:b<2^n):comb (· && ·) n a b=a&&&b:=Nat.eq_of_testBit_eq fun i=>by rw[mV _ rfl n a b i ha hb,Nat.testBit_and]
theorem GQ{n a b:Nat}(ha:a<2^n)(hb:b<2^n):comb (· || ·) n a b=a|||b:=Nat.eq_of_testBit_eq fun i=>by rw[mV _ rfl n a b i ha hb,Nat.testBit_or]
theorem Ed{n a b:Nat}(ha:a<2^n)(hb:b<2^n):comb (· != ·) n a b=a^^^b:=Nat.eq_of_testBit_eq fun i=>by rw[mV _ rfl n a b i ha hb,Nat.testBit_xor]
theorem zU(t:Bool):∀{n a b:Nat},a<2^n->b<2^n->comb (fun x y=>(t&&x)||(!t&&y)) n a b=if t=true then a else b
 |0,a,b,ha,hb=>by simp at ha hb;subst ha hb;simp[comb]
 |n+1,a,b,ha,hb=>by
  rw[Nat.pow_succ]at ha hb;rw[comb,zU t om om];cases t
  ·have:bN (decide (b%2=1))=b%2:=by have:b%2=0\/b%2=1:=om;rcases this with e|e<;>rw[e]<;>rfl
   simp[this];omega
  ·have:bN (decide (a%2=1))=a%2:=by have:a%2=0\/a%2=1:=om;rcases this with e|e<;>rw[e]<;>rfl
   simp[this];omega
end
section
variable[NB]
def nN:List Nat->List (Option Nat)->Nat->Gr->Option (List Nat×Gr)
 |o::os,some f::fs,t,N=>(gF N t f).bind fun a=>(qz a.2 o a.1).bind fun b=>(nN os fs t b.2).map fun s=>(b.1::s.1,s.2)
 |o::os,none::fs,t,N=>(nN os fs t N).map fun s=>(o::s.1,s.2)
 |_,_,_,N=>some ([],N)
def qd(β:Nat->Bool)(N:Gr):List (Option Nat)->Nat
 |[]=>0
 |some f::w=>bN (ev β N f)+2*qd β N w
 |none::w=>2*qd β N w
structure ho(N:Gr)(w:List (Option Nat))(v:pc):Prop where
 l:∀f,some f∈w->f<N.length
 e:∀β,qd β N w=v β
theorem vF(β:Nat->Bool){N:Gr}(L:Gr):∀{w:List (Option Nat)},(∀f,some f∈w->f<N.length)->qd β (N++L) w=qd β N w
 |[],_=>rfl
 |some f::w,h=>by rw[qd,qd,fS _ _ _ (h f sm),vF β L (fun g hg=>h g (by simp[hg]))]
 |none::w,h=>by rw[qd,qd,vF β L (fun g hg=>h g (by simp[hg]))]
theorem ho.app{N:Gr}{w:List (Option Nat)}{v:pc}(h:ho N w v)(L:Gr):ho (N++L) w v:=⟨fun f hf=>by have:=h.l f hf;simp;omega,fun β=>by rw[vF _ _ h.l];exact h.e β⟩
theorem vG:∀{os:List Nat} {fs:List (Option Nat)} {t:Nat} {N:Gr} {vx vf:pc} {b:yH},ct N->os.length=fs.length->hw N os vx->ho N fs vf->hv N t b->(∀β,b β=true->vx β=0)->st N (nN os fs t N) (fun o N'=>o.length=os.length/\hw N' o (fun β=>if b β=true then vf β else vx β))
 |[],[],t,N,vx,vf,b,G,_,hx,hf,ht,hz=>by
  rw[nN]
  ·exact st.ok G ⟨rfl,(o8 _).cg fun β=>by rw[<-hx.e,<-hf.e];simp[vl,qd]⟩
  ·intro _ _ _ _ h;cases h
  ·intro _ _ _ h;cases h
 |[],_::_,_,_,_,_,_,_,hl,_,_,_,_=>by simp at hl
 |_::_,[],_,_,_,_,_,_,hl,_,_,_,_=>by simp at hl
 |o::os,some f::fs,t,N,vx,vf,b,G,hl,hx,hf,ht,hz=>by
  obtain⟨x1,x2,x3⟩:=fa hx;have f1:hv N f (fun β=>ev β N f):=hv.self (hf.l f sm);have f2:ho N fs (fun β=>qd β N fs):=⟨fun g hg=>hf.l g (by simp[hg]),fun _=>rfl⟩;have f3:∀β,vf β=bN (ev β N f)+2*qd β N fs:=fun β=>(hf.e β).symm;have hz2:∀β,b β=true->bN (ev β N o)=0/\vl β N os=0:=fun β hb=>by have:=hz β hb;rw[x3]at this;omega
  rw[nN];refine st.jX (jz G ht f1) fun a L1 G1 H1=>?_;replace x1:=x1.app L1;replace x2:=x2.app L1;replace f2:=f2.app L1;replace ht:=ht.app L1;refine st.jX (pY G1 x1 H1) fun c L2 G2 H2=>?_;replace x2:=x2.app L2;replace f2:=f2.app L2;replace ht:=ht.app L2;refine st.mp (P:=fun r N'=>r.length=os.length/\hv N' c (fun β=>ev β N o||(b β&&ev β N f))/\hw N' r (fun β=>if b β=true then qd β N fs else vl β N os)) (st.mono (vG G2 (by simpa using hl) x2 f2 ht fun β hb=>(hz2 β hb).2) fun r L6 G6 hr=>⟨hr.1,H2.app L6,hr.2⟩) fun r N' hr=>?_;obtain⟨r1,r2,r3⟩:=hr;refine⟨rfl,by simp[r1],pS r2 r3 fun β=>?_⟩;rw[x3,f3];cases hb:b β with
  |false=>simp
  |true=>
   have:=(hz2 β hb).1;have h0:ev β N o=false:=by cases h:ev β N o with|false=>rfl|true=>rw[h]at this;simp[bN]at this
   simp[h0]
 |o::os,none::fs,t,N,vx,vf,b,G,hl,hx,hf,ht,hz=>by
  obtain⟨x1,x2,x3⟩:=fa hx;have f2:ho N fs (fun β=>qd β N fs):=⟨fun g hg=>hf.l g (by simp[hg]),fun _=>rfl⟩;have f3:∀β,vf β=2*qd β N fs:=fun β=>(hf.e β).symm;have hz2:∀β,b β=true->bN (ev β N o)=0/\vl β N os=0:=fun β hb=>by have:=hz β hb;rw[x3]at this;omega
  rw[nN];refine st.mp (P:=fun r N'=>r.length=os.length/\hv N' o (fun β=>ev β N o)/\hw N' r (fun β=>if b β=true then qd β N fs else vl β N os)) (st.mono (vG G (by simpa using hl) x2 f2 ht fun β hb=>(hz2 β hb).2) fun r L6 G6 hr=>⟨hr.1,x1.app L6,hr.2⟩) fun r N' hr=>?_;obtain⟨r1,r2,r3⟩:=hr;refine⟨rfl,by simp[r1],pS r2 r3 fun β=>?_⟩;rw[x3,f3];cases hb:b β with
  |false=>simp
  |true=>simp[(hz2 β hb).1]
def wy(x:List Nat)(left:Bool)(s:Nat):List (Option Nat):=if left=true then List.replicate s none++(x.take (16-s)).map some else(x.drop s).map some++List.replicate s none
theorem xn(β:Nat->Bool)(N:Gr)(w:List Nat):qd β N (w.map some)=vl β N w:=by
 induction w with
 |nil=>rfl
 |cons x w ih=>rw[List.map_cons,qd,vl,ih]
theorem ru(β:Nat->Bool)(N:Gr)(w:List (Option Nat)):∀n,qd β N (List.replicate n none++w)=2^n*qd β N w
 |0=>by simp
 |n+1=>by rw[List.replicate_succ,List.cons_append,qd,ru β N w n,Nat.pow_succ,Nat.mul_comm (2^n) 2,Nat.mul_assoc]
theorem IB(β:Nat->Bool)(N:Gr)(w:List (Option Nat))(n:Nat):qd β N (w++List.replicate n none)=qd β N w:=by
 induction w with
 |nil=>have:=ru β N [] n;simpa[qd]using this
 |cons x w ih=>cases x<;>rw[List.cons_append,qd,qd,ih]
def BF(left:Bool)(a n:Nat):Nat:=if 16<=n then 0 else if left=true then 2^n*a%2^16 else a/2^n
theorem D0{N:Gr}{x:List Nat}{vx:pc}(hx:hw N x vx)(hl:x.length=16)(left:Bool){s:Nat}(hs:s<16):ho N (wy x left s) (fun β=>BF left (vx β) s)/\(wy x left s).length=16:=by
 have e:(2:Nat)^16=2^s*2^(16-s):=by rw[<-Nat.pow_add];congr 1;omega
 unfold wy;cases left with
 |true=>
  simp only[if_true];refine⟨⟨fun f hf=>?_,fun β=>?_⟩,by simp[hl];omega⟩
  ·have hf:some f∈(x.take (16-s)).map some:=by
    rcases aU.1 hf with h|h
    ·have:=List.eq_of_mem_replicate h;cases this
    ·exact h
   obtain⟨g,hg,e⟩:=aw.1 hf;injection e with e;subst e
   exact hx.l _ (List.mem_of_mem_take hg)
  ·rw[ru,xn,As _ _ _ _ om,hx.e,BF,if_neg om,if_pos rfl,e,Nat.mul_mod_mul_left]
 |false=>
  simp only[Bool.false_eq_true,if_false];refine⟨⟨fun f hf=>?_,fun β=>?_⟩,by simp[hl];omega⟩
  ·have hf:some f∈(x.drop s).map some:=by
    rcases aU.1 hf with h|h
    ·exact h
    ·have:=List.eq_of_mem_replicate h;cases this
   obtain⟨g,hg,e⟩:=aw.1 hf;injection e with e;subst e
   exact hx.l _ (List.mem_of_mem_drop hg)
  ·rw[IB,xn,Am _ _ _ _ om,hx.e,BF,if_neg om,if_neg dc]
def yI(x y:List Nat)(left:Bool):Nat->Nat->List Nat->Gr->Option (List Nat×Gr)
 |0,_,out,N=>some (out,N)
 |n+1,s,out,N=>(mv y (dS s) 1 N).bind fun t=>(nN out (wy x left s) t.1 t.2).bind fun r=>yI x y left n (s+1) r.1 r.2
theorem DI(left:Bool):∀{n s:Nat} {x y out:List Nat} {N:Gr} {vx vy:pc},ct N->n+s=16->x.length=16->y.length=16->out.length=16->hw N x vx->hw N y vy->hw N out (fun β=>if vy β<s then BF left (vx β) (vy β)else 0)->st N (yI x y left n s out N) (fun o N'=>o.length=16/\hw N' o (fun β=>BF left (vx β) (vy β)))
 |0,s,x,y,out,N,vx,vy,G,hn,lx,ly,lo,hx,hy,hO=>st.ok G ⟨lo,hO.cg fun β=>by
  split
  ·rfl
  ·rw[BF,if_pos om]⟩
 |n+1,s,x,y,out,N,vx,vy,G,hn,lx,ly,lo,hx,hy,hO=>by
  rw[yI];refine st.jX (qQ G (by rw[ly,jm]) hy (sE G (n:=s) om) (vQ G)) fun t L1 G1 H1=>?_;replace hx:=hx.app L1;replace hy:=hy.app L1;replace hO:=hO.app L1;obtain⟨s1,s2⟩:=D0 hx lx left (s:=s) om;refine st.jX (vG G1 (lo.trans s2.symm) hO s1 H1 fun β hb=>?_) fun r L2 G2 H2=>?_
  ·simp at hb;rw[if_neg om]
  replace hx:=hx.app L2;replace hy:=hy.app L2;refine DI left G2 om lx ly (H2.1.trans lo) hx hy (H2.2.cg fun β=>?_);simp only[Bool.true_and,aj];by_cases h:vy β=s
  ·rw[if_pos om,if_pos h,h]
  ·rw[if_neg h];by_cases h2:vy β<s
   ·rw[if_pos om,if_pos h2]
   ·rw[if_neg om,if_neg h2]
def EL(x y:List Nat)(left:Bool)(N:Gr):Option (List Nat×Gr):=yI x y left 16 0 (dS 0) N
theorem zo{left:Bool}{x y:List Nat}{N:Gr}{vx vy:pc}(G:ct N)(lx:x.length=16)(ly:y.length=16)(hx:hw N x vx)(hy:hw N y vy):st N (EL x y left N) (fun o N'=>o.length=16/\hw N' o (fun β=>BF left (vx β) (vy β))):=DI left G rfl lx ly (jm 0) hx hy ((sE G om).cg fun β=>sm)
def r7:List Nat->List Nat->Gr->Option (List Nat×Gr)
 |[],s,N=>some (s,N)
 |f::fs,s,N=>(lX s (nK f) 0 N).bind fun r=>r7 fs r.1 r.2
def pop(n a:Nat):Nat:=match n with
 |0=>0
 |n+1=>a%2+pop n (a/2)
theorem yQ:∀{fs s:List Nat} {N:Gr} {vx vs:pc},ct N->s.length=16->hw N fs vx->hw N s vs->st N (r7 fs s N) (fun o N'=>o.length=16/\hw N' o (fun β=>(vs β+pop fs.length (vx β))%2^16))
 |[],s,N,vx,vs,G,hs,hx,Hs=>st.ok G ⟨hs,Hs.cg fun β=>by have:=sx β N s;rw[hs,Hs.e]at this;rw[List.length_nil,pop,Nat.add_zero,Nat.mod_eq_of_lt this]⟩
 |f::fs,s,N,vx,vs,G,hs,hx,Hs=>by
  obtain⟨x1,x2,x3⟩:=fa hx;rw[r7];refine st.jX (pB G (hs.trans (eX f).symm) Hs (Ja G x1) (k7 G)) fun r L1 G1 H1=>?_;replace x2:=x2.app L1;obtain⟨r1,r2⟩:=H1;rw[hs]at r1 r2;refine st.mono (yQ G1 r1 x2 r2) fun o L2 G2 ho=>⟨ho.1,ho.2.cg fun β=>?_⟩;rw[x3,List.length_cons,pop,(nX _ _).2,Nat.mod_add_mod];have:(bN (ev β N f)+2*vl β N fs)%2=bN (ev β N f):=by have:=Au (ev β N f);omega
  rw[this];simp only[bN,Bool.false_eq_true,if_false];congr 1;omega
def oy(x:List Nat):List (List Nat)->Nat->Gr->Option (Nat×Gr)
 |lo::hi::r,t,N=>(lN x lo 0 N).bind fun a=>(gY a.2 a.1).bind fun n=>(lN hi x 0 n.2).bind fun b=>(gY b.2 b.1).bind fun q=>(gF q.2 n.1 q.1).bind fun m=>(qz m.2 t m.1).bind fun d=>oy x r d.1 d.2
 |_,t,N=>some (t,N)
def KO(x:Nat):List Nat->Bool
 |lo::hi::r=>(decide (lo<=x)&&decide (x<=hi))||KO x r
 |_=>false
def FL(β:Nat->Bool)(N:Gr)(l:List (List Nat)):List Nat:=l.map (vl β N)
structure qg(N:Gr)(l:List (List Nat))(v:(Nat->Bool)->List Nat):Prop where
 ll:∀w∈l,w.length=16/\∀f∈w,f<N.length
 ee:∀β,FL β N l=v β
theorem qg.app{N:Gr}{l:List (List Nat)}{v:(Nat->Bool)->List Nat}(h:qg N l v)(L:Gr):qg (N++L) l v:=⟨fun w hw=>⟨(h.ll w hw).1,fun f hf=>by have:=(h.ll w hw).2 f hf;simp;omega⟩,fun β=>by rw[<-h.ee];exact List.map_congr_left fun w hw=>yv β L (h.ll w hw).2⟩
theorem Cw:∀{l:List (List Nat)} {x:List Nat} {t:Nat} {N:Gr} {vx:pc} {vb:(Nat->Bool)->List Nat} {b:yH},ct N->x.length=16->hw N x vx->qg N l vb->hv N t b->st N (oy x l t N) (fun o N'=>hv N' o (fun β=>b β||KO (vx β) (vb β)))
 |[],x,t,N,vx,vb,b,G,lx,hx,hl,ht=>by
  rw[oy]
  ·exact st.ok G (ht.cg fun β=>by rw[<-hl.ee];simp[FL,KO])
  ·intro _ _ _ h;cases h
 |[w],x,t,N,vx,vb,b,G,lx,hx,hl,ht=>by
  rw[oy]
  ·exact st.ok G (ht.cg fun β=>by rw[<-hl.ee];simp[FL,KO])
  ·intro _ _ _ h;cases h
 |lo::hi::r,x,t,N,vx,vb,b,G,lx,hx,hl,ht=>by
  have o1:hw N lo (fun β=>vl β N lo):=hw.self (hl.ll lo sm).2;have i1:hw N hi (fun β=>vl β N hi):=hw.self (hl.ll hi sm).2;have r1:qg N r (fun β=>FL β N r):=⟨fun w hw=>hl.ll w (by simp[hw]),fun _=>rfl⟩;have e1:∀β,vb β=vl β N lo::vl β N hi::FL β N r:=fun β=>(hl.ee β).symm;have l1:=(hl.ll lo sm).1;have l2:=(hl.ll hi sm).1;rw[oy];refine st.jX (pF G (lx.trans l1.symm) hx o1 (k7 G)) fun a L1 G1 H1=>?_;replace hx:=hx.app L1;replace i1:=i1.app L1;replace r1:=r1.app L1;replace ht:=ht.app L1;refine st.jX (kx G1 H1) fun n L2 G2 H2=>?_;replace hx:=hx.app L2;replace i1:=i1.app L2;replace r1:=r1.app L2;replace ht:=ht.app L2;refine st.jX (pF G2 (l2.trans lx.symm) i1 hx (k7 G2)) fun c L3 G3 H3=>?_;replace hx:=hx.app L3;replace r1:=r1.app L3;replace ht:=ht.app L3;replace H2:=H2.app L3;refine st.jX (kx G3 H3) fun q L4 G4 H4=>?_;replace hx:=hx.app L4;replace r1:=r1.app L4;replace ht:=ht.app L4;replace H2:=H2.app L4;refine st.jX (jz G4 H2 H4) fun m L5 G5 H5=>?_;replace hx:=hx.app L5;replace r1:=r1.app L5;replace ht:=ht.app L5;refine st.jX (pY G5 ht H5) fun d L6 G6 H6=>?_;replace hx:=hx.app L6;replace r1:=r1.app L6;refine st.mono (Cw G6 lx hx r1 H6) fun o L7 G7 ho=>ho.cg fun β=>?_;rw[e1,KO];simp only[Bool.false_and,Bool.or_false];have q:∀a b:Nat,(!decide (a<b))=decide (b<=a):=fun a b=>by rw[<-ah];exact decide_eq_decide.2 om
  rw[q,q,Bool.or_assoc]
def lL:List Nat->Nat->Gr->Option (Nat×Gr)
 |[],t,N=>some (t,N)
 |f::w,t,N=>(qz N t f).bind fun r=>lL w r.1 r.2
theorem nJ:∀{w:List Nat} {t:Nat} {N:Gr} {vx:pc} {b:yH},ct N->hw N w vx->hv N t b->st N (lL w t N) (fun o N'=>hv N' o (fun β=>b β||decide (vx β≠0)))
 |[],t,N,vx,b,G,hx,ht=>st.ok G (ht.cg fun β=>by rw[<-hx.e];simp[vl])
 |f::w,t,N,vx,b,G,hx,ht=>by obtain⟨x1,x2,x3⟩:=fa hx;rw[lL];refine st.jX (pY G ht x1) fun r L1 G1 H1=>?_;replace x2:=x2.app L1;refine st.mono (nJ G1 x2 H1) fun o L7 G7 ho=>ho.cg fun β=>?_;rw[x3];cases b β<;>cases ev β N f<;>simp[bN]<;>omega
def vd(l:Nat):Nat->Gr->Option (List Nat×Gr)
 |0,N=>some ([],N)
 |n+1,N=>(nz N (l+n)).bind fun r=>(vd l n r.2).map fun s=>(r.1::s.1,s.2)
def lA(β:Nat->Bool)(l:Nat):Nat->Nat
 |0=>0
 |n+1=>bN (β (l+n))+2*lA β l n
theorem FB:∀{n l:Nat} {N:Gr},ct N->l+n<=NB.nb->st N (vd l n N) (fun o N'=>o.length=n/\hw N' o (fun β=>lA β l n))
 |0,l,N,G,h=>st.ok G ⟨rfl,o8 _⟩
 |n+1,l,N,G,h=>by rw[vd];refine st.jX (CP G (l:=l+n) om) fun r L1 G1 H1=>?_;refine st.mp (P:=fun s N'=>s.length=n/\hv N' r (fun β=>β (l+n))/\hw N' s (fun β=>lA β l n)) (st.mono (FB G1 om) fun s L6 G6 hr=>⟨hr.1,H1.app L6,hr.2⟩) fun s N' hr=>?_;obtain⟨r1,r2,r3⟩:=hr;exact⟨rfl,by simp[r1],pS r2 r3 fun β=>rfl⟩
end
section
variable[NB]
theorem Rd(a b:Int):ek 7 a b=eW (eW a+eW b):=rfl
theorem QW(a b:Int):ek 8 a b=eW (eW a-eW b):=rfl
theorem Q6(a b:Int):ek 9 a b=eW (eW a*eW b):=rfl
theorem Qa(a b:Int):ek 10 a b=uL a b:=rfl
theorem PD(a b:Int):ek 11 a b=GY a b:=rfl
theorem PJ(a b:Int):ek 12 a b=uU a b:=rfl
theorem Qb(a b:Int):ek 13 a b=y4 a b:=rfl
theorem P6(a b:Int):ek 14 a b=qm a b:=rfl
theorem PR(a b:Int):ek 15 a b=tC (decide (a=b)):=rfl
theorem Qr(a b:Int):ek 16 a b=tC (!decide (a=b)):=rfl
theorem Qs(a b:Int):ek 17 a b=tC (decide (a<b)):=rfl
theorem Qw(a b:Int):ek 18 a b=tC (decide (a<=b)):=rfl
theorem PZ(a b:Int):ek 19 a b=tC (!decide (a=0)&& !decide (b=0)):=rfl
theorem PX(a b:Int):ek 20 a b=tC (!decide (a=0)|| !decide (b=0)):=rfl
theorem P9(a b:Int):ek 21 a b=tC (decide (a=0)|| !decide (b=0)):=rfl
def kJ(r:Option (Nat×Gr)):Option (List Nat×Gr):=r.map fun x=>(nK x.1,x.2)
def BA(op:Int)(x y:List Nat)(N:Gr):Option (List Nat×Gr):=(lL x 0 N).bind fun s=>(lL y 0 s.2).bind fun t=>if op=19 then kJ (gF t.2 s.1 t.1)else if op=20 then kJ (qz t.2 s.1 t.1)else(gY t.2 s.1).bind fun n=>kJ (qz n.2 n.1 t.1)
def AW(op:Int)(x y:List Nat)(N:Gr):Option (List Nat×Gr):=if op=15 then kJ (mv x y 1 N)else if op=16 then(mv x y 1 N).bind fun r=>kJ (gY r.2 r.1)else if op=17 then kJ (lN x y 0 N)else(lN y x 0 N).bind fun r=>kJ (gY r.2 r.1)
def ko(op:Int)(x y:List Nat)(N:Gr):Option (List Nat×Gr):=if op=7 then lX x y 0 N else if op=8 then xu x y N else if op=9 then ue x y 0 (dS 0) N else if op=10 then km gF x y N else if op=11 then km qz x y N else if op=12 then km lZ x y N else if op=13 then EL x y true N else if op=14 then EL x y false N else if op=19\/op=20\/op=21 then BA op x y N else AW op x y N
def rP(op:Int)(l:List (List Nat))(N:Gr):Option (List Nat×Gr):=if op=4 then(lL (l[0]?.getD []) 0 N).bind fun t=>kJ (gY t.2 t.1)else if op=5 then pG (l[0]?.getD []) N else if op=6 then xu (dS 0) (l[0]?.getD []) N else if op=25 then r7 (l[0]?.getD []) (dS 0) N else if op=23 then kJ (oy (l[0]?.getD []) l.tail 0 N)else if op=22 then(lL (l[0]?.getD []) 0 N).bind fun t=>km (fun N f g=>np N t.1 f g) (l[1]?.getD []) (l[2]?.getD []) t.2 else ko op (l[0]?.getD []) (l[1]?.getD []) N
theorem lz{N:Gr}{r:Option (Nat×Gr)}{b:yH}{v:pc}(h:st N r (fun o N'=>hv N' o b))(e:∀β,v β=bN (b β)):st N (kJ r) (fun o N'=>o.length=16/\hw N' o v):=⟨fun a N' ha=>by
  obtain⟨⟨o,N1⟩,h1,h2⟩:=aa.1 ha;injection h2 with h2 h3
  subst h2 h3;obtain⟨g1,g2,p1⟩:=h.h o N1 h1;exact⟨g1,g2,eX _,(Ja g1 p1).cg e⟩⟩
theorem lP(b:Bool):(tC b).toNat=bN b:=by cases b<;>rfl
theorem j7{a:Nat}(h:a<65536):eW (a:Int)=a:=by unfold eW;omega
section
variable{N:Gr}{x y:List Nat}{vx vy:pc}
theorem Fi(h:hw N x vx)(l:x.length=16)(β:Nat->Bool):vx β<65536:=by have:=sx β N x;rw[l,h.e]at this;exact this
theorem Mo{op:Int}(G:ct N)(hx:hw N x vx)(hy:hw N y vy)(ho:op=19\/op=20\/op=21):st N (BA op x y N) (fun o N'=>o.length=16/\hw N' o (fun β=>(ek op (vx β) (vy β)).toNat)):=by
 have e:∀(a:Nat),(!decide ((a:Int)=0))=decide (a≠0):=fun a=>by rw[<-ah];exact decide_eq_decide.2 om
 have e2:∀(a:Nat),decide ((a:Int)=0)= !decide (a≠0):=fun a=>by rw[<-ah];exact decide_eq_decide.2 om
 unfold BA;refine st.jX (nJ G hx (k7 G)) fun s L1 G1 H1=>?_;replace hy:=hy.app L1;refine st.jX (nJ G1 hy (k7 G1)) fun t L2 G2 H2=>?_;replace H1:=H1.app L2;dsimp only;rcases ho with rfl|rfl|rfl
 ·rw[if_pos rfl];refine lz (jz G2 H1 H2) fun β=>?_;rw[PZ,lP,e,e,Bool.false_or,Bool.false_or]
 ·rw[if_neg dc,if_pos rfl];refine lz (pY G2 H1 H2) fun β=>?_;rw[PX,lP,e,e,Bool.false_or,Bool.false_or]
 ·rw[if_neg dc,if_neg dc];refine st.jX (kx G2 H1) fun n L3 G3 H3=>?_;refine lz (pY G3 H3 (H2.app L3)) fun β=>?_;rw[P9,lP,e2,e2,Bool.false_or,Bool.false_or,Bool.not_not]
theorem JX{op:Int}(G:ct N)(hl:x.length=y.length)(hx:hw N x vx)(hy:hw N y vy)(ho:op=15\/op=16\/op=17\/op=18):st N (AW op x y N) (fun o N'=>o.length=16/\hw N' o (fun β=>(ek op (vx β) (vy β)).toNat)):=by
 have e1:∀(a b:Nat),decide ((a:Int)=b)=decide (a=b):=fun a b=>decide_eq_decide.2 om;have e2:∀(a b:Nat),decide ((a:Int)<b)=decide (a<b):=fun a b=>decide_eq_decide.2 om;have e3:∀(a b:Nat),decide ((a:Int)<=b)= !decide (b<a):=fun a b=>by rw[<-ah];exact decide_eq_decide.2 om
 unfold AW;rcases ho with rfl|rfl|rfl|rfl
 ·rw[if_pos rfl];refine lz (qQ G hl hx hy (vQ G)) fun β=>?_;rw[PR,lP,e1,Bool.true_and]
 ·rw[if_neg dc,if_pos rfl];refine st.jX (qQ G hl hx hy (vQ G)) fun n L3 G3 H3=>?_;refine lz (kx G3 H3) fun β=>?_;rw[Qr,lP,e1,Bool.true_and]
 ·rw[if_neg dc,if_neg dc,if_pos rfl];refine lz (pF G hl hx hy (k7 G)) fun β=>?_;rw[Qs,lP,e2,Bool.false_and,Bool.or_false]
 ·rw[if_neg dc,if_neg dc,if_neg dc];refine st.jX (pF G hl.symm hy hx (k7 G)) fun n L3 G3 H3=>?_;refine lz (kx G3 H3) fun β=>?_;rw[Qw,lP,e3,Bool.false_and,Bool.or_false]
theorem HL{a n:Nat}(ha:a<65536):(y4 a n).toNat=BF true a n:=by
 unfold y4 BF;by_cases h:16<=n
 ·rw[if_pos om,if_pos h];rfl
 ·rw[if_neg om,if_neg h,if_pos rfl,j7 ha];have:((a:Int)*2^(n:Int).toNat)=((2^n*a:Nat):Int):=by rw[Int.toNat_natCast,Int.natCast_mul,Int.natCast_pow,Int.mul_comm];rfl
  rw[this];generalize 2^n*a=m;unfold eW;omega
theorem uK{a n:Nat}(ha:a<65536):(qm a n).toNat=BF false a n:=by
 unfold qm BF;by_cases h:16<=n
 ·rw[if_pos om,if_pos h];rfl
 ·rw[if_neg om,if_neg h,if_neg dc,j7 ha];have:((a:Int)/2^(n:Int).toNat)=((a/2^n:Nat):Int):=by rw[Int.toNat_natCast,Int.natCast_ediv,Int.natCast_pow];rfl
  rw[this];rfl
theorem Et{op:Int}(G:ct N)(lx:x.length=16)(ly:y.length=16)(hx:hw N x vx)(hy:hw N y vy)(ho:7<=op/\op<=21):st N (ko op x y N) (fun o N'=>o.length=16/\hw N' o (fun β=>(ek op (vx β) (vy β)).toNat)):=by
 have hl:x.length=y.length:=lx.trans ly.symm;have X:=Fi hx lx;have Y:=Fi hy ly;have hT:∀(N L:Gr),True->True:=fun _ _ _=>trivial;unfold ko;by_cases h:op=7
 ·subst h;rw[if_pos rfl];refine st.mono (pB G hl hx hy (k7 G)) fun o L _ h=>⟨h.1.trans lx,h.2.cg fun β=>?_⟩;have:=X β;have:=Y β;rw[lx,Rd];simp only[eW,bN,Bool.false_eq_true,if_false];omega
 rw[if_neg h];by_cases h:op=8
 ·subst h;rw[if_pos rfl];refine st.mono (yF G hl hx hy) fun o L _ h=>⟨h.1.trans lx,h.2.cg fun β=>?_⟩;have:=X β;have:=Y β;rw[lx,QW];simp only[eW];omega
 rw[if_neg h];by_cases h:op=9
 ·subst h;rw[if_pos rfl];refine st.mono (CH G lx (jm 0) om hx hy (sE G om)) fun o L _ h=>⟨h.1,h.2.cg fun β=>?_⟩;have e:ek 9 (vx β) (vy β)=eW ((vx β*vy β:Nat):Int):=by rw[Q6,j7 (X β),j7 (Y β),Int.natCast_mul]
  rw[e];generalize vx β*vy β=m;unfold eW;omega
 rw[if_neg h];by_cases h:op=10
 ·subst h;rw[if_pos rfl];refine st.mono (si (bo:=fun _=>(· && ·)) hT (fun g _ a b=>jz g a b) G trivial hl hx hy) fun o L _ h=>⟨h.1.trans lx,h.2.cg fun β=>?_⟩;rw[lx,Du (X β) (Y β),Qa,uL,Int.toNat_natCast,Int.toNat_natCast,Int.toNat_natCast]
 rw[if_neg h];by_cases h:op=11
 ·subst h;rw[if_pos rfl];refine st.mono (si (bo:=fun _=>(· || ·)) hT (fun g _ a b=>pY g a b) G trivial hl hx hy) fun o L _ h=>⟨h.1.trans lx,h.2.cg fun β=>?_⟩;rw[lx,GQ (X β) (Y β),PD,GY,Int.toNat_natCast,Int.toNat_natCast,Int.toNat_natCast]
 rw[if_neg h];by_cases h:op=12
 ·subst h;rw[if_pos rfl];refine st.mono (si (bo:=fun _=>(· != ·)) hT (fun g _ a b=>rT g a b) G trivial hl hx hy) fun o L _ h=>⟨h.1.trans lx,h.2.cg fun β=>?_⟩;rw[lx,Ed (X β) (Y β),PJ,uU,Int.toNat_natCast,Int.toNat_natCast,Int.toNat_natCast]
 rw[if_neg h];by_cases h:op=13
 ·subst h;rw[if_pos rfl];refine st.mono (zo G lx ly hx hy) fun o L _ h=>⟨h.1,h.2.cg fun β=>?_⟩;rw[Qb];exact HL (X β)
 rw[if_neg h];by_cases h:op=14
 ·subst h;rw[if_pos rfl];refine st.mono (zo G lx ly hx hy) fun o L _ h=>⟨h.1,h.2.cg fun β=>?_⟩;rw[P6];exact uK (X β)
 rw[if_neg h];by_cases h:op=19\/op=20\/op=21
 ·rw[if_pos h];exact Mo G hx hy h
 rw[if_neg h];exact JX G hl hx hy om
end
theorem NN(a:Nat)(ha:a<65536):∀n:Nat,n<=16->ot (a:Int) n=((List.range n).map fun i=>a/2^i%2).sum
 |0,_=>rfl
 |n+1,h=>by
  have:=uK (n:=n) ha;have hs:BF false a n=a/2^n:=by rw[BF,if_neg om,if_neg dc]
  have h0:0<=qm (a:Int) (n:Int):=by
   unfold qm;split
   ·omega
   ·rw[j7 ha];exact Int.ediv_nonneg om (Int.pow_nonneg om)
  rw[ot,NN a ha n om,List.range_succ,List.map_append,List.sum_append,yR];rw[hs]at this;have h2:qm (a:Int) (n:Int)=((a/2^n:Nat):Int):=by rw[<-this];exact(Int.toNat_of_nonneg h0).symm
  rw[h2];simp only[List.map_cons,List.map_nil,List.sum_cons,List.sum_nil,Nat.add_zero,Int.natCast_add];generalize a/2^n=q;omega
theorem Al:∀(n a:Nat),pop n a=((List.range n).map fun i=>a/2^i%2).sum
 |0,a=>rfl
 |n+1,a=>by rw[pop,Al n,List.range_succ_eq_map,List.map_cons,List.map_map,List.sum_cons,Nat.pow_zero,Nat.div_one];congr 2;refine List.map_congr_left fun k _=>?_;simp only[Function.comp,Nat.succ_eq_add_one,Nat.pow_succ];rw[Nat.div_div_eq_div_mul,Nat.mul_comm 2]
theorem DQ:∀(n a:Nat),pop n a<=n
 |0,_=>aq _
 |n+1,a=>by rw[pop];have:=DQ n (a/2);omega
theorem Cn(x:Nat):∀(m:Nat) (l:List Nat),l.length<=m->FJ (x:Int) (l.map Int.ofNat)=tC (KO x l)
 |_,[],_=>rfl
 |_,[_],_=>rfl
 |0,_::_::_,h=>by simp at h
 |m+1,lo::hi::r,h=>by
  rw[List.map_cons,List.map_cons,FJ,KO,Cn x m r (by simp at h;omega)];by_cases c:lo<=x/\x<=hi
  ·rw[if_pos so];simp[c,tC]
  ·rw[if_neg so];have:(decide (lo<=x)&&decide (x<=hi))=false:=by simp;omega
   rw[this,Bool.false_or]
theorem LM{op:Int}{N:Gr}{l:List (List Nat)}{v:(Nat->Bool)->List Nat}(G:ct N)(h:qg N l v)(ok:∀β,BI op ((v β).map Int.ofNat)):st N (rP op l N) (fun o N'=>o.length=16/\hw N' o (fun β=>(BU op ((v β).map Int.ofNat)).toNat)):=by
 have g:∀i,i<l.length->hw N (l[i]?.getD []) (fun β=>(v β)[i]?.getD 0)/\(l[i]?.getD []).length=16:=fun i hi=>by have hm:=h.ll _ (List.getElem_mem hi);rw[ae hi];refine⟨⟨hm.2,fun β=>?_⟩,hm.1⟩;rw[<-h.ee,FL,ar,ae hi];rfl
 have hlen:∀β,(v β).length=l.length:=fun β=>by rw[<-h.ee,FL,an]
 have e:∀β (i:Nat),i<l.length->(((v β).map Int.ofNat)[i]?.getD 0:Int)=(((v β)[i]?.getD 0:Nat):Int):=fun β i hi=>by rw[ar,ae (by rw[hlen];exact hi)];rfl
 have okl:(op=22/\l.length=3)\/(op=23/\3<=l.length/\l.length<=33)\/((op=4\/op=5\/op=6\/op=25)/\l.length=1)\/(7<=op/\op<=21/\l.length=2):=by have:=ok (fun _=>false);unfold BI at this;rw[an,hlen]at this;exact this
 clear ok;unfold rP BU;rcases okl with⟨rfl,h3⟩|⟨rfl,h3,_⟩|⟨h1,h3⟩|⟨h1,h2,h3⟩
 ·obtain⟨a,_⟩:=g 0 om;obtain⟨b,lb⟩:=g 1 om;obtain⟨c,lc⟩:=g 2 om;rw[if_neg dc,if_neg dc,if_neg dc,if_neg dc,if_neg dc,if_pos rfl];refine st.jX (nJ G a (k7 G)) fun t L1 G1 H1=>?_;replace b:=b.app L1;replace c:=c.app L1;refine st.mono (si (bo:=fun β x y=>((false||decide ((v β)[0]?.getD 0≠0))&&x)||(!(false||decide ((v β)[0]?.getD 0≠0))&&y)) (T:=fun N'=>hv N' t (fun β=>false||decide ((v β)[0]?.getD 0≠0))) (fun N L h=>h.app L) (fun g T a b=>Lc g T a b) G1 H1 (lb.trans lc.symm) b c) fun o L _ h=>⟨h.1.trans lb,h.2.cg fun β=>?_⟩;rw[lb,zU _ (Fi b lb β) (Fi c lc β),e β 0 om,e β 1 om,e β 2 om,if_pos rfl];simp only[Bool.false_or,aj];by_cases h0:(v β)[0]?.getD 0=0
  ·rw[if_neg om,if_neg om];rfl
  ·rw[if_pos om,if_pos om];rfl
 ·obtain⟨a,la⟩:=g 0 om;rw[if_neg dc,if_neg dc,if_neg dc,if_neg dc,if_pos rfl];have ht:qg N l.tail (fun β=>(v β).tail):=⟨fun w hw=>h.ll w (List.mem_of_mem_tail hw),fun β=>by rw[<-h.ee];simp[FL]⟩;refine lz (Cw G la a ht (k7 G)) fun β=>?_;rw[if_neg dc,if_pos rfl,e β 0 om,<-List.map_tail,Cn _ _ _ (aq _),lP,Bool.false_or]
 ·obtain⟨a,la⟩:=g 0 om;have hs:∀β,BU op ((v β).map Int.ofNat)=oP op (((v β)[0]?.getD 0:Nat):Int):=fun β=>by unfold BU;rw[if_neg om,if_neg om,if_pos (by rw[an,hlen];exact h3),e β 0 om]
  have A:=Fi a la;show st N _ (fun o N'=>o.length=16/\hw N' o (fun β=>(BU op ((v β).map Int.ofNat)).toNat));simp only[hs];rcases h1 with rfl|rfl|rfl|rfl
  ·rw[if_pos rfl];refine st.jX (nJ G a (k7 G)) fun t L1 G1 H1=>?_;refine lz (kx G1 H1) fun β=>?_;rw[oP,if_pos rfl,lP,Bool.false_or,<-ah];congr 1;exact decide_eq_decide.2 om
  ·rw[if_neg dc,if_pos rfl];refine st.mono (uB G a) fun o L _ h=>⟨h.1.trans la,h.2.cg fun β=>?_⟩;have:=A β;rw[la,oP,if_neg dc,if_pos rfl,j7 this];omega
  ·rw[if_neg dc,if_neg dc,if_pos rfl];refine st.mono (yF G ((jm 0).trans la.symm) (sE G om) a) fun o L _ h=>⟨h.1.trans (jm 0),h.2.cg fun β=>?_⟩;have:=A β;rw[jm,oP,if_neg dc,if_neg dc,if_pos rfl,j7 this,eW];omega
  ·rw[if_neg dc,if_neg dc,if_neg dc,if_pos rfl];refine st.mono (yQ G (jm 0) a (sE G om)) fun o L _ h=>⟨h.1,h.2.cg fun β=>?_⟩;have:=A β;have hp:=DQ 16 ((v β)[0]?.getD 0);rw[la,oP,if_neg dc,if_neg dc,if_neg dc,r8,NN _ this 16 (aq _),<-Al,Nat.zero_add,Nat.mod_eq_of_lt om];rfl
 ·obtain⟨a,la⟩:=g 0 om;obtain⟨b,lb⟩:=g 1 om;rw[if_neg om,if_neg om,if_neg om,if_neg om,if_neg om,if_neg om];refine st.mono (Et G la lb a b ⟨h1,h2⟩) fun o L _ h=>⟨h.1,h.2.cg fun β=>?_⟩;rw[if_neg om,if_neg om,if_neg (by rw[an,hlen];omega),e β 0 om,e β 1 om]
end
section
variable[NB]
open Go.Vx
def zc(l:List Vr)(lv:List Int)(nm:B)(N:Gr):Option (List Nat×Gr):=match l[(kr l nm).toNat]?,lv[(kr l nm).toNat]? with
 |some x,some v=>if x.m=0 then some (dS x.v.toNat,N)else(vd v.toNat x.w.toNat N).map fun r=>(r.1++List.replicate (16-x.w.toNat) 0,r.2)
 |_,_=>none
mutual
def wH(l:List Vr)(lv:List Int):Ex->Gr->Option (List Nat×Gr)
 | .mk op n nm xs,N=>(oD l lv xs N).bind fun r=>if op=1 then some (dS n.toNat,r.2)else if op=2 then zc l lv nm r.2 else rP op r.1 r.2
def oD(l:List Vr)(lv:List Int):List Ex->Gr->Option (List (List Nat)×Gr)
 |[],N=>some ([],N)
 |x::xs,N=>(wH l lv x N).bind fun r=>(oD l lv xs r.2).map fun s=>(r.1::s.1,s.2)
end
theorem z2(l:List Vr)(lv:List Int)(e:Ex)(N:Gr):wH l lv e N=(oD l lv e.args N).bind fun r=>if e.op=1 then some (dS e.n.toNat,r.2)else if e.op=2 then zc l lv e.nm r.2 else rP e.op r.1 r.2:=by cases e;rw[wH];rfl
def kC(β:Nat->Bool):List Vr->List Int->List Int
 |x::l,v::lv=>(if x.m=0 then x.v else(lA β v.toNat x.w.toNat:Nat))::kC β l lv
 |_,_=>[]
theorem Aj(β:Nat->Bool)(l:Nat):∀n,lA β l n<2^n
 |0=>by simp[lA]
 |n+1=>by have:=Aj β l n;have:=Au (β (l+n));rw[lA,Nat.pow_succ];omega
def Hq(l:List Vr)(lv:List Int):Prop:=lv.length=l.length/\∀(i:Nat) x v,l[i]? =some x->lv[i]? =some v->x.m≠0->0<=v/\v+x.w<=NB.nb
def Qj(l:List Vr):Prop:=∀x∈l,1<=x.w/\x.w<=8/\0<=x.v/\x.v<2^x.w.toNat
theorem uD(s:B)(β:Nat->Bool):∀(l:List Vr) (lv:List Int) (k:Nat),lv.length=l.length->(l.any fun x=>decide (x.nm=s))=true->∃(i:Nat) (x:Vr) (v:Int),nq (fun x:Vr=>decide (x.nm=s)) l k=((k+i:Nat):Int)/\l[i]? =some x/\lv[i]? =some v/\(sW (dF l (kC β l lv)) s).1=eW (if x.m=0 then x.v else(lA β v.toNat x.w.toNat:Nat))
 |[],_,_,_,h=>by simp at h
 |_::_,[],_,h,_=>by simp at h
 |x::l,v::lv,k,hl,h=>by
  rw[kC,dF,nq,sW];by_cases hx:x.nm=s
  ·rw[if_pos hx,if_pos (by simpa using hx)];exact⟨0,x,v,sm,rfl,rfl,rfl⟩
  ·rw[if_neg hx,if_neg (by simpa using hx)];rw[List.any_cons]at h;obtain⟨i,y,u,e1,e2,e3,e4⟩:=uD s β l lv (k+1) (by simpa using hl) (by simpa[hx]using h);exact⟨i+1,y,u,by rw[e1];congr 1;omega,by simpa using e2,by simpa using e3,e4⟩
theorem GM{l:List Vr}{lv:List Int}{nm:B}{N:Gr}(G:ct N)(h1:Hq l lv)(h2:Qj l)(hk:(l.any fun x=>decide (x.nm=nm))=true):st N (zc l lv nm N) (fun o N'=>o.length=16/\hw N' o (fun β=>(sW (dF l (kC β l lv)) nm).1.toNat)):=by
 obtain⟨i,x,v,e1,e2,e3,_⟩:=uD nm (fun _=>false) l lv 0 h1.1 hk;have hi:(kr l nm).toNat=i:=by rw[kr,e1];simp
 have hval:∀β,(sW (dF l (kC β l lv)) nm).1=eW (if x.m=0 then x.v else(lA β v.toNat x.w.toNat:Nat)):=fun β=>by
  obtain⟨j,y,u,q1,q2,q3,q4⟩:=uD nm β l lv 0 h1.1 hk;rw[e1]at q1;obtain rfl:i=j:=om;rw[e2]at q2;injection q2 with q2;subst q2
  rw[e3]at q3;injection q3 with q3;subst q3
  exact q4
 obtain⟨w1,w2,v1,v2⟩:=h2 x (af e2);have hp8:(2:Int)^x.w.toNat<=256:=(vX (w:=x.w.toNat) om).1;have hp8n:2^x.w.toNat<=256:=by
  have:((2^x.w.toNat:Nat):Int)=2^x.w.toNat:=by rw[Int.natCast_pow];rfl
  omega
 unfold zc;rw[hi,e2,e3];simp only[hval];by_cases hm:x.m=0
 ·simp only[hm,if_true];refine st.ok G ⟨jm _,(sE G (n:=x.v.toNat) om).cg fun β=>?_⟩;unfold eW;omega
 ·simp only[hm,if_false];obtain⟨l1,l2⟩:=h1.2 i x v e2 e3 hm;refine st.mp (P:=fun s N'=>s.length=x.w.toNat/\hw N' s (fun β=>lA β v.toNat x.w.toNat)/\ct N') (st.mono (FB G (n:=x.w.toNat) (l:=v.toNat) om) fun s L G1 hr=>⟨hr.1,hr.2,G1⟩) fun s N' hr=>?_;obtain⟨r1,r2,G1⟩:=hr;refine⟨rfl,by simp[r1];omega,(Di r2 (Ag G1 _)).cg fun β=>?_⟩;have:=Aj β v.toNat x.w.toNat;rw[j7 om];simp
theorem xC{l:List Vr}{lv:List Int}(m:Nat)(hm:∀(e:Ex) (N:Gr),e.nodes.length<=m->ct N->(∀x∈e.nodes,mI x)->(∀x∈e.nodes,x.op=2->(l.any fun y=>decide (y.nm=x.nm))=true)->st N (wH l lv e N) (fun o N'=>o.length=16/\hw N' o (fun β=>(o5 (dF l (kC β l lv)) e).toNat))):∀(xs:List Ex) (N:Gr),(∀x∈xs,x.nodes.length<=m)->ct N->(∀x∈Ex.bX xs,mI x)->(∀x∈Ex.bX xs,x.op=2->(l.any fun y=>decide (y.nm=x.nm))=true)->st N (oD l lv xs N) (fun o N'=>qg N' o (fun β=>xs.map fun e=>(o5 (dF l (kC β l lv)) e).toNat))
 |[],N,_,G,_,_=>st.ok G ⟨fun w hw=>(by cases hw),fun β=>rfl⟩
 |x::xs,N,hn,G,hg,hk=>by
  have hsub:∀y∈x.nodes,y∈Ex.bX (x::xs):=fun y hy=>by rw[Ex.bX];exact List.mem_append_left _ hy
  have hsub2:∀y∈Ex.bX xs,y∈Ex.bX (x::xs):=fun y hy=>by rw[Ex.bX];exact List.mem_append_right _ hy
  rw[oD];refine st.jX (hm x N (hn x sm) G (fun y hy=>hg y (hsub y hy)) fun y hy=>hk y (hsub y hy)) fun r L1 G1 H1=>?_;refine st.mp (P:=fun s N'=>(r.length=16/\hw N' r (fun β=>(o5 (dF l (kC β l lv)) x).toNat))/\qg N' s (fun β=>xs.map fun e=>(o5 (dF l (kC β l lv)) e).toNat)) (st.mono (xC m hm xs (N++L1) (fun y hy=>hn y (by simp[hy])) G1 (fun y hy=>hg y (hsub2 y hy)) fun y hy=>hk y (hsub2 y hy)) fun s L2 G2 hs=>⟨⟨H1.1,H1.2.app L2⟩,hs⟩) fun s N' hs=>?_;obtain⟨⟨r1,r2⟩,r3⟩:=hs;refine⟨rfl,fun w hw=>?_,fun β=>?_⟩
  ·rcases aP.1 hw with rfl|hw
   ·exact⟨r1,r2.l⟩
   ·exact r3.ll w hw
  ·show FL β N' (r::s)=_;rw[FL,List.map_cons,List.map_cons,r2.e];exact congrArg _ (r3.ee β)
theorem vO{l:List Vr}{lv:List Int}(h1:Hq l lv)(h2:Qj l):∀(m:Nat) (e:Ex) (N:Gr),e.nodes.length<=m->ct N->(∀x∈e.nodes,mI x)->(∀x∈e.nodes,x.op=2->(l.any fun y=>decide (y.nm=x.nm))=true)->st N (wH l lv e N) (fun o N'=>o.length=16/\hw N' o (fun β=>(o5 (dF l (kC β l lv)) e).toNat))
 |0,e,N,h,_,_,_=>by have:=cZ e;omega
 |m+1,e,N,hle,G,hg,hk=>by
  have hself:e∈e.nodes:=by rw[Ex.bT];simp
  have hn:=hg e hself;have hsub:∀y∈Ex.bX e.args,y∈e.nodes:=fun y hy=>by rw[Ex.bT];exact List.mem_cons_of_mem _ hy
  rw[z2];have hl:∀x∈e.args,x.nodes.length<=m:=fun x hx=>by have:=eU hx;rw[Ex.bT,List.length_cons]at hle;omega
  refine st.jX (xC m (fun e N a b c d=>vO h1 h2 m e N a b c d) e.args N hl G (fun y hy=>hg y (hsub y hy)) fun y hy=>hk y (hsub y hy)) fun r L1 G1 H1=>?_;dsimp only;have hev:∀β,o5 (dF l (kC β l lv)) e=if e.op=1 then e.n else if e.op=2 then(sW (dF l (kC β l lv)) e.nm).1 else BU e.op (e.args.map (o5 (dF l (kC β l lv)))):=fun β=>zl _ _
  simp only[hev];by_cases c1:e.op=1
  ·simp only[c1,if_true];have:=(q9 hn.1).2.2.1 c1;exact st.ok G1 ⟨jm _,sE G1 om⟩
  simp only[c1,if_false];by_cases c2:e.op=2
  ·simp only[c2,if_true];exact GM G1 h1 h2 (hk e hself c2)
  simp only[c2,if_false];have wd:∀β,∀x∈e.args,Wd (o5 (dF l (kC β l lv)) x):=fun β x hx=>tW _ m x (hl x hx) fun z hz=>hg z (hsub z (eV hx hz));have hmap:∀β,(e.args.map fun x=>(o5 (dF l (kC β l lv)) x).toNat).map Int.ofNat=e.args.map (o5 (dF l (kC β l lv))):=fun β=>by rw[List.map_map];refine List.map_congr_left fun x hx=>?_;have:=wd β x hx;simp only[Function.comp,Int.ofNat_eq_natCast];omega
  refine st.mono (LM G1 H1 fun β=>?_) fun o L2 G2 ho=>⟨ho.1,ho.2.cg fun β=>by rw[hmap]⟩;rw[hmap];rcases qJ hn with h|⟨_,_,_,_,h⟩
  ·omega
  ·exact h _ sm
end
end Go.Proofs.Tp
