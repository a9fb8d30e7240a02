/- Proved: contracts of functions that the laws of Top reach, and plain facts for them. Conditions: those that each lemma states. -/
import Derived.Test.YtmhkppbollghoaaGreatDoorV10
set_option linter.unusedSectionVars false
set_option linter.unusedSimpArgs false
set_option linter.unusedVariables false
namespace Go.Proofs.Tp
open Go.Vx
section
variable[BE][NB]
def PT(nm:B):Prop:=(BE.p.vars.any fun x=>decide (x.nm=nm))=true
structure sI:Prop where
 lv:Hq BE.p.vars BE.lv
 w:Qj BE.p.vars
 mp:∀nm,PT nm->dL (.int .i64 0) (BT (Dg BE.p.vars)) nm=.int .i64 (kr BE.p.vars nm)
theorem OF(E:sI){N:Gr}(G:ct N){nm:B}(hk:PT nm):ff 102 [.aY 8 0 1 0 0,.d (.str nm)] N (vW (zc BE.p.vars BE.lv nm N)):=by
 obtain⟨i,x,v,e1,e2,e3,_⟩:=uD nm (fun _=>false) BE.p.vars BE.lv 0 E.lv.1 hk;have hi:kr BE.p.vars nm=(i:Int):=by rw[kr,e1];simp
 obtain⟨w1,w2,v1,v2⟩:=E.w x (af e2);have hp8:=(vX (w:=x.w.toNat) om).1;have h:=t102 G (nm:=nm) (i:=i) (x:=x) (v:=v) (by rw[E.mp nm hk,hi]) e2 e3 ⟨w1,w2⟩ ⟨v1,om⟩ (fun hm=>E.lv.2 i x v e2 e3 hm);have e:zc BE.p.vars BE.lv nm N=Hm x v N:=by unfold zc Hm;rw[hi,Int.toNat_natCast,e2,e3]
 rw[e];exact h
abbrev IZ(e:Ex)(N:Gr):=wH BE.p.vars BE.lv e N
structure okW(e:Ex):Prop where
 t:nA e
 g:∀x∈e.nodes,mI x
 k:∀x∈e.nodes,x.op=2->PT x.nm
theorem uY(E:sI){e:Ex}(h:okW e){N:Gr}(G:ct N){r:List Nat×Gr}(hr:IZ e N=some r):vA N r.2/\r.1.length=16/\cU r.2 r.1:=by obtain⟨h1,h2,h3⟩:=kB (vO E.lv E.w _ e N (aq _) G h.g h.k) hr;exact⟨h1,h2,h3.l⟩
theorem okW.sub{m:Nat}{e:Ex}(h:okW e)(hle:e.nodes.length<=m+1):∀x∈e.args,x.nodes.length<=m/\okW x:=fun x hx=>by
 have h1:=mU hle h.t x hx;have hs:∀y∈x.nodes,y∈e.nodes:=fun y hy=>by rw[Ex.bT];exact List.mem_cons_of_mem _ (eV hx hy)
 exact⟨h1.1,h1.2,fun y hy=>h.g y (hs y hy),fun y hy=>h.k y (hs y hy)⟩
theorem Ia{x:Ex}(h:mI x):x.args.length<=33:=by
 obtain⟨_,_,_,h4⟩:=q9 h.1;unfold iH at h4;split at h4
 ·simp at h4;omega
 ·simp only[aj]at h4;have:qE x.op<=3:=by unfold qE;repeat' split<;>omega
  omega
theorem Nw{l:List D}:cY 0 (l.map .d)=l.map .d:=by
 induction l with
 |nil=>rfl
 |cons x l ih=>rw[List.map_cons,cY,ih];rfl
theorem Mb{l:List D}:AM (l.map .d)=true:=by
 induction l with
 |nil=>rfl
 |cons x l ih=>rw[List.map_cons,AM,ih];rfl
theorem QY(m:Nat)(l:List (List Nat)):dz m (Pj l):=fun e he v hv=>by obtain⟨w,_,rfl⟩:=aw.1 he;obtain⟨x,_,rfl⟩:=aw.1 hv;rfl
theorem QK(m:Nat):dz (m+1) BX:=fun e he v hv=>by simp only[List.mem_singleton]at he;subst he;simp only[List.mem_singleton]at hv;subst hv;simp[hB]
theorem KM{N:Gr}{x y:List Nat}{r:List Nat×Gr}(G:ct N)(hl:x.length=y.length)(hx:cU N x)(hy:cU N y)(h:xu x y N=some r):vA N r.2/\r.1.length=x.length/\cU r.2 r.1:=by obtain⟨h1,h2,h3⟩:=kB (yF G hl hx.hw hy.hw) h;exact⟨h1,h2,h3.l⟩
theorem KH{N:Gr}{x:List Nat}{r:List Nat×Gr}(G:ct N)(hx:cU N x)(h:r7 x (dS 0) N=some r):vA N r.2/\r.1.length=16/\cU r.2 r.1:=by obtain⟨h1,h2,h3⟩:=kB (yQ G (hV 0) hx.hw (mH G 0).hw) h;exact⟨h1,h2,h3.l⟩
theorem JA{w:List Nat}:(w.map iV).flatMap fe=[]:=by
 induction w with
 |nil=>rfl
 |cons x w ih=>rw[List.map_cons,List.flatMap_cons,ih];rfl
def zW:List Nat:=List.replicate 16 0
set_option maxHeartbeats 2000000 in
theorem t56(E:sI):∀(m:Nat) (e:Ex) (N:Gr),e.nodes.length<=m->ct N->okW e->ff 56 [.aY 8 0 1 0 0,.agg (e.d.map .d)] N (vW (IZ e N))
 |0,e,N,h,_,_=>by have:=cZ e;omega
 |m+1,e,N,hle,G,he=>by
  have hmL:=dx;have h2N:=G.two;have hsub:=he.sub hle;have hA:=(he.t.2 e (by rw[Ex.bT];simp)).1;have hn:=he.g e (by rw[Ex.bT];simp);have IH:∀x∈e.args,∀M,ct M->ff 56 [.aY 8 0 1 0 0,.agg (x.d.map .d)] M (vW (IZ x M)):=fun x hx M h=>t56 E m x M (hsub x hx).1 h (hsub x hx).2;clear t56;obtain⟨D,hD⟩:∃D,IZ e N=D:=⟨_,rfl⟩;have LD:∀r,D=some r->r.1.length=16:=fun r h=>(uY E he G (hD.trans h)).2.1;rw[hD];rw[IZ,z2]at hD;rw[e.jB];refine gb cc56 (AC.at AC.pn [1,1,1,1,0] (AC.at AC.pn [1,1,1,0,1,2,1,1,1,1,1,1,1,1,1,1,1,1,1,1,1,0,1,0] (AC.at AC.pn [1,1,1,0,1,2,1,1,1,1,1,1,1,1,1,1,1,1,1,1,1,0,0] (AC.at AC.pn [1,1,1,0,1,2,1,1,1,1,1,1,1,1,1,1,1,1,1,0,0] (AC.at AC.pn [1,1,1,0,1,2,1,1,1,1,1,1,1,1,1,1,1,0,0] (AC.at AC.pn [1,1,1,0,1,2,1,1,1,1,1,1,1,1,1,0,0] (AC.at AC.pn [1,1,1,0,1,2,1,1,1,1,1,1,1,0,0] (AC.at AC.pn [1,1,1,0,1,2,1,1,1,1,1,0,0] (AC.at AC.pn [1,1,1,0,1,2,1,1,1,0,0] (AC.at AC.pn [1,1,0,1,2,2,1,1,0,2,1] ac56)))))))))) rfl ?_;simp only[vq,seval,ac56,AC.at,List.map_cons,List.map_nil];obtain⟨n,hn'⟩:∃n,e.args.length=n:=⟨_,rfl⟩;rw[hn']at hA;simp only[hn'];have hn33:=Ia hn;rw[hn']at hn33;refine⟨om,om,om,om,?_⟩;refine bb (fun t:Nat×List (List Nat)×Gr=>⟨cC 108 [(2,.aY 1 1 1 0 0),(3,.aY 4 2 1 0 0),(4,.aY 16 3 1 0 0),(5,.cl 16 4 n 0 n),(14,.d (.sl 4 (e.args.map Ex.d))),(15,.d (.int .i64 n)),(16,.d (.int .i64 t.1))],[.live 8 (bl t.2.2),BX,.live 4 [[.d (.int .i64 e.op),.d (.int .i64 e.n),.d (.str e.nm),.d (.sl 4 (e.args.map Ex.d))]],jJ zW,Pj (t.2.1++List.replicate (n-t.1) zW)]⟩) (fun t=>t.1<=n/\t.2.1.length=t.1/\oD BE.p.vars BE.lv e.args N=(oD BE.p.vars BE.lv (e.args.drop t.1) t.2.2).map (fun s=>(t.2.1++s.1,s.2))/\ct t.2.2/\N.length<=t.2.2.length/\Fh t.2.2 t.2.1) (fun t=>n-t.1) (0,[],N) (bk (by simp[zW]) vt) ⟨om,rfl,sm,G,aq _,fun w hw=>by cases hw⟩ ?_;rintro⟨i,o,M⟩ ⟨h1,h0,h2,h3,h4,h5⟩;dsimp only at h1 h0 h2 h3 h4 h5;simp only[vq,seval];refine aZ (fun hc=>?_) (fun hc=>?_)
  ·simp only[aj]at hc;obtain⟨x,hx⟩:=bh (l:=e.args) (i:=i) om;have C:=IH x (af hx) M h3;have hset:∀v,(o++List.replicate (n-i) zW).set i v=(o++[v])++List.replicate (n-(i+1)) zW:=fun v=>by rw[show n-i=(n-(i+1))+1 by omega,List.replicate_succ,dA _ _ _ _ h0];simp
   have hln:(o++List.replicate (n-i) zW).length=n:=by simp;omega
   have hPl:∀w∈o++List.replicate (n-i) zW,w.length=16:=fun w hw=>by
    rcases aU.1 hw with h|h
    ·exact(h5 w h).1
    ·rw[List.eq_of_mem_replicate h];rfl
   rw[bt hx,oD]at h2;generalize o++List.replicate (n-i) zW=P at hset hln hPl|-;simp only[vq,seval];refine⟨om,om,bg hx ?_⟩;simp only[vq,seval];simp only[vq,seval,dI];cases hr:IZ x M with
   |none=>rw[hr]at C;have h2':=h2;rw[show wH BE.p.vars BE.lv x M=none from hr]at h2';simp only[Option.bind_none,Option.map_none]at h2';rw[h2']at hD;rw[<-hD];refine cr 4 rfl ?_;simp only[vq,seval,PG];refine b9 0 (vals0:=[.aY 8 0 1 0 0,.agg (x.d.map .d)]) (by simp[cJ,Nw]) (by simp[hZ,Mb]) Rr rfl (ba _ _ M) C ?_;exact fq
   |some r=>
    rw[hr]at C;obtain⟨u1,l1,i1⟩:=uY E (hsub x (af hx)).2 h3 hr;have m1:=u1.l;rw[show wH BE.p.vars BE.lv x M=some r from hr]at h2;simp only[Option.bind_some]at h2;refine cI ?_;simp only[vq,seval,PG];refine bF 0 (vals0:=[.aY 8 0 1 0 0,.agg (x.d.map .d)]) (v0:=.agg (r.1.map iV)) (es':=bl r.2) (by simp[cJ,Nw]) (by simp[hZ,Mb]) Rr rfl (ba _ _ M) (ba _ _ r.2) rfl C ?_;simp only[vq,seval,ca];obtain⟨z,hz⟩:=bh (l:=P) (i:=i) om;have gz:=cK (kQ hz);have lr:=dy l1;refine⟨om,om,hln,hln,l1,cb _,?_⟩;simp only[vq,seval,gz,lr];rw[aR (by have:=hPl z (af hz);simp;omega),List.append_nil,<-List.map_set,hset];refine bL (i+1,o++[r.1],r.2) (by simp only;omega) (bz 5 om rfl rfl ⟨Pv _ _,QK _,eE (e:=[.int .i64 e.op,.int .i64 e.n,.str e.nm,.sl 4 (e.args.map Ex.d)]),OP _ _,QY _ _,trivial⟩ ?_) ⟨by simp only;omega,by simp[h0],by simp only;rw[h2];simp[Option.map_map,Function.comp_def],u1.g,by simp only;omega,fun w hw=>?_⟩
    ·simp only[vq,seval];rw[a8 om om]
     try trivial
    ·rcases aU.1 hw with h|h
     ·exact(h5.app m1) w h
     ·simp at h;subst h;exact⟨l1,i1⟩
  ·simp only[ak]at hc;obtain rfl:i=n:=om;rw[b4 om,oD]at h2;simp only[Option.map_some,List.append_nil]at h2;rw[h2]at hD;simp only[Option.bind_some]at hD;rw[Nat.sub_self,List.replicate_zero,List.append_nil];have h2M:=h3.two;have hp:∀j,j<i->∃a,o[j]? =some a/\a.length=16/\cU M a:=fun j hj=>by obtain⟨a,ha⟩:=bh (l:=o) (i:=j) om;exact⟨a,ha,h5 a (af ha)⟩
   simp only[vq,seval];by_cases c1:e.op=1
   ·rw[if_pos c1]at hD;obtain⟨z0,z1⟩:=(q9 hn.1).2.2.1 c1;obtain⟨k,hk⟩:=Int.eq_ofNat_of_zero_le z0;rw[hk]at z1;have ln:=dy (hV k);rw[hk]at hD;rw[<-hD];simp only[vq,seval,dt c1,hk];refine aW rfl (t101 k om) ?_;simp only[vq,seval,ln];refine⟨cb _,?_⟩;exact cG (h:=3) om (hV k) rfl rfl (by first|rfl|simp[zW])
   rw[if_neg c1]at hD;simp only[vq,seval,df c1];by_cases c2:e.op=2
   ·rw[if_pos c2]at hD;simp only[vq,seval,dt c2];have C:=OF E h3 (he.k e (by rw[Ex.bT];simp) c2);rw[hD]at C;cases D with
    |none=>refine cr 3 rfl ?_;simp only[vq,seval];refine b9 0 (vals0:=[.aY 8 0 1 0 0,.d (.str e.nm)]) rfl rfl Rr rfl (ba _ _ M) C ?_;exact fq
    |some r=>have lr:=LD r rfl;have ln:=dy lr;refine cI ?_;simp only[vq,seval];refine bF 0 (vals0:=[.aY 8 0 1 0 0,.d (.str e.nm)]) (v0:=.agg (r.1.map iV)) (es':=bl r.2) rfl rfl Rr rfl (ba _ _ M) (ba _ _ r.2) rfl C ?_;simp only[vq,seval,ca,ln];refine⟨cb _,?_⟩;exact cG (h:=3) om lr rfl rfl (by first|rfl|simp[zW])
   rw[if_neg c2]at hD;simp only[vq,seval,df c2];have hg:(e.op=22/\i=3)\/(e.op=23/\3<=i/\i<=33)\/((e.op=4\/e.op=5\/e.op=6\/e.op=25)/\i=1)\/(7<=e.op/\e.op<=21/\i=2):=by
    rcases qJ hn with h|⟨_,_,_,_,h⟩
    ·omega
    ·have:=h (List.replicate i 0) (by simp[hn']);simpa[BI]using this
   have hW:(o.map (·.map iV)).length=i:=by simp[h0]
   by_cases c4:e.op=4
   ·obtain rfl:i=1:=om;obtain⟨a,ha,la,ia⟩:=hp 0 om;have ga:=cK (kQ ha);have ta:=fm la;have ka:=dy la;rw[rP,if_pos c4,ha]at hD;simp only[Option.getD_some]at hD;simp only[vq,seval,dt c4];have C1:=t55 h3 la ia;cases hr1:lL a 0 M with
    |none=>
     simp only[Option.bind_some,hr1,Option.bind_none,Option.map_none,kJ]at hD;rw[hr1]at C1;rw[<-hD];refine cv 5 rfl ?_;simp only[vq,seval,bp,ta,ka,ga,h0,hW,ca]
     repeat(refine dC rfl rfl ?_;simp only[vq,seval,bp,ta,ka,ga,h0,hW,ca])
     refine b9 0 (vals0:=[.aY 8 0 1 0 0,.agg (a.map iV)]) zh gW Rr rfl (ba _ _ M) C1 ?_;exact fq
    |some r1=>
     obtain⟨u1,l1⟩:=rF h3 ia om hr1;have m1:=u1.l;simp only[Option.bind_some,hr1,kJ,Option.map_some]at hD;rw[hr1]at C1;have C2:=t104 u1.g (f:=r1.1) om;cases hr2:gY r1.2 r1.1 with
     |none=>
      simp only[Option.bind_some,hr2,Option.bind_none,Option.map_none,kJ]at hD;rw[hr2]at C2;rw[<-hD];refine cv 6 rfl ?_;simp only[vq,seval,bp,ta,ka,ga,h0,hW,ca]
      repeat(refine dC rfl rfl ?_;simp only[vq,seval,bp,ta,ka,ga,h0,hW,ca])
      refine bF 0 (vals0:=[.aY 8 0 1 0 0,.agg (a.map iV)]) (v0:=iV r1.1) (es':=bl r1.2) zh gW Rr rfl (ba _ _ M) (ba _ _ r1.2) rfl C1 ?_
      repeat(refine dC rfl rfl ?_;simp only[vq,seval,bp,ta,ka,ga,h0,hW,ca])
      refine b9 0 (vals0:=[.aY 8 0 1 0 0,iV r1.1]) zh gW Rr rfl (ba _ _ r1.2) C2 ?_;exact fq
     |some r2=>
      obtain⟨u2,l2⟩:=kl u1.g (f:=r1.1) om hr2;have m2:=u2.l;simp only[Option.bind_some,hr2,kJ,Option.map_some]at hD;rw[hr2]at C2;rw[<-hD];refine dj ?_;refine bW ?_;simp only[vq,seval,bp,ta,ka,ga,h0,hW,ca]
      repeat(refine cc rfl rfl ?_;simp only[vq,seval,bp,ta,ka,ga,h0,hW,ca])
      refine bF 0 (vals0:=[.aY 8 0 1 0 0,.agg (a.map iV)]) (v0:=iV r1.1) (es':=bl r1.2) zh gW Rr rfl (ba _ _ M) (ba _ _ r1.2) rfl C1 ?_
      repeat(refine cc rfl rfl ?_;simp only[vq,seval,bp,ta,ka,ga,h0,hW,ca])
      refine bF 0 (vals0:=[.aY 8 0 1 0 0,iV r1.1]) (v0:=iV r2.1) (es':=bl r2.2) zh gW Rr rfl (ba _ _ r1.2) (ba _ _ r2.2) rfl C2 ?_
      repeat(refine cc rfl rfl ?_;simp only[vq,seval,bp,ta,ka,ga,h0,hW,ca])
      refine aW rfl (t103 r2.1) ?_;have ltr:=dy (eX r2.1)
      repeat(refine cc rfl rfl ?_;simp only[vq,seval,bp,ta,ka,ga,h0,hW,ca,ltr])
      refine⟨cb _,?_⟩
      repeat(refine cc rfl rfl ?_;simp only[vq,seval,bp,ta,ka,ga,h0,hW,ca,ltr])
      exact cG (h:=3) om (eX _) rfl rfl (by first|rfl|simp[zW])
   simp only[vq,seval,df c4];by_cases c5:e.op=5
   ·obtain rfl:i=1:=om;obtain⟨a,ha,la,ia⟩:=hp 0 om;have ga:=cK (kQ ha);have ta:=fm la;have ka:=dy la;rw[rP,if_neg c4,if_pos c5,ha]at hD;simp only[Option.getD_some]at hD;simp only[vq,seval,dt c5];have C1:=t105 h3 la ia;cases hr1:pG a M with
    |none=>
     simp only[Option.bind_some,hr1,Option.bind_none,Option.map_none,kJ]at hD;rw[hr1]at C1;rw[<-hD];refine cv 4 rfl ?_;simp only[vq,seval,bp,ta,ka,ga,h0,hW,ca]
     repeat(refine dC rfl rfl ?_;simp only[vq,seval,bp,ta,ka,ga,h0,hW,ca])
     refine b9 0 (vals0:=[.aY 8 0 1 0 0,.agg (a.map iV)]) zh gW Rr rfl (ba _ _ M) C1 ?_;exact fq
    |some r1=>
     obtain⟨u1,l1⟩:=Ey h3 ia hr1;have m1:=u1.l;simp only[Option.bind_some,hr1,kJ,Option.map_some]at hD;rw[hr1]at C1;have lr:r1.1.length=16:=LD _ hD.symm;rw[<-hD];refine dj ?_;refine bW ?_;simp only[vq,seval,bp,ta,ka,ga,h0,hW,ca]
     repeat(refine cc rfl rfl ?_;simp only[vq,seval,bp,ta,ka,ga,h0,hW,ca])
     refine bF 0 (vals0:=[.aY 8 0 1 0 0,.agg (a.map iV)]) (v0:=.agg (r1.1.map iV)) (es':=bl r1.2) zh gW Rr rfl (ba _ _ M) (ba _ _ r1.2) rfl C1 ?_
     repeat(refine cc rfl rfl ?_;simp only[vq,seval,bp,ta,ka,ga,h0,hW,ca])
     have hrl:=dy lr;refine⟨lr,cb _,?_⟩
     repeat(refine cc rfl rfl ?_;simp only[vq,seval,bp,ta,ka,ga,h0,hW,ca,hrl])
     exact cG (h:=3) om lr rfl rfl (by first|rfl|simp[zW,lr])
   simp only[vq,seval,df c5];by_cases c6:e.op=6
   ·obtain rfl:i=1:=om;obtain⟨a,ha,la,ia⟩:=hp 0 om;have ga:=cK (kQ ha);have ta:=fm la;have ka:=dy la;rw[rP,if_neg c4,if_neg c5,if_pos c6,ha]at hD;simp only[Option.getD_some]at hD;simp only[vq,seval,dt c6];have C1:=t106 h3 (hV 0) la (mH h3 0) ia;cases hr1:xu (dS 0) a M with
    |none=>
     simp only[Option.bind_some,hr1,Option.bind_none,Option.map_none,kJ]at hD;rw[hr1]at C1;rw[<-hD];refine cv 5 rfl ?_;simp only[vq,seval,bp,ta,ka,ga,h0,hW,ca]
     repeat(refine dC rfl rfl ?_;simp only[vq,seval,bp,ta,ka,ga,h0,hW,ca])
     refine aW rfl (t101 0 om) ?_
     repeat(refine dC rfl rfl ?_;simp only[vq,seval,bp,ta,ka,ga,h0,hW,ca])
     refine b9 0 (vals0:=[.aY 8 0 1 0 0,.agg ((dS 0).map iV),.agg (a.map iV)]) zh gW Rr rfl (ba _ _ M) C1 ?_;exact fq
    |some r1=>
     obtain⟨u1,l1⟩:=KM h3 ((hV 0).trans la.symm) (mH h3 0) ia hr1;have m1:=u1.l;simp only[Option.bind_some,hr1,kJ,Option.map_some]at hD;rw[hr1]at C1;have lr:r1.1.length=16:=LD _ hD.symm;rw[<-hD];refine dj ?_;refine bW ?_;simp only[vq,seval,bp,ta,ka,ga,h0,hW,ca]
     repeat(refine cc rfl rfl ?_;simp only[vq,seval,bp,ta,ka,ga,h0,hW,ca])
     refine aW rfl (t101 0 om) ?_
     repeat(refine cc rfl rfl ?_;simp only[vq,seval,bp,ta,ka,ga,h0,hW,ca])
     refine bF 0 (vals0:=[.aY 8 0 1 0 0,.agg ((dS 0).map iV),.agg (a.map iV)]) (v0:=.agg (r1.1.map iV)) (es':=bl r1.2) zh gW Rr rfl (ba _ _ M) (ba _ _ r1.2) rfl C1 ?_
     repeat(refine cc rfl rfl ?_;simp only[vq,seval,bp,ta,ka,ga,h0,hW,ca])
     have hrl:=dy lr;refine⟨lr,cb _,?_⟩
     repeat(refine cc rfl rfl ?_;simp only[vq,seval,bp,ta,ka,ga,h0,hW,ca,hrl])
     exact cG (h:=3) om lr rfl rfl (by first|rfl|simp[zW,lr])
   simp only[vq,seval,df c6];by_cases c25:e.op=25
   ·obtain rfl:i=1:=om;obtain⟨a,ha,la,ia⟩:=hp 0 om;have ga:=cK (kQ ha);have ta:=fm la;have ka:=dy la;rw[rP,if_neg c4,if_neg c5,if_neg c6,if_pos c25,ha]at hD;simp only[Option.getD_some]at hD;simp only[vq,seval,dt c25];have C1:=t107 h3 la ia;cases hr1:r7 a (dS 0) M with
    |none=>
     simp only[Option.bind_some,hr1,Option.bind_none,Option.map_none,kJ]at hD;rw[hr1]at C1;rw[<-hD];refine cv 4 rfl ?_;simp only[vq,seval,bp,ta,ka,ga,h0,hW,ca]
     repeat(refine dC rfl rfl ?_;simp only[vq,seval,bp,ta,ka,ga,h0,hW,ca])
     refine b9 0 (vals0:=[.aY 8 0 1 0 0,.agg (a.map iV)]) zh gW Rr rfl (ba _ _ M) C1 ?_;exact fq
    |some r1=>
     obtain⟨u1,l1⟩:=KH h3 ia hr1;have m1:=u1.l;simp only[Option.bind_some,hr1,kJ,Option.map_some]at hD;rw[hr1]at C1;have lr:r1.1.length=16:=LD _ hD.symm;rw[<-hD];refine dj ?_;refine bW ?_;simp only[vq,seval,bp,ta,ka,ga,h0,hW,ca]
     repeat(refine cc rfl rfl ?_;simp only[vq,seval,bp,ta,ka,ga,h0,hW,ca])
     refine bF 0 (vals0:=[.aY 8 0 1 0 0,.agg (a.map iV)]) (v0:=.agg (r1.1.map iV)) (es':=bl r1.2) zh gW Rr rfl (ba _ _ M) (ba _ _ r1.2) rfl C1 ?_
     repeat(refine cc rfl rfl ?_;simp only[vq,seval,bp,ta,ka,ga,h0,hW,ca])
     have hrl:=dy lr;refine⟨lr,cb _,?_⟩
     repeat(refine cc rfl rfl ?_;simp only[vq,seval,bp,ta,ka,ga,h0,hW,ca,hrl])
     exact cG (h:=3) om lr rfl rfl (by first|rfl|simp[zW,lr])
   simp only[vq,seval,df c25];by_cases c23:e.op=23
   ·skip
    obtain⟨a,ha,la,ia⟩:=hp 0 om;have ga:=cK (kQ ha);have ta:=fm la;have ka:=dy la;rw[rP,if_neg c4,if_neg c5,if_neg c6,if_neg c25,if_pos c23,ha]at hD;simp only[Option.getD_some]at hD;simp only[vq,seval,dt c23];obtain⟨k,rfl⟩:∃k,i=k+1:=⟨i-1,om⟩;have q1:((0:Int)<((k+1:Nat):Int))=True:=eq_true om;have q2:((1:Int)<=((k+1:Nat):Int))=True:=eq_true om;have lk:(o.drop 1).length=k:=by simp[h0]
    have X:=fun[bf] A B=>Nh h3 la ia (L:=o) (l:=o.drop 1) rfl om om (fun w hw=>h5 w (List.mem_of_mem_drop hw)) A B;rw[lk]at X;rw[<-List.drop_one]at hD;refine ug 6 rfl rfl ?_;simp only[vq,seval,bp,ta,ka,ga,h0,hW,ca,q1,q2]
    repeat(refine cc rfl rfl ?_;simp only[vq,seval,bp,ta,ka,ga,h0,hW,ca,q1,q2])
    refine⟨om,?_⟩
    repeat(refine cc rfl rfl ?_;simp only[vq,seval,bp,ta,ka,ga,h0,hW,ca,q1,q2])
    refine x9 (tM (X _ _) ?_ ?_)
    ·rintro v R ⟨t,N',e1,rfl,rfl⟩;rw[e1]at hD;simp only[kJ,Option.map_some]at hD;rw[<-hD];simp only[vq,seval]
     repeat(refine cc rfl rfl ?_;simp only[vq,seval])
     refine aW rfl (t103 t) ?_;have ltr:=dy (eX t)
     repeat(refine cc rfl rfl ?_;simp only[vq,seval,ltr])
     refine⟨cb _,?_⟩
     repeat(refine cc rfl rfl ?_;simp only[vq,seval,ltr])
     exact cG (h:=3) om (eX _) rfl rfl (by first|rfl|simp[zW])
    ·rintro ch R ⟨e1,rfl⟩;rw[e1]at hD;simp only[kJ,Option.map_none]at hD;rw[<-hD];simp only[vq,seval];exact rfl
   simp only[vq,seval,df c23];by_cases c22:e.op=22
   ·obtain rfl:i=3:=om;obtain⟨a,ha,la,ia⟩:=hp 0 om;have ga:=cK (kQ ha);have ta:=fm la;have ka:=dy la;obtain⟨b,hb,lb,ib⟩:=hp 1 om;have gb_:=cK (kQ hb);have tb:=fm lb;have kb:=dy lb;obtain⟨c,hc,lc,ic⟩:=hp 2 om;have gc:=cK (kQ hc);have tc:=fm lc;have kc:=dy lc;rw[rP,if_neg c4,if_neg c5,if_neg c6,if_neg c25,if_neg c23,if_pos c22,ha,hb,hc]at hD;simp only[Option.getD_some]at hD;simp only[vq,seval,dt c22];have C1:=t55 h3 la ia;cases hr1:lL a 0 M with
    |none=>
     simp only[hr1,Option.bind_none]at hD;rw[hr1]at C1;rw[<-hD];refine cv 4 rfl ?_;simp only[vq,seval,bp,ta,ka,ga,tb,kb,gb_,tc,kc,gc,h0,hW,ca]
     repeat(refine dC rfl rfl ?_;simp only[vq,seval,bp,ta,ka,ga,tb,kb,gb_,tc,kc,gc,h0,hW,ca])
     refine Mu 0 [0] rfl rfl (by simp[fi,fe,JA]) (vals0:=[.aY 8 0 1 0 0,.agg (a.map iV)]) zh gW Rr rfl (ba _ _ M) C1 rfl ?_;exact fun S'=>rfl
    |some r1=>
     obtain⟨u1,l1⟩:=rF h3 ia om hr1;have m1:=u1.l;simp only[Option.bind_some,hr1]at hD;rw[hr1]at C1;refine dj ?_;refine bW ?_;simp only[vq,seval,bp,ta,ka,ga,tb,kb,gb_,tc,kc,gc,h0,hW,ca]
     repeat(refine cc rfl rfl ?_;simp only[vq,seval,bp,ta,ka,ga,tb,kb,gb_,tc,kc,gc,h0,hW,ca])
     refine Gv 0 [0] rfl rfl (by simp[fi,fe,JA]) (vals0:=[.aY 8 0 1 0 0,.agg (a.map iV)]) (v0:=iV r1.1) (es':=bl r1.2) zh gW Rr rfl (ba _ _ M) (ba _ _ r1.2) rfl C1 rfl ?_;simp only[vq,seval,bp,ta,ka,ga,tb,kb,gb_,tc,kc,gc,h0,hW,ca]
     repeat(refine cc rfl rfl ?_;simp only[vq,seval,bp,ta,ka,ga,tb,kb,gb_,tc,kc,gc,h0,hW,ca])
     have X:=fun[bf] A B C=>N3 u1.g lb lc (ib.app m1) (ic.app m1) l1 A B C;refine ug 7 rfl rfl ?_;simp only[vq,seval,bp,ta,ka,ga,tb,kb,gb_,tc,kc,gc,h0,hW,ca]
     repeat(refine cc rfl rfl ?_;simp only[vq,seval,bp,ta,ka,ga,tb,kb,gb_,tc,kc,gc,h0,hW,ca])
     refine x9 (tM (X _ _ _) ?_ ?_)
     ·rintro v R ⟨w,N',e1,lw,rfl,rfl⟩;have ltr:=dy lw;rw[<-hD,e1];simp only[vq,seval];refine⟨lw,cb _,?_⟩
      repeat(refine cc rfl rfl ?_;simp only[vq,seval,ltr])
      exact cG (h:=3) om lw rfl rfl (by first|rfl|simp[zW,lw])
     ·rintro ch R ⟨e1,rfl⟩;rw[<-hD,e1];simp only[vq,seval];exact rfl
   simp only[vq,seval,df c22];obtain rfl:i=2:=om;obtain⟨a,ha,la,ia⟩:=hp 0 om;have ga:=cK (kQ ha);have ta:=fm la;have ka:=dy la;obtain⟨b,hb,lb,ib⟩:=hp 1 om;have gb_:=cK (kQ hb);have tb:=fm lb;have kb:=dy lb;have hop:7<=e.op/\e.op<=21:=om;rw[rP,if_neg c4,if_neg c5,if_neg c6,if_neg c25,if_neg c23,if_neg c22,ha,hb]at hD;simp only[Option.getD_some]at hD;have C1:=t112 h3 e.op hop la lb ia ib;cases hr1:ko e.op a b M with
   |none=>
    simp only[Option.bind_some,hr1,Option.bind_none,Option.map_none,kJ]at hD;rw[hr1]at C1;rw[<-hD];refine cv 9 rfl ?_;simp only[vq,seval,bp,ta,ka,ga,tb,kb,gb_,h0,hW,ca]
    repeat(refine dC rfl rfl ?_;simp only[vq,seval,bp,ta,ka,ga,tb,kb,gb_,h0,hW,ca])
    refine b9 0 (vals0:=[.aY 8 0 1 0 0,.d (.int .i64 e.op),.agg (a.map iV),.agg (b.map iV)]) zh gW Rr rfl (ba _ _ M) C1 ?_;exact fq
   |some r1=>
    obtain⟨u1,l1⟩:=ES h3 la lb ia ib hop hr1;have m1:=u1.l;simp only[Option.bind_some,hr1,kJ,Option.map_some]at hD;rw[hr1]at C1;have lr:r1.1.length=16:=LD _ hD.symm;rw[<-hD];refine dj ?_;refine bW ?_;simp only[vq,seval,bp,ta,ka,ga,tb,kb,gb_,h0,hW,ca]
    repeat(refine cc rfl rfl ?_;simp only[vq,seval,bp,ta,ka,ga,tb,kb,gb_,h0,hW,ca])
    refine bF 0 (vals0:=[.aY 8 0 1 0 0,.d (.int .i64 e.op),.agg (a.map iV),.agg (b.map iV)]) (v0:=.agg (r1.1.map iV)) (es':=bl r1.2) zh gW Rr rfl (ba _ _ M) (ba _ _ r1.2) rfl C1 ?_
    repeat(refine cc rfl rfl ?_;simp only[vq,seval,bp,ta,ka,ga,tb,kb,gb_,h0,hW,ca])
    have hrl:=dy lr;refine⟨lr,cb _,?_⟩
    repeat(refine cc rfl rfl ?_;simp only[vq,seval,bp,ta,ka,ga,tb,kb,gb_,h0,hW,ca,hrl])
    exact cG (h:=3) om lr rfl rfl (by first|rfl|simp[zW,lr])
end
end Go.Proofs.Tp
