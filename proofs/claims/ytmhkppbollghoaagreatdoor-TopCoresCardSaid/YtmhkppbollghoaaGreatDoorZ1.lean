/- Proved: contracts of functions that the laws of Top reach, and plain facts for them. Conditions: those that each lemma states. -/
import Derived.Test.YtmhkppbollghoaaGreatDoorX1
import Derived.Test.YtmhkppbollghoaaGreatDoorR1
import Derived.Test.YtmhkppbollghoaaGreatDoorS1
import Derived.Test.YtmhkppbollghoaaGreatDoorH5
import Derived.Test.YtmhkppbollghoaaGreatDoorU3
set_option linter.unusedSectionVars false
set_option linter.unusedSimpArgs false
set_option linter.unusedVariables false
namespace Go.Proofs.Tp
open Go.Vx
theorem Bp(es:List (B×D))(s t:B)(x:D):fG (dU es s x) t=(decide (s=t)||fG es t):=by
 induction es with
 |nil=>simp[dU,fG]
 |cons p es ih=>
  rw[dU];by_cases hp:p.1=s
  ·rw[if_pos hp,fG,fG,hp];by_cases hs:s=t<;>simp[hs]
  ·rw[if_neg hp,fG,fG,ih];by_cases ht:p.1=t
   ·simp[ht]
   ·simp[ht]
theorem Aq(l:List Vr)(nm:B):∀j,j<=l.length->fG (Bl (l.take j).zipIdx) nm=(l.take j).any fun x=>decide (x.nm=nm)
 |0,_=>by simp[Bl,fG]
 |j+1,hj=>by
  obtain⟨x,hx⟩:=bh (l:=l) (i:=j) om;rw[bQ hx,List.zipIdx_append,List.any_append];have:(l.take j).length=j:=by simp;omega
  simp only[this,Nat.zero_add,List.zipIdx_cons,List.zipIdx_nil];rw[rV,Bp,Aq l nm j om];simp[Bool.or_comm]
theorem Lo(l:List Vr)(nm:B):fG (BT (Dg l)) nm=l.any fun x=>decide (x.nm=nm):=by have:=Aq l nm l.length (aq _);rw[List.take_length]at this;rw[Fz,this]
theorem t98(l:List Vr)(e:Ex)(he:qe l e):CallP Tryz.prog 98 [.d (.mp (Dg l)),.agg (e.d.map .d)] (.d (.int .i64 0)):=by
 have hmL:=dx;obtain⟨h1,h2⟩:=wz he.2.2;have C1:=t130 e he.1;have C2:=t132 e he.1;have hln:=kL [2] e;have hnl:=he.1.1;rw[h1]at C1;generalize dT [2] e=N at*;refine cc98.go ac98 rfl ?_;simp only[vq,seval,ac98];simp only[vq,seval,dI];refine aW (p9 _) (C1) ?_;simp only[vq,seval];simp only[vq,seval,dI,List.map_nil,List.length_nil];refine aW (p9 _) (C2) ?_;simp only[vq,seval];refine bb (fun i:Nat=>⟨cC 29 [(0,.d (.mp (Dg l))),(14,.d (.sl 1 (N.map sD))),(15,.d (.int .i64 N.length)),(16,.d (.int .i64 i))],[.live 4 [e.d.map .d]]⟩) (fun i=>i<=N.length) (fun i=>N.length-i) 0 (bk rfl vt) om ?_;rintro i h3;simp only[vq,seval];refine aZ (fun hc=>?_) (fun hc=>?_)
 ·simp only[aj]at hc;obtain⟨s,hs⟩:=bh (l:=N) (i:=i) om;have hk:=(Lo l s).trans (h2 s (af hs));simp only[vq,seval];refine⟨om,om,bg hs ?_⟩;simp only[vq,seval];simp only[vq,seval,sD,hk];refine bL (i+1) om (bk rfl ?_) om;simp only[vq,seval];rw[a8 om om]
  try trivial
 ·simp only[vq,seval]
theorem t52[bf][NB](p:Pr)(ok:g8 p)(hv:cE p=0){N:Gr}(G:ct N)(e:Ex)(he:qe p.vars e)(A B C D E:bd)(hAE:∀m,5<=m->kg m [A,B,C,D,E]):dn Tryz.prog 52 [.agg [.d (dg N)],.agg (p.d.map .d),.agg (e.d.map .d)] [A,B,C,D,E] (fun v R=>v=.cm [.aY 8 9 1 0 0,.d (.int .i64 0)]/\∃x5 x6 x7 x8,R=[A,B,C,D,E,x5,x6,x7,x8,.live 8 (MM p (jc p) N)]):=by
 have hmL:=dx;have C1:=t18 G;have C2:=t34 p ok;have C3:=t97 e he.1;rw[hv]at C2;rw[he.2.1]at C3;have C4:=t48 p ok hv;have C5:=t98 p.vars e he;have h16:p.vars.length<=16:=gK (ec hv);rw[bj]at C2 C4|-;refine cc52.gi (AC.at AC.wk [1,1,1,1,0] ac52) rfl ?_;simp only[vq,seval,ac52,AC.at,dI];refine aW nh (C1) ?_;simp only[vq,seval];refine aW nh (C2) ?_;simp only[vq,seval];simp only[vq,seval,dI];refine aW (p9 _) (C3) ?_;simp only[vq,seval];refine bW ?_;simp only[vq,seval,dI]
 repeat(refine cc rfl rfl ?_;simp only[vq,seval,dI])
 refine aW nh C4 ?_
 repeat(refine cc rfl rfl ?_;simp only[vq,seval])
 simp only[vq,seval,cz];obtain⟨X5,e5⟩:∃X5:bd,X5=.live 1 [[.d (dg N)]]:=⟨_,rfl⟩;obtain⟨X6,e6⟩:∃X6:bd,X6=.live 5 [[.d (.sl 4 (p.vars.map Vr.d)),.d (.sl 4 (p.cj.map Ex.d)),.d (.sl 4 (p.soft.map Ex.d)),.d (.sl 2 (p.bZ.map Ds.d)),.d (.sl 1 (p.br.map gD))]]:=⟨_,rfl⟩;refine bb (fun i:Nat=>⟨cC 54 [(5,.aY 4 7 1 0 0),(8,.aY 8 9 1 0 0),(32,.d (.sl 4 (p.vars.map Vr.d))),(33,.d (.int .i64 p.vars.length)),(34,.d (.int .i64 i))],[A,B,C,D,E,X5,X6,.live 4 [e.d.map .d],.obj (.mp (Bl (p.vars.take i).zipIdx)),.live 8 [[.d (dg N),.d (.sl 4 (p.vars.map Vr.d)),.d (.sl 4 (p.cj.map Ex.d)),.d (.sl 4 (p.soft.map Ex.d)),.d (.sl 2 (p.bZ.map Ds.d)),.d (.sl 1 (p.br.map gD)),.d (.sl 1 ((jc p).map iD)),.aY 0 8 0 1 0]]]⟩) (fun i=>i<=p.vars.length) (fun i=>p.vars.length-i) 0 (bk (by rw[e5,e6];rfl) vt) om ?_;rintro i h3;simp only[vq,seval];refine aZ (fun hc=>?_) (fun hc=>?_)
 ·simp only[aj]at hc;obtain⟨x,hx⟩:=bh (l:=p.vars) (i:=i) om;have hmp:Bl (p.vars.take (i+1)).zipIdx=dU (Bl (p.vars.take i).zipIdx) x.nm (.int .i64 i):=by
   have:(p.vars.take i).length=i:=by simp;omega
   rw[bQ hx,List.zipIdx_append];simp only[this,Nat.zero_add,List.zipIdx_cons,List.zipIdx_nil];rw[rV]
  simp only[vq,seval];refine⟨om,om,bg hx ?_⟩;simp only[vq,seval];simp only[vq,seval,Vr.d];refine bW ?_;simp only[vq,seval]
  repeat(refine cc rfl rfl ?_;simp only[vq,seval])
  rw[<-hmp];obtain⟨bA,bB,bC,bD,bE,_⟩:=hAE 10 om;refine bL (i+1) om (bz 10 om rfl rfl ⟨bA,bB,bC,bD,bE,by rw[e5];exact eE (e:=[dg N]),by rw[e6];exact eE (e:=p.d),eE (e:=e.d),trivial,?_,trivial⟩ ?_) om
  ·intro y hy z hz;simp only[List.mem_singleton]at hy;subst hy;simp only[aP,List.not_mem_nil,or_false]at hz;rcases hz with rfl|rfl|rfl|rfl|rfl|rfl|rfl|rfl<;>rfl
  ·simp only[vq,seval];rw[a8 om om]
   try trivial
 ·simp only[ak]at hc;obtain rfl:i=p.vars.length:=om;rw[List.take_length,<-Fz];simp only[vq,seval];refine fu _ (yz (rows':=[A,B,C,D,E,X5,X6,.live 4 [e.d.map .d],.dead,.live 8 (MM p (jc p) N)]) [8] (h:=9) rfl sm (e':=(Md p (jc p) N).map .d) rfl (fun j v v' h1 h2=>?_) rfl) ?_
  ·match j with
   |0|1|2|3|4|5|6=>simp at h1;subst h1;injection h2 with h2;subst h2;exact .same _
   |7=>simp at h1;subst h1;injection h2 with h2;subst h2;exact .mp 8 _ rfl sm
   |j+8=>simp at h1
  rw[show MM p (jc p) N=[[.d (dg N),.d (cz p.vars),.d (.sl 4 (p.cj.map Ex.d)),.d (.sl 4 (p.soft.map Ex.d)),.d (.sl 2 (p.bZ.map Ds.d)),.d (.sl 1 (p.br.map gD)),.d (.sl 1 ((jc p).map iD)),.d (.mp (Dg p.vars))]]from rfl];refine bW ?_;simp only[vq,seval,dI]
  repeat(refine cc rfl rfl ?_;simp only[vq,seval,dI])
  refine aW nh C5 ?_
  repeat(refine cc rfl rfl ?_;simp only[vq,seval])
  exact⟨rfl,X5,X6,_,_,rfl⟩
section
variable[BE][NB]
theorem vZ{h:Nat}{l:List D}:cY h (l.map .d)=l.map .d:=by
 induction l with
 |nil=>rfl
 |cons x l ih=>rw[List.map_cons,cY,ih];rfl
theorem p7{h:Nat}{w:List Nat}:cY h (w.map iV)=w.map iV:=by
 induction w with
 |nil=>rfl
 |cons x w ih=>rw[List.map_cons,cY,ih];rfl
def sO(e:Ex)(N:Gr):Option (Nat×Gr):=(IZ e N).bind fun w=>lL w.1 0 w.2
abbrev Jh(n:Nat):bd:=.live 1 [[iV n]]
theorem t54[bf](H:sI){N:Gr}(G:ct N){e:Ex}(he:okW e)(A B D x5 x6 x7 x8:bd):kS Tryz.prog 54 [.aY 1 4 1 0 0,.aY 4 2 1 0 0,.aY 1 10 1 0 0] [A,B,.live 4 [e.d.map .d],D,.live 1 [[.aY 8 9 1 0 0]],x5,x6,x7,x8,.live 8 (bl N),Jh 0,Jh 0] (fun _ R=>∃t N',sO e N=some (t,N')/\R=[A,B,.live 4 [e.d.map .d],D,.live 1 [[.aY 8 9 1 0 0]],x5,x6,x7,x8,.live 8 (bl N'),Jh t,Jh 0]) (fun ch R=>sO e N=none/\ch=rn/\R=[A,B,.live 4 [e.d.map .d],D,.live 1 [[.aY 8 9 1 0 0]],x5,x6,x7,x8,.dead,Jh 0,Jh 0]):=by
 have C1:=t56 H _ e N (aq _) G he;unfold sO;refine cc54.gx (AC.at AC.pn [] ac54) rfl ?_;simp only[vq,seval,ac54,AC.at];cases hr1:IZ e N with
 |none=>
  rw[hr1]at C1;refine cv 3 rfl ?_;simp only[vq,seval,dI]
  repeat(refine dC rfl rfl ?_;simp only[vq,seval,dI])
  refine b9 9 (vals0:=[.aY 8 0 1 0 0,.agg (e.d.map .d)]) (by simp[cJ,vZ,p7]) (by simp[hZ,Mb,yf]) Rr rfl (ba _ _ N) C1 ?_;refine OU rfl rfl (fun fr'=>?_);exact⟨rfl,rfl,rfl⟩
 |some r1=>
  obtain⟨u1,l1,i1⟩:=uY H he G hr1;have m1:=u1.l;have t1:=fm l1;have h2:=u1.g.two;rw[hr1]at C1;have C2:=t55 u1.g l1 i1;cases hr2:lL r1.1 0 r1.2 with
  |none=>
   rw[hr2]at C2;refine cv 4 rfl ?_;simp only[vq,seval,dI]
   repeat(refine dC rfl rfl ?_;simp only[vq,seval,dI])
   refine bF 9 (vals0:=[.aY 8 0 1 0 0,.agg (e.d.map .d)]) (v0:=.agg (r1.1.map iV)) (es':=bl r1.2) (by simp[cJ,vZ,p7]) (by simp[hZ,Mb,yf]) Rr rfl (ba _ _ N) (ba _ _ r1.2) rfl C1 ?_
   repeat(refine dC rfl rfl ?_;simp only[vq,seval,dI,cJ,p7,t1])
   refine b9 9 (vals0:=[.aY 8 0 1 0 0,.agg (r1.1.map iV)]) (by simp[cJ,vZ,p7]) (by simp[hZ,Mb,yf]) Rr rfl (ba _ _ r1.2) C2 ?_;refine OU rfl rfl (fun fr'=>?_);exact⟨hr2,rfl,rfl⟩
  |some r2=>
   rw[hr2]at C2;refine dj ?_;refine bW ?_;simp only[vq,seval,dI]
   repeat(refine cc rfl rfl ?_;simp only[vq,seval,dI])
   refine bF 9 (vals0:=[.aY 8 0 1 0 0,.agg (e.d.map .d)]) (v0:=.agg (r1.1.map iV)) (es':=bl r1.2) (by simp[cJ,vZ,p7]) (by simp[hZ,Mb,yf]) Rr rfl (ba _ _ N) (ba _ _ r1.2) rfl C1 ?_
   repeat(refine cc rfl rfl ?_;simp only[vq,seval,dI,cJ,p7,t1])
   refine bF 9 (vals0:=[.aY 8 0 1 0 0,.agg (r1.1.map iV)]) (v0:=iV r2.1) (es':=bl r2.2) (by simp[cJ,vZ,p7]) (by simp[hZ,Mb,yf]) Rr rfl (ba _ _ r1.2) (ba _ _ r2.2) rfl C2 ?_
   repeat(refine cc rfl rfl ?_;simp only[vq,seval,dI,bp,cJ,p7,t1])
   exact⟨r2.1,r2.2,hr2,rfl⟩
theorem po{e:Ex}(h:qe BE.p.vars e):okW e:=⟨h.1,wT h.2.1 (vh h.2.2).1,(vh h.2.2).2⟩
theorem t25(ok:g8 BE.p)(hv:cE BE.p=0)(hl:BE.lv=jc BE.p)(hb:(NB.nb:Int)=dE BE.p){N:Gr}(G:ct N){e:Ex}(he:qe BE.p.vars e):CallP Tryz.prog 25 [.agg [.d (dg N)],.agg (BE.p.d.map .d),.agg (e.d.map .d)] (cQ (sO e N)):=by
 have hmL:=dx;have H:=mW hv hl hb;have S:=fun[bf] A B C D E h=>t52 BE.p ok hv G e he A B C D E h;rw[<-hl]at S;rw[bj]at S|-;refine cc25.go (AC.at (AC.look [false,true]) [1,1,1,1,0,0] (AC.at (AC.look [false,false,false,true]) [1,0] ac25)) rfl ?_;simp only[vq,seval,ac25,AC.at,AC.look,dI];refine dh (b6 (S _ _ _ _ _ ?_) ?_)
 ·intro m _;exact⟨eE (e:=[dg N]),eE (e:=BE.p.d),eE (e:=e.d),eE (e:=[.bm]),trivial,trivial⟩
 rintro v R ⟨rfl,x5,x6,x7,x8,rfl⟩;simp only[vq,seval];refine dh (b6 (t53 (fun v R=>(∃t N',sO e N=some (t,N')/\v=.d (.int .i64 0)/\∃A B,R=[A,B,.live 4 [e.d.map .d],.live 1 [[.d .bm]],.live 1 [[.aY 8 9 1 0 0]],x5,x6,x7,x8,.live 8 (bl N'),Jh t]++R.drop 11)\/(sO e N=none/\v=.d (.int .i64 2)/\∃A B,R=[A,B,.live 4 [e.d.map .d],.live 1 [[.d .bm]],.live 1 [[.aY 8 9 1 0 0]],x5,x6,x7,x8,.dead,Jh 0]++R.drop 11)) (t54 H G (po he) _ _ _ x5 x6 x7 x8) ?_ ?_) ?_)
 ·rintro v R ⟨t,N',e1,rfl⟩;exact⟨rfl,fun r=>.inl ⟨t,N',e1,rfl,_,_,rfl⟩⟩
 ·rintro ch R ⟨e1,rfl,rfl⟩;exact⟨2,rfl,rfl,fun r=>.inr ⟨e1,rfl,_,_,rfl⟩⟩
 rintro v R (⟨t,N',e1,rfl,A,B,hR⟩|⟨e1,rfl,A,B,hR⟩)
 ·generalize R.drop 11=T at hR;subst hR;rw[e1];simp only[vq,seval];rw[y7];refine bW ?_;simp only[vq,seval]
  repeat(refine cc rfl rfl ?_;simp only[vq,seval])
  simp only[vq,seval,cQ];exact .d _
 ·generalize R.drop 11=T at hR;subst hR;rw[e1];simp only[vq,seval,cQ];exact .d _
theorem Ic(H:sI){N:Gr}(G:ct N){e:Ex}(he:okW e){r:Nat×Gr}(h:sO e N=some r):vA N r.2/\r.1<r.2.length:=by obtain⟨w,h1,h2⟩:=ab.1 h;obtain⟨u1,l1,i1⟩:=uY H he G h1;have:=u1.g.two;obtain⟨u2,l2⟩:=rF u1.g i1 om h2;exact⟨⟨u2.g,by have:=u1.l;have:=u2.l;omega⟩,l2⟩
theorem Me:ct qA where
 pre:=⟨[],rfl⟩
 len:=by decide
 pl:=fun i n h1 h2=>by have:=(ad.1 h2).1;simp[qA]at this;omega
 nd:=by decide
 lb:=fun n hn=>.inl (by simp[qA]at hn;rcases hn with rfl|rfl<;>rfl)
def vP:List Ex->Nat->Gr->Option (Nat×Gr)
 |[],t,N=>some (t,N)
 |e::l,t,N=>(sO e N).bind fun r=>(gF r.2 t r.1).bind fun s=>vP l s.1 s.2
theorem t9(ok:g8 BE.p)(hv:cE BE.p=0)(hl:BE.lv=jc BE.p)(hb:(NB.nb:Int)=dE BE.p)(l:List Ex)(hll:l.length<=4294967296)(hr:∀e∈l,qe BE.p.vars e):CallP Tryz.prog 9 [.agg (BE.p.d.map .d),.d (.sl 4 (l.map Ex.d))] (cQ (vP l 1 qA)):=by
 have hmL:=dx;have H:=mW hv hl hb;have C:=fun(N:Gr) (G:ct N) (e:Ex) (he:qe BE.p.vars e)=>t25 ok hv hl hb G he;obtain⟨D,hD⟩:∃D,vP l 1 qA=D:=⟨_,rfl⟩;rw[hD];rw[bj]at C|-;refine cc9.go ac9 rfl ?_;simp only[vq,seval,ac9];refine aW rfl t24 ?_;simp only[vq,seval];refine bb (fun s:Nat×Nat×Gr=>⟨cC 50 [(2,.aY 5 0 1 0 0),(4,.aY 1 1 1 0 0),(7,.aY 1 2 1 0 0),(8,iV s.2.1),(15,.d (.sl 4 (l.map Ex.d))),(16,.d (.int .i64 l.length)),(17,.d (.int .i64 s.1))],[.live 5 [BE.p.d.map .d],.live 1 [[.d .bm]],.live 1 [[.d (dg s.2.2)]]]⟩) (fun s=>s.1<=l.length/\vP (l.drop s.1) s.2.1 s.2.2=D/\ct s.2.2/\s.2.1<s.2.2.length) (fun s=>l.length-s.1) (0,1,qA) (bk rfl vt) ⟨om,hD,Me,by decide⟩ ?_;rintro⟨i,t,N⟩ ⟨h1,h2,h3,h4⟩;dsimp only at h1 h2 h3 h4;have h2N:=h3.two;simp only[vq,seval];refine aZ (fun hc=>?_) (fun hc=>?_)
 ·simp only[aj]at hc;obtain⟨x,hx⟩:=bh (l:=l) (i:=i) om;have hxr:=hr x (af hx);have C1:=C N h3 x hxr;rw[bt hx,vP]at h2;simp only[vq,seval];refine⟨om,om,bg hx ?_⟩;simp only[vq,seval];simp only[vq,seval,dI,bj];refine aW nh C1 ?_;cases hr1:sO x N with
  |none=>simp only[hr1,Option.bind_none]at h2;rw[<-h2];simp only[vq,seval,cQ];exact .d _
  |some r1=>
   obtain⟨u1,l1⟩:=Ic H h3 (po hxr) hr1;have m1:=u1.l;simp only[hr1,Option.bind_some]at h2;have C2:=t26 u1.g (f:=t) (g:=r1.1) om l1;simp only[vq,seval,cQ];refine aW nh C2 ?_;cases hr2:gF r1.2 t r1.1 with
   |none=>simp only[hr2,Option.bind_none]at h2;rw[<-h2];simp only[vq,seval,cQ];exact .d _
   |some r2=>
    obtain⟨u2,l2⟩:=jA u1.g (f:=t) (g:=r1.1) om l1 hr2;simp only[hr2,Option.bind_some]at h2;simp only[vq,seval,cQ];refine bL (i+1,r2.1,r2.2) (by simp only;omega) (bz 3 om rfl rfl ⟨eE (e:=BE.p.d),eE (e:=[.bm]),eE (e:=[dg r2.2]),trivial⟩ ?_) ⟨by simp only;omega,h2,u2.g,l2⟩;simp only[vq,seval];rw[a8 om om]
    try trivial
 ·simp only[ak]at hc;obtain rfl:i=l.length:=om;rw[List.drop_length,vP]at h2;rw[<-h2];simp only[vq,seval,cQ];exact .d _
end
end Go.Proofs.Tp
namespace Go.Proofs.Tp
section
variable[BE][NB]
abbrev M5(β:Nat->Bool):List Int:=kC β BE.p.vars BE.lv
theorem GC(H:sI){N:Gr}(G:ct N){e:Ex}(he:okW e):st N (sO e N) (fun i N'=>hv N' i (fun β=>ie BE.p.vars (M5 β) e)):=by refine st.jX (vO H.lv H.w _ e N (aq _) G he.g he.k) fun w L G1 h=>?_;refine st.mono (nJ G1 h.2 (k7 G1)) fun o L2 _ ho=>ho.cg fun β=>?_;have hw:Wd (o5 (dF BE.p.vars (kC β BE.p.vars BE.lv)) e):=tW _ _ e (aq _) he.g;rw[Bool.false_or,ie,<-ah];dsimp only[M5];exact decide_eq_decide.2 om
theorem Dw(H:sI):∀(l:List Ex) (t:Nat) (N:Gr) (b:yH),ct N->hv N t b->(∀e∈l,okW e)->st N (vP l t N) (fun i N'=>hv N' i (fun β=>b β&&l.all (ie BE.p.vars (M5 β))))
 |[],t,N,b,G,h,_=>st.ok G (h.cg fun β=>sm)
 |e::l,t,N,b,G,h,hl=>by rw[vP];refine st.jX (GC H G (hl e sm)) fun r L1 G1 H1=>?_;replace h:=h.app L1;refine st.jX (jz G1 h H1) fun s L2 G2 H2=>?_;refine st.mono (Dw H l s (N++L1++L2) _ G2 H2 fun e he=>hl e (by simp[he])) fun o L3 _ ho=>ho.cg fun β=>?_;rw[List.all_cons,Bool.and_assoc]
theorem rD(H:sI){l:List Ex}(hl:∀e∈l,okW e){r:Nat×Gr}(h:vP l 1 qA=some r):ct r.2/\r.1<r.2.length/\∀β,ev β r.2 r.1=l.all (ie BE.p.vars (M5 β)):=by obtain⟨g,_,h3⟩:=(Dw H l 1 qA _ Me (vQ Me) hl).h r.1 r.2 h;exact⟨g,h3.l,fun β=>by rw[h3.e,Bool.true_and]⟩
theorem IC(hv:cE BE.p=0)(hlv:BE.lv=jc BE.p)(H:sI){l:List Ex}(hl:∀e∈l,okW e)(hs:wK BE.p.vars l=true){r:Nat×Gr}(h:vP l 1 qA=some r):r.1≠0:=by obtain⟨g,_,h3⟩:=rD H hl h;obtain⟨a,ha,hh⟩:=List.any_eq_true.1 hs;obtain⟨β,hβ⟩:=Kj hv (wi ha fun x hx=>(rp hv x hx).2.2);intro h0;have h4:=h3 β;rw[h0,(sV β g).1,M5,hlv,hβ,hh]at h4;cases h4
end
end Go.Proofs.Tp
namespace Go.Proofs.Tp
open Go.Vx
def ry(p:Pr)(rl:List Ex)(lv:List Int)(g:D)(root:Nat)(small:Bool):List D:=p.d++[.sl 4 (rl.map Ex.d),.sl 1 (lv.map iD),g,.int .i64 root,.bool small]
structure qh where
 p:Pr
 rl:List Ex
 lv:List Int
 g:D
 root:Nat
 small:Bool
def qh.d(s:qh):List D:=ry s.p s.rl s.lv s.g s.root s.small
structure MJ(s:qh):Prop where
 ok:g8 s.p
 hv:cE s.p=0
 hr:∀e∈s.rl,qe s.p.vars e
 ln:s.rl.length<=4294967296
theorem t95(s:qh)(h:MJ s)(a:List Int)(ha:a.length<=maxLen)(e:Ex)(he:qe s.p.vars e):CallP Tryz.prog 95 [.agg (e.d.map .d),.d (.ptr [.ptr s.d]),.d (.ptr [.sl 1 (a.map iD)])] (.d (.bool (!(dq s.p.vars a&&ie s.p.vars a e)))):=by
 have C:=t96 s.p h.ok h.hv a ha e he;rw[bj]at C;refine cc95.go ac95 rfl ?_;simp only[vq,seval,ac95,qh.d,ry,Pr.d,List.cons_append,List.nil_append,dI];refine bW ?_;simp only[vq,seval,dI]
 repeat(refine cc rfl rfl ?_;simp only[vq,seval,dI])
 refine aW nh C ?_
 repeat(refine cc rfl rfl ?_;simp only[vq,seval])
theorem t51(s:qh)(h:MJ s)(a:List Int)(ha:dq s.p.vars a=true):CallP Tryz.prog 51 [.d (.ptr s.d),.d (.sl 1 (a.map iD))] (.d (.bool (s.rl.all (ie s.p.vars a)))):=by
 have hmL:=dx;have h16:=gK (ec h.hv);have hl:=gG ha;have hln:=h.ln;have C:CallP Tryz.prog 94 [.d (.sl 4 (s.rl.map Ex.d)),.fn (.func 95) [] [.d (.ptr [.ptr s.d]),.d (.ptr [.sl 1 (a.map iD)])]] (.d (.bool (s.rl.any fun e=> !(dq s.p.vars a&&ie s.p.vars a e)))):=xl cc94 cc149 Ex.d s.rl (fun e=> !(dq s.p.vars a&&ie s.p.vars a e)) [] [.d (.ptr [.ptr s.d]),.d (.ptr [.sl 1 (a.map iD)])] om (fun x _=>x.cN) (fun x=>by simp[kv,lY,gn]) rfl (fun x hx=>t95 s h a om x (h.hr x hx));have e:(!(s.rl.any fun e=> !(dq s.p.vars a&&ie s.p.vars a e)))=s.rl.all (ie s.p.vars a):=by rw[List.not_any_eq_all_not];simp only[Bool.not_not,ha,Bool.true_and]
 refine cc51.go ac51 rfl ?_;simp only[vq,seval,ac51,qh.d,ry,Pr.d,List.cons_append,List.nil_append];simp only[qh.d,ry,Pr.d,List.cons_append,List.nil_append]at C;refine fw (v:=.d (.bool (s.rl.any fun e=> !(dq s.p.vars a&&ie s.p.vars a e)))) (by simp[dN,eu,Go.Vx.rowAt,wD,kv,gn]) rfl (by simpa[dJ,eR,sP,Go.Vx.rowAt]using C) ?_;simp only[vq,seval];rw[e]
def nj(s:qh)(i:Nat)(pre:List Int):Nat:=((nn (s.p.vars.drop i)).filter fun b=>s.rl.all (ie s.p.vars (pre++b))).length
def JD:V:=.fn (.func 50) [] [.aY 1 2 1 0 0,.aY 1 0 1 0 0,.aY 1 3 1 0 0,.aY 1 4 1 0 0]
def vR(s:qh)(a:List Int)(n:Nat)(F:Go.Vx.Rows):Go.Vx.Rows:=.live 1 [[.d (.ptr s.d)]]::rI a:: .live 1 [[.cl 1 1 a.length 0 a.length]]:: .live 1 [[.d (.int .i64 n)]]:: .live 1 [[JD]]::F
theorem PB(s:qh)(a:List Int)(n:Nat){F:Go.Vx.Rows}(hF:okF F){m:Nat}(hm:5<=m):kg m (vR s a n F):=by
 have e:∀(v:V),hB m v=true->∀x∈[[v]],∀y∈x,hB m y=true:=fun v hv x hx y hy=>by simp only[List.mem_singleton]at hx;subst hx;simp only[List.mem_singleton]at hy;subst hy;exact hv
 exact⟨e _ rfl,nY (l:=a.map iD),e _ (by simp[hB];omega),e _ rfl,e _ (by simp[JD,hB,Ce];omega),hF m⟩
theorem KR[bf]{s:qh}{a:List Int}{n:Nat}{f:FuncId}{vals:List V}{F:Go.Vx.Rows}(hF:okF F){K:List Int->Nat->Prop} (h:dn Tryz.prog f vals (vR s a n F) (fun _ R=>∃a' n' T,K a' n'/\R=vR s a' n' F++T)):dn Tryz.prog f vals (vR s a n F) (fun _ R=>∃a' n',K a' n'/\R=vR s a' n' F):=oY h fun v R ⟨a',n',T,e1,e2⟩=>by subst e2;refine⟨.any,_,bz (F.length+5) (by simp[vR]) (List.take_left' rfl) rfl (PB s a' n' hF om) ?_,a',n',e1,rfl⟩;cases v<;>trivial
theorem GJ(s:qh){i:Nat}(h:s.p.vars.length<=i)(pre:List Int):nj s i pre=if s.rl.all (ie s.p.vars pre)=true then 1 else 0:=by unfold nj;rw[aR h,nn];simp only[List.filter_cons,List.append_nil,List.filter_nil];split<;>rfl
theorem JO(s:qh){i:Nat}{x:Vr}(hx:s.p.vars[i]? =some x)(pre:List Int):nj s i pre=((ji x).map fun u=>nj s (i+1) (pre++[u])).sum:=by
 unfold nj;rw[bt hx,nn];induction ji x with
 |nil=>rfl
 |cons u l ih=>rw[List.flatMap_cons,List.filter_append,az,ih,List.map_cons,List.sum_cons,List.filter_map,an];congr 2;refine List.filter_congr fun b _=>?_;simp
theorem pe:∀{l:List Vr} {a:List Int} {x:Vr} {u:Int},dq l a=true->jQ x u=true->dq (l++[x]) (a++[u])=true
 |[],[],x,u,_,h=>by simp[dq,h]
 |[],_::_,_,_,h,_=>by cases h
 |_::_,[],_,_,h,_=>by cases h
 |y::l,v::a,x,u,h,h2=>by rw[dq,av]at h;rw[List.cons_append,List.cons_append,dq,h.1,pe h.2 h2];rfl
theorem xH{a b:List Int}{i:Nat}{u:Int}(h:b.take (i+1)=a.take i++[u])(hl:i<=a.length):b.take i=a.take i:=by have:=congrArg (List.take i) h;rw[List.take_take,Nat.min_eq_left om]at this;rw[this,List.take_append_of_le_length so,List.take_take,Nat.min_self]
theorem Fo(f:Int->Nat)(j:Nat):∀W,j<=W->(((List.range j).map Int.ofNat).map f).sum<=(((List.range W).map Int.ofNat).map f).sum
 |0,h=>by obtain rfl:j=0:=om;exact aq _
 |W+1,h=>by
  by_cases e:j=W+1
  ·rw[e];exact aq _
  ·have:=Fo f j W om;rw[List.range_succ,List.map_append,List.map_append,List.sum_append];omega
theorem wx(f:Int->Nat)(j:Nat):(((List.range (j+1)).map Int.ofNat).map f).sum=(((List.range j).map Int.ofNat).map f).sum+f j:=by rw[List.range_succ,List.map_append,List.map_append,List.sum_append];simp
theorem t50[bf](s:qh)(h:MJ s):∀(k i:Nat) (a:List Int) (n:Nat) (F:Go.Vx.Rows),i+k=s.p.vars.length->a.length=s.p.vars.length->dq (s.p.vars.take i) (a.take i)=true->n+nj s i (a.take i)<=1048576->okF F->F.length+k<=30->dn Tryz.prog 50 [.d (.int .i64 i),.aY 1 2 1 0 0,.aY 1 0 1 0 0,.aY 1 3 1 0 0,.aY 1 4 1 0 0] (vR s a n F) (fun _ R=>∃a' n',(a'.length=s.p.vars.length/\a'.take i=a.take i/\n'=n+nj s i (a.take i))/\R=vR s a' n' F):=by
 intro k i a n F hik hal hpre hnb hF hFl;have hmL:=dx;have h16:=gK (ec h.hv);have r0:∀B:Go.Vx.Rows,Go.Vx.rowAt (F++B) F.length=Go.Vx.rowAt B 0:=fun B=>cd om;have s0:∀(B:Go.Vx.Rows) (r:bd),setAt (F++B) F.length r=F++setAt B 0 r:=fun B r=>cf om;refine KR hF ?_;cases k with
 |zero=>
  have hpa:dq s.p.vars a=true:=by rw[al om,al om]at hpre;exact hpre
  rw[GJ s om,al om]at*;have C:=t51 s h a hpa;unfold vR JD;refine cc50.gi (AC.at (AC.look [false,false,false,true]) [1,1,1,1,2,2,1,1,0,2,1,1] (AC.at (AC.look [false,false,false,true]) [1,1,0,1,0,1,0] ac50)) rfl ?_;simp only[vq,seval,ac50,AC.at,AC.look,r0,s0,rI,an];simp only[vq,seval,dt (show(i:Int)=(a.length:Int) by omega),r0,s0];have hsn:=I5 (R:=.live 1 [[.d (.ptr s.d)]]:: .live 1 ((a.map iD).map (·.map .d)):: .live 1 [[.cl 1 1 a.length 0 a.length]]:: .live 1 [[.d (.int .i64 n)]]:: .live 1 [[.fn (.func 50) [] [.aY 1 2 1 0 0,.aY 1 0 1 0 0,.aY 1 3 1 0 0,.aY 1 4 1 0 0]]]::F) (h:=1) (sz:=1) (es:=a.map iD) rfl;rw[an]at hsn;refine fw (v:=.d (.bool (s.rl.all (ie s.p.vars a)))) (fun v hv=>?_) rfl ?_ ?_
  ·simp only[List.nil_append,List.append_nil,aP,List.not_mem_nil,or_false]at hv;rcases hv with rfl|rfl
   ·rfl
   ·exact hsn.1
  ·simp only[List.nil_append,List.append_nil,List.map_cons,List.map_nil,hsn.2];exact C
  cases hh:s.rl.all (ie s.p.vars a)with
  |true=>rw[hh]at hnb;simp only[vq,seval,r0,s0];rw[a8 om om];exact⟨a,n+1,[],⟨hal,al om,rfl⟩,sm⟩
  |false=>simp only[vq,seval,r0,s0];exact⟨a,n,[],⟨hal,al om,rfl⟩,sm⟩
 |succ k=>
  obtain⟨x,hx⟩:=bh (l:=s.p.vars) (i:=i) om;obtain⟨w1,w2,v0,v1⟩:=rp h.hv x (af hx);have IH:=fun a n F=>t50 s h k (i+1) a n F om;rw[JO s hx]at hnb|-;obtain⟨z,hz⟩:=bh (l:=a) (i:=i) om;have htk:∀(b:List Int) (u:Int),b.length=s.p.vars.length->b.take i=a.take i->(b.set i u).take (i+1)=a.take i++[u]:=fun b u hb hbt=>by rw[List.take_set,List.take_succ_eq_append_getElem om,hbt,dA _ _ _ _ so]
  unfold vR JD;refine cc50.gi (AC.at (AC.look [false,false,false,true]) [1,1,1,1,2,2,1,1,0,2,1,1] (AC.at (AC.look [false,false,false,true]) [1,1,0,1,0,1,0] ac50)) rfl ?_;simp only[vq,seval,ac50,AC.at,AC.look,r0,s0,rI,an];simp only[vq,seval,df (show¬(i:Int)=(a.length:Int) by omega),r0,s0,qh.d,ry,Pr.d,cz,List.cons_append,List.nil_append];refine⟨om,om,bg hx ?_⟩;simp only[vq,seval];simp only[vq,seval,Vr.d,r0,s0];have hFs:=qS (e:=x.d) (sz:=4) hF;obtain⟨SD,hSD⟩:∃SD,s.d=SD:=⟨_,rfl⟩;have hgz:=zN hz;by_cases hm:x.m=0
  ·have vQ:ji x=[x.v]:=by unfold ji;rw[if_pos hm]
   rw[vQ]at hnb|-;simp only[List.map_cons,List.map_nil,List.sum_cons,List.sum_nil,Nat.add_zero]at hnb|-;simp only[vq,seval,dt hm,r0,s0,an];refine⟨om,om,b8 hgz ?_⟩;simp only[vq,seval,r0,s0];rw[vo];have hpre2:dq (s.p.vars.take (i+1)) ((a.set i x.v).take (i+1))=true:=by rw[htk a _ hal rfl,bQ hx];exact pe hpre (by simp[jQ,v0,v1])
   have W:=IH (a.set i x.v) n (F++[.live 4 [x.d.map .d]]) (by simp[hal]) hpre2 (by rw[htk a _ hal rfl];exact hnb) hFs so;rw[htk a _ hal rfl]at W;rw[a8 om om];have hla:(a.set i x.v).length=a.length:=by simp
   unfold vR JD rI at W;rw[hla]at W;refine dh (b6 W ?_);rintro v R ⟨a',n',⟨e1,e2,e3⟩,rfl⟩;simp only[vq,seval,r0,s0];exact⟨a',n',[.live 4 [x.d.map .d]],⟨e1,xH e2 om,e3⟩,rfl⟩
  ·have vQ:ji x=(List.range (2^x.w.toNat)).map Int.ofNat:=by unfold ji;rw[if_neg hm]
   rw[vQ]at hnb|-;obtain⟨wn,hwn⟩:=Int.eq_ofNat_of_zero_le (show 0<=x.w by omega);rw[hwn,Int.toNat_natCast]at hnb v1;have hp:=vX (w:=wn) om;have hsh:IntKind.i64.wrap (1*2^min wn IntKind.i64.bits)=((2^wn:Nat):Int):=by rw[Nat.min_eq_left (by show wn<=64;omega),Int.one_mul,a8 om om,Int.natCast_pow];rfl
   simp only[vq,seval,df hm,r0,s0,hwn];refine⟨om,?_⟩;rw[hsh];have hsd:s.d=[.sl 4 (s.p.vars.map Vr.d),.sl 4 (s.p.cj.map Ex.d),.sl 4 (s.p.soft.map Ex.d),.sl 2 (s.p.bZ.map Ds.d),.sl 1 (s.p.br.map gD),.sl 4 (s.rl.map Ex.d),.sl 1 (s.lv.map iD),s.g,.int .i64 s.root,.bool s.small]:=rfl;rw[<-hsd];have hxd:x.d.map V.d=[.d (.str x.nm),.d (.int .i64 wn),.d (.int .i64 x.m),.d (.int .i64 x.v)]:=by rw[Vr.d,hwn];rfl
   rw[hxd]at hFs;generalize hX:bd.live 4 [[.d (.str x.nm),.d (.int .i64 wn),.d (.int .i64 x.m),.d (.int .i64 x.v)]]=X at*;clear hgz hz;have hasg:∀j:Nat,j<2^wn->jQ x (j:Int)=true:=fun j hj=>by
    have e:((2^wn:Nat):Int)=2^wn:=by rw[Int.natCast_pow];rfl
    simp[jQ,hwn,hm];omega
   have hWn:2^wn<=256:=by
    have e:((2^wn:Nat):Int)=2^wn:=by rw[Int.natCast_pow];rfl
    omega
   clear hp hsh v1;generalize 2^wn=W at*;refine bb (fun t:Nat×List Int×Nat=>⟨cC 52 [(0,.d (.int .i64 i)),(1,.aY 1 2 1 0 0),(2,.aY 1 0 1 0 0),(3,.aY 1 3 1 0 0),(4,.aY 1 4 1 0 0),(39,.d (.int .i64 W)),(40,.d (.int .i64 t.1))],vR s t.2.1 t.2.2 (F++[X])⟩) (fun t=>t.1<=W/\t.2.1.length=s.p.vars.length/\t.2.1.take i=a.take i/\t.2.2=n+(((List.range t.1).map Int.ofNat).map fun u=>nj s (i+1) (a.take i++[u])).sum) (fun t=>W-t.1) (0,a,n) (bk rfl vt) ⟨om,hal,rfl,sm⟩ ?_;rintro⟨j,a',n'⟩ ⟨h1,h2,h3,h4⟩;dsimp only at h1 h2 h3 h4;simp only[vq,seval,vR,JD,rI];refine aZ (fun hc=>?_) (fun hc=>?_)
   ·simp only[aj]at hc;have hsl:=Fo (fun u=>nj s (i+1) (a.take i++[u])) (j+1) W om;rw[wx]at hsl;obtain⟨z,hz⟩:=bh (l:=a') (i:=i) om;have hgz:=zN hz;simp only[vq,seval,r0,s0,an];refine⟨om,om,b8 hgz ?_⟩;simp only[vq,seval,r0,s0];rw[vo];have hpre2:dq (s.p.vars.take (i+1)) ((a'.set i (j:Int)).take (i+1))=true:=by rw[htk a' _ h2 h3,bQ hx];exact pe hpre (hasg j om)
    have W:=IH (a'.set i (j:Int)) n' (F++[X]) (by simp[h2]) hpre2 (by rw[htk a' _ h2 h3];omega) hFs so;rw[htk a' _ h2 h3]at W;rw[a8 om om];have hla:(a'.set i (j:Int)).length=a'.length:=by simp
    unfold vR JD rI at W;rw[hla]at W;refine dh (b6 W ?_);rintro v R ⟨b,m,⟨e1,e2,e3⟩,rfl⟩;simp only[vq,seval,r0,s0];refine bL (j+1,b,m) (by simp only;omega) (bk rfl ?_) ⟨by simp only;omega,e1,xH e2 om,by simp only;rw[wx,e3,h4,Nat.add_assoc]⟩;simp only[vq,seval];rw[a8 om om]
    try trivial
   ·simp only[ak]at hc;obtain rfl:j=W:=om;simp only[vq,seval,r0,s0];exact⟨a',n',[X],⟨h2,h3,h4⟩,rfl⟩
theorem Lf(s:qh)(h:MJ s):nj s 0 []<=1048576:=by have hw:=pP h.hv;have h1:=(oX (l:=s.p.vars) fun x hx=>(hw x hx).1);have h2:=(tA (ec h.hv)).2.2;have h3:=List.length_filter_le (fun b=>s.rl.all (ie s.p.vars b)) (nn s.p.vars);have h4:2^(dk s.p.vars).toNat<=2^20:=Nat.pow_le_pow_right dc om;unfold nj;simp only[List.drop_zero,List.nil_append];omega
theorem t23(s:qh)(h:MJ s):CallP Tryz.prog 23 [.d (.ptr s.d)] (.d (.int .i64 (nj s 0 []))):=by have hmL:=dx;have h16:=gK (ec h.hv);have hb:=Lf s h;have W:=fun[bf]=>t50 s h s.p.vars.length 0 (List.replicate s.p.vars.length 0) 0 [] om sm rfl (by simpa using hb) (fun m=>trivial) so;refine cc23.go (AC.at (AC.look [false,true]) [1,1,1,1,1,0] ac23) rfl ?_;simp only[vq,seval,ac23,AC.at,AC.look,qh.d,ry,Pr.d,cz,List.cons_append,List.nil_append,an];refine⟨om,om,om,om,?_⟩;simp only[vR,JD,rI,List.length_replicate,List.map_replicate,iD,List.map_cons,List.map_nil,List.take_zero,Nat.zero_add]at W;refine dh (b6 W ?_);rintro v R ⟨a',n',⟨e1,_,rfl⟩,rfl⟩;simp only[vq,seval]
theorem t49(p:Pr)(ok:g8 p)(hd:∀x∈p.bZ,0<=x.v/\x.v<p.vars.length)(h16:p.vars.length<=16):CallP Tryz.prog 49 [.agg (p.d.map .d)] (.fn (.func 92) [] [.any]):=by
 have hmL:=dx;have hdl:=ok.lens.2.2.1;refine cc49.go ac49 rfl ?_;simp only[vq,seval,ac49,bj,cz,an];refine⟨om,om,om,om,?_⟩;obtain⟨n,hn⟩:∃n,p.vars.length=n:=⟨_,rfl⟩;simp only[hn,Int.toNat_natCast];refine bb (fun t:Nat×List D=>⟨cC 25 [(3,.aY 1 2 1 0 0),(11,.d (.sl 2 (p.bZ.map Ds.d))),(12,.d (.int .i64 p.bZ.length)),(13,.d (.int .i64 t.1))],[.live 5 [p.d.map .d],.live 1 (t.2.map fun x=>[V.d x]),.live 1 [[.cl 1 1 n 0 n]]]⟩) (fun t=>t.1<=p.bZ.length/\t.2.length=n) (fun t=>p.bZ.length-t.1) (0,List.replicate n .bm) (bk (by simp[bj,cz]) vt) ⟨om,sm⟩ ?_;rintro⟨i,o⟩ ⟨h1,h2⟩;dsimp only at h1 h2;simp only[vq,seval];refine aZ (fun hc=>?_) (fun hc=>?_)
 ·simp only[aj]at hc;obtain⟨x,hx⟩:=bh (l:=p.bZ) (i:=i) om;obtain⟨v0,v1⟩:=hd x (af hx);obtain⟨k,hk⟩:=Int.eq_ofNat_of_zero_le v0;obtain⟨z,hz⟩:=bh (l:=o) (i:=k) om;have gz:(o.map fun x=>[V.d x])[k]? =some [.d z]:=by rw[ar,hz];rfl
  have q0:((0:Int)<=(k:Nat))=True:=eq_true om;have q1:(((k:Nat):Int)<(n:Nat))=True:=eq_true om;simp only[vq,seval];refine⟨om,om,bg hx ?_⟩;simp only[vq,seval];simp only[vq,seval,Ds.d,hk,q0,q1,h2,an];refine b8 gz ?_;simp only[vq,seval];have hs:(o.map fun x=>[V.d x]).set k [.d (.sl 4 (x.ws.map Wt.d))]=(o.set k (.sl 4 (x.ws.map Wt.d))).map fun x=>[V.d x]:=by rw[List.map_set]
  rw[hs];refine bL (i+1,o.set k (.sl 4 (x.ws.map Wt.d))) (by simp only;omega) (bz 3 om rfl rfl ⟨eE (e:=p.d),fun e he v hv=>?_,fun e he v hv=>?_,trivial⟩ ?_) ⟨by simp only;omega,by simp[h2]⟩
  ·obtain⟨y,_,rfl⟩:=aw.1 he;simp only[List.mem_singleton]at hv;subst hv;rfl
  ·simp only[List.mem_singleton]at he;subst he;simp only[List.mem_singleton]at hv;subst hv;rfl
  ·simp only[vq,seval];rw[a8 om om]
   try trivial
 ·simp only[vq,seval];exact .fn _ _ _ _ _ rfl rfl (fun j v v' h=>by simp at h) (fun j v v' h1 h2=>by
   match j with
   |0=>simp at h2;subst h2;exact .any _
   |j+1=>simp at h2)
theorem z8{R:Go.Vx.Rows}{h sz:Nat}{cs:List D}{r:List V}(hr:R[h]? =some (.live sz [cs.map .d++r]))(hl:cs.length<=sz):ed R (.aY sz h 1 0 0) (.d (.ptr cs)):=.aY sz h 1 0 0 _ _ cs hr rfl rfl om fun j v y h1 h2=>by rw[Nat.zero_add,aH (by simpa using(ad.1 h2).1),ar,h2]at h1;injection h1 with h1;subst h1;exact .d _
theorem Kk{p:Pr}(hv:cE p=0):∀x∈p.bZ,0<=x.v/\x.v<p.vars.length:=fun x hx=>by
 have h:=(uM p.vars p.bZ [] (js hv).2.2.2.1 x hx).1;unfold gj at h;simp only[av,aj]at h;obtain⟨h0,h1⟩:=h;split at h1
 ·rename_i y hy;have:=(ad.1 hy).1;omega
 ·cases h1
def ql(p:Pr)(r:Option (Nat×Gr)):qh:=match r with
 |some (t,N)=>⟨p,ik p,jc p,dg N,t,true⟩
 |none=>⟨p,ik p,jc p,.bm,0,false⟩
section
variable[BE][NB]
abbrev Bo:Option (Nat×Gr):=vP (ik BE.p) 1 qA
theorem t22(ok:g8 BE.p)(hv:cE BE.p=0)(hl:BE.lv=jc BE.p)(hb:(NB.nb:Int)=dE BE.p)(h18:dE BE.p<=18)(hll:(ik BE.p).length<=4294967296):CallP Tryz.prog 22 [.agg (BE.p.d.map .d)] (if gE BE.p (db BE.p)=true then .cm [.d (.ptr (ql BE.p Bo).d),.d (.int .i64 0)]else .cm [.d .kY,.d (.int .i64 11)]):=by
 have hmL:=dx;have C1:=t7 BE.p ok hv h18;have C2:=t48 BE.p ok hv;have C3:=t49 BE.p ok (Kk hv) (gK (ec hv));have C4:=t9 ok hv hl hb (ik BE.p) hll (kA ok hv);rw[bj]at C1 C2 C3 C4|-;refine cc22.go ac22 rfl ?_;simp only[vq,seval,ac22];by_cases hs:gE BE.p (db BE.p)=true
 ·rw[if_pos hs]at C1|-;refine aW nh C1 ?_;simp only[vq,seval];refine bW ?_;simp only[vq,seval]
  repeat(refine cc rfl rfl ?_;simp only[vq,seval])
  refine aW nh C2 ?_
  repeat(refine cc rfl rfl ?_;simp only[vq,seval])
  refine aW nh C3 ?_
  repeat(refine cc rfl rfl ?_;simp only[vq,seval])
  refine aW nh C4 ?_;simp only[ql,Bo];cases hr:vP (ik BE.p) 1 qA with
  |none=>simp only[vq,seval,cQ];exact z8 (sz:=11) (r:=[.fn (.func 92) [] [.any]]) rfl (by simp[qh.d,ry,Pr.d])
  |some r=>simp only[vq,seval,cQ];exact z8 (sz:=11) (r:=[.fn (.func 92) [] [.any]]) rfl (by simp[qh.d,ry,Pr.d])
 ·rw[if_neg hs]at C1|-;refine aW nh C1 ?_;simp only[vq,seval];exact .d _
def qR:Int:=match Bo with
 |some (t,N)=>fv (dB N) t*2^jU N t
 |none=>nj (ql BE.p none) 0 []
theorem t8(ok:g8 BE.p)(hv:cE BE.p=0)(hl:BE.lv=jc BE.p)(hb:(NB.nb:Int)=dE BE.p)(h18:dE BE.p<=18)(hll:(ik BE.p).length<=4294967296):CallP Tryz.prog 8 [.agg (BE.p.d.map .d)] (if gE BE.p (db BE.p)=true then .cm [.d (.int .i64 qR),.d (.int .i64 0)]else .cm [.d (.int .i64 0),.d (.int .i64 11)]):=by
 have hmL:=dx;have H:=mW hv hl hb;have C1:=t22 ok hv hl hb h18 hll;have C2:=t11 BE.p ok;rw[bj]at C1 C2|-;refine cc8.go ac8 rfl ?_;simp only[vq,seval,ac8];by_cases hs:gE BE.p (db BE.p)=true
 ·rw[if_pos hs]at C1|-;refine aW nh C1 ?_;unfold qR;simp only[ql,Bo];cases hr:vP (ik BE.p) 1 qA with
  |none=>have hS:MJ (ql BE.p none):=⟨ok,hv,kA ok hv,hll⟩;have C3:=t23 _ hS;simp only[ql,qh.d,ry,Pr.d,List.cons_append,List.nil_append]at C3;simp only[vq,seval,ql,qh.d,ry,Pr.d,List.cons_append,List.nil_append];refine aW nh C3 ?_;simp only[vq,seval]
  |some r=>
   obtain⟨G,h2,_⟩:=rD H (fun e he=>po (kA ok hv e he)) hr;have C3:=t10 G h2;rw[hb]at C3;simp only[vq,seval,ql,qh.d,ry,Pr.d,List.cons_append,List.nil_append];refine bW ?_;simp only[vq,seval]
   repeat(refine cc rfl rfl ?_;simp only[vq,seval])
   refine aW nh C2 ?_
   repeat(refine cc rfl rfl ?_;simp only[vq,seval])
   refine aW nh C3 ?_
   repeat(refine cc rfl rfl ?_;simp only[vq,seval])
 ·rw[if_neg hs]at C1|-;refine aW nh C1 ?_;simp only[vq,seval]
end
theorem P5(p:Pr)(ok:g8 p)(hv:cE p≠0):CallP Tryz.prog 22 [.agg (p.d.map .d)] (.cm [.d .kY,.d (.int .i64 1)]):=by have C1:=Ji p ok hv;rw[bj]at C1|-;refine cc22.go ac22 rfl ?_;simp only[vq,seval,ac22];refine aW nh C1 ?_;simp only[vq,seval];exact .d _
theorem QU(p:Pr)(ok:g8 p)(hv:cE p≠0):CallP Tryz.prog 8 [.agg (p.d.map .d)] (.cm [.d (.int .i64 0),.d (.int .i64 1)]):=by have C1:=P5 p ok hv;rw[bj]at C1|-;refine cc8.go ac8 rfl ?_;simp only[vq,seval,ac8];refine aW nh C1 ?_;simp only[vq,seval]
end Go.Proofs.Tp
