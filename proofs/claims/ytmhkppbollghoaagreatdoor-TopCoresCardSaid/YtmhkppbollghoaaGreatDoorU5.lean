/- Proved: contracts of functions that the laws of Top reach, and plain facts for them. Conditions: those that each lemma states. -/
import Derived.Test.YtmhkppbollghoaaGreatDoorU3
import Derived.Test.YtmhkppbollghoaaGreatDoorK1
import Derived.Test.YtmhkppbollghoaaGreatDoorXk
set_option linter.unusedSectionVars false
set_option linter.unusedSimpArgs false
set_option linter.unusedVariables false
namespace Go.Proofs.Tp
open Go.Vx
theorem t57[NB]{N:List Nd}(h:ct N){x:Key}(hx:xY N x){f:FuncId}{op:Bool->Bool->Bool->Bool}(hop:∀a b c,CallP Tryz.prog f [.d (.bool a),.d (.bool b),.d (.bool c)] (.d (.bool (op a b c)))):CallP Tryz.prog 57 [.agg [.d (dg N)],.agg ((jV x).map .d),.fn (.func f) [] []] (cQ (sb op N x)):=by
 have hmL:=dx;have hlen:=h.len;have C1:=t113 h [x.1,x.2.1,x.2.2] (by simp;exact hx) sm;have ho:Op.ok ⟨.live 1 [[.d (dg N)]],.live 3 [(jV x).map .d],.live 1 [[.d .bm]],.live 1 [[.d (dg N)]],.un,f⟩:=fun m hm=>⟨eE (e:=[dg N]),eE (e:=jV x),eE (e:=[.bm]),eE (e:=[dg N]),trivial⟩;have C2:=fun(cp:bf)=> @t114 cp _ N h (.live 1 [[.d (dg N)]]) (.live 3 [(jV x).map .d]) (.live 1 [[.d .bm]]) .un .un (fun m hm=>⟨eE (e:=[dg N]),eE (e:=jV x),eE (e:=[.bm]),trivial,trivial⟩);have hinv:inv op ⟨N,false,[]⟩:=⟨h,fun e=>(by cases e),fun _ p hp=>(by cases hp)⟩;have C3:=fun(cp:bf)=> @t116 cp _ _ ho op hop 21 ⟨N,false,[]⟩ x [] hinv hx om (fun _=>trivial) sm;have A:=pL op 21 ⟨N,false,[]⟩ x hinv hx om;unfold sb;generalize AV op 21 ⟨N,false,[]⟩ x=r at C3 A|-;refine cc57.go (AC.at AC.wk [1,1,0] (AC.at (AC.look [false,true]) [1,1,0] ac57)) rfl ?_;simp only[vq,seval,ac57,AC.at,AC.look,jV,List.map_cons,List.map_nil];refine fw (v:=.d (.bool true)) (fun v hv=>?_) rfl ?_ ?_
 ·simp only[List.nil_append,List.append_nil,aP,List.not_mem_nil,or_false]at hv;rcases hv with rfl|rfl
  ·exact(JE _ [dg N]).1
  ·exact(I5 (es:=[x.1,x.2.1,x.2.2].map nD) rfl).1
 ·simp only[List.nil_append,List.append_nil,List.map_cons,List.map_nil];rw[show(V.cl 1 3 3 0 3)=V.cl 1 3 ([x.1,x.2.1,x.2.2].map nD).length 0 ([x.1,x.2.1,x.2.2].map nD).length from rfl,(I5 (es:=[x.1,x.2.1,x.2.2].map nD) rfl).2];exact(congrArg (fun y=>CallP Tryz.prog 113 [y,.d (.sl 1 ([x.1,x.2.1,x.2.2].map nD))] (.d (.bool true))) (JE _ [dg N]).2).mpr C1
 simp only[vq,seval];refine fu ⟨cC 38 [(2,.fn (.func f) [] []),(3,.aY 1 0 1 0 0),(4,.aY 3 1 1 0 0),(6,.aY 1 2 1 0 0)],[.live 1 [[.d (dg N)]],.live 3 [(jV x).map .d],.live 1 [[.d .bm]]]⟩ (bz 3 om rfl rfl ⟨eE (e:=[dg N]),eE (e:=jV x),eE (e:=[.bm]),trivial⟩ (by simp only[vq,seval])) ?_;simp only[vq,seval,jV,List.map_cons,List.map_nil];refine dh (b6 (C2 _) ?_);rintro _ _ ⟨rfl,rfl⟩;unfold bR;simp only[vq,seval];have C4:=fun(cp:bf) (ho:∀K,(Pq ⟨.live 1 [[.d (dg N)]],.live 3 [(jV x).map .d],.live 1 [[.d .bm]],.live 1 [[.d (dg N)]],.un,f⟩ K).ok)=> @t115 cp _ _ (ho r.2.K) _ A.v.g r.2.full [] (fun _=>trivial) r.1;have hkD:(jV x).map V.d=[.d (.int .i64 x.1),.d (.int .i64 x.2.1),.d (.int .i64 x.2.2)]:=rfl;rw[hkD]at C3 C4|-;refine bW ?_;simp only[vq,seval]
 repeat(refine cc rfl rfl ?_;simp only[vq,seval])
 refine fO (v:=.d (.int .i64 r.1)) (ups:=[(3,.obj (.mq 3 (Cu r.2.K))),(6,.obj (.mq 3 (xX 0 r.2.N))),(7,JF r.2.N r.2.full),(8,I9 r.2.N)]) sm rfl rfl (C3 _) ?_
 repeat(refine cc rfl rfl ?_;simp only[vq,seval])
 refine fO (v:=uO r.2.full r.2.N.length r.1) (ups:=[]) sm rfl rfl (C4 _ (fun K=>Op.pre ho K)) ?_;cases hf:r.2.full with
 |true=>
  rw[if_pos rfl,cQ,uO,if_pos rfl]
  repeat(refine cc rfl rfl ?_;simp only[vq,seval])
  exact .d _
 |false=>
  rw[if_neg sm,cQ,uO,if_neg sm]
  repeat(refine cc rfl rfl ?_;simp only[vq,seval])
  exact da (es:=r.2.N.map Nd.d) rfl sm om Qk (by rw[List.drop_zero,al sm])
theorem t58(a b c:Bool):CallP Tryz.prog 58 [.d (.bool a),.d (.bool b),.d (.bool c)] (.d (.bool (a&&b))):=by refine cc58.go ac58 rfl ?_;simp only[vq,seval,ac58];cases a<;>cases b<;>cases c<;>simp only[vq,seval]<;>rfl
theorem t203(a b c:Bool):CallP Tryz.prog 203 [.d (.bool a),.d (.bool b),.d (.bool c)] (.d (.bool (a||b))):=by refine cc203.go ac203 rfl ?_;simp only[vq,seval,ac203];cases a<;>cases b<;>cases c<;>simp only[vq,seval]<;>rfl
theorem t205(a b c:Bool):CallP Tryz.prog 205 [.d (.bool a),.d (.bool b),.d (.bool c)] (.d (.bool (!a))):=by refine cc205.go ac205 rfl ?_;simp only[vq,seval,ac205]
theorem t234(a b c:Bool):CallP Tryz.prog 234 [.d (.bool a),.d (.bool b),.d (.bool c)] (.d (.bool (a !=b))):=by refine cc234.go ac234 rfl ?_;simp only[vq,seval,ac234]
theorem t206(a b c:Bool):CallP Tryz.prog 206 [.d (.bool a),.d (.bool b),.d (.bool c)] (.d (.bool ((a&&b)||(!a&&c)))):=by refine cc206.go ac206 rfl ?_;simp only[vq,seval,ac206];cases a<;>cases b<;>cases c<;>simp only[vq,seval]<;>rfl
theorem t26[NB]{N:List Nd}(G:ct N){f g:Nat}(hf:f<N.length)(hg:g<N.length):CallP Tryz.prog 26 [.agg [.d (dg N)],.d (.int .i64 f),.d (.int .i64 g)] (cQ (gF N f g)):=by
 have C:=t57 G (x:=(f,g,g)) ⟨hf,hg,hg⟩ t58;change CallP Tryz.prog 57 _ (cQ (gF N f g))at C;simp only[jV,List.map_cons,List.map_nil]at C;refine cc26.go ac26 rfl ?_;simp only[vq,seval,ac26];generalize gF N f g=r at C;refine aW nh (C) ?_;simp only[vq,seval];cases r with
 |none=>simp only[vq,seval,cQ];exact .d _
 |some t=>simp only[vq,seval,cQ];exact .d _
theorem t157[NB]{N:List Nd}(G:ct N){f g:Nat}(hf:f<N.length)(hg:g<N.length):CallP Tryz.prog 157 [.agg [.d (dg N)],.d (.int .i64 f),.d (.int .i64 g)] (cQ (qz N f g)):=by
 have C:=t57 G (x:=(f,g,g)) ⟨hf,hg,hg⟩ t203;change CallP Tryz.prog 57 _ (cQ (qz N f g))at C;simp only[jV,List.map_cons,List.map_nil]at C;refine cc157.go ac157 rfl ?_;simp only[vq,seval,ac157];generalize qz N f g=r at C;refine aW nh (C) ?_;simp only[vq,seval];cases r with
 |none=>simp only[vq,seval,cQ];exact .d _
 |some t=>simp only[vq,seval,cQ];exact .d _
theorem t207[NB]{N:List Nd}(G:ct N){f g:Nat}(hf:f<N.length)(hg:g<N.length):CallP Tryz.prog 207 [.agg [.d (dg N)],.d (.int .i64 f),.d (.int .i64 g)] (cQ (lZ N f g)):=by
 have C:=t57 G (x:=(f,g,g)) ⟨hf,hg,hg⟩ t234;change CallP Tryz.prog 57 _ (cQ (lZ N f g))at C;simp only[jV,List.map_cons,List.map_nil]at C;refine cc207.go ac207 rfl ?_;simp only[vq,seval,ac207];generalize lZ N f g=r at C;refine aW nh (C) ?_;simp only[vq,seval];cases r with
 |none=>simp only[vq,seval,cQ];exact .d _
 |some t=>simp only[vq,seval,cQ];exact .d _
theorem t159[NB]{N:List Nd}(G:ct N){f:Nat}(hf:f<N.length):CallP Tryz.prog 159 [.agg [.d (dg N)],.d (.int .i64 f)] (cQ (gY N f)):=by
 have C:=t57 G (x:=(f,f,f)) ⟨hf,hf,hf⟩ t205;change CallP Tryz.prog 57 _ (cQ (gY N f))at C;simp only[jV,List.map_cons,List.map_nil]at C;refine cc159.go ac159 rfl ?_;simp only[vq,seval,ac159];generalize gY N f=r at C;refine aW nh (C) ?_;simp only[vq,seval];cases r with
 |none=>simp only[vq,seval,cQ];exact .d _
 |some t=>simp only[vq,seval,cQ];exact .d _
theorem t163[NB]{N:List Nd}(G:ct N){f g h:Nat}(hf:f<N.length)(hg:g<N.length)(hh:h<N.length):CallP Tryz.prog 163 [.agg [.d (dg N)],.d (.int .i64 f),.d (.int .i64 g),.d (.int .i64 h)] (cQ (np N f g h)):=by
 have C:=t57 G (x:=(f,g,h)) ⟨hf,hg,hh⟩ t206;change CallP Tryz.prog 57 _ (cQ (np N f g h))at C;simp only[jV,List.map_cons,List.map_nil]at C;refine cc163.go ac163 rfl ?_;simp only[vq,seval,ac163];generalize np N f g h=r at C;refine aW nh (C) ?_;simp only[vq,seval];cases r with
 |none=>simp only[vq,seval,cQ];exact .d _
 |some t=>simp only[vq,seval,cQ];exact .d _
theorem Ba{b0:Nat}{fr:List V}{rows:Go.Vx.Rows}(k:Nat):fb b0 ⟨fr,rows⟩ ⟨fr,rows++List.replicate k .un⟩:=fun c0 a w _ h=>h.grow k
theorem t204[NB]{N:List Nd}(G:ct N){l:Nat}(hnb:l<NB.nb):CallP Tryz.prog 204 [.agg [.d (dg N)],.d (.int .i64 l),.d (.int .i64 0),.d (.int .i64 1)] (cQ (nz N l)):=by
 have hmL:=dx;have hlen:=G.len;have h2:=G.two;obtain⟨z0,z1⟩:=G.n0;have hl:l<20:=by have:=NB.le;omega
 have n0:=eD (N:=N) (f:=0) om;have n1:=eD (N:=N) (f:=1) om;rw[z0]at n0;rw[z1]at n1;have C1:=t113 G [0,1] so sm;refine cc204.go (AC.at AC.wk [1,1,0] (AC.at (AC.look [false,true]) [1,1,0] ac204)) rfl ?_;simp only[vq,seval,ac204,AC.at,AC.look];refine bW ?_;simp only[vq,seval]
 repeat(refine cc rfl rfl ?_;simp only[vq,seval])
 refine fw (v:=.d (.bool true)) (fun v hv=>?_) rfl ?_ ?_
 ·simp only[List.nil_append,List.append_nil,aP,List.not_mem_nil,or_false]at hv;rcases hv with rfl|rfl
  ·exact(JE _ [dg N]).1
  ·exact(I5 (es:=[0,1].map nD) rfl).1
 ·simp only[List.nil_append,List.append_nil,List.map_cons,List.map_nil];rw[show(V.cl 1 2 2 0 2)=V.cl 1 2 ([0,1].map nD).length 0 ([0,1].map nD).length from rfl,(I5 (es:=[0,1].map nD) rfl).2];exact(congrArg (fun y=>CallP Tryz.prog 113 [y,.d (.sl 1 ([0,1].map nD))] (.d (.bool true))) (JE _ [dg N]).2).mpr C1
 have C2:=t233 l;rw[decide_eq_true hl]at C2
 repeat(refine cc rfl rfl ?_;simp only[vq,seval])
 refine aW rfl C2 ?_
 repeat(refine cc rfl rfl ?_;simp only[vq,seval,dg])
 repeat(refine⟨om,?_⟩)
 refine bg n0 ?_;simp only[vq,seval,Nd.d,List.map_cons,List.map_nil]
 repeat(refine cc rfl rfl ?_;simp only[vq,seval,dg])
 repeat(refine⟨om,?_⟩)
 refine bg n1 ?_;simp only[vq,seval,Nd.d,List.map_cons,List.map_nil]
 repeat(refine cc rfl rfl ?_;simp only[vq,seval,dg,df (show¬(20:Int)<=(l:Nat) by omega)])
 have hr:∀m,10<=m->dz m (.live 1 [[.d (dg N)]])/\dz m (.live 1 [[.d .bm]])/\dz m .un/\dz m .un/\dz m .un:=fun m _=>⟨eE (e:=[dg N]),eE (e:=[.bm]),trivial,trivial,trivial⟩;refine fu ⟨cC 53 [(1,.d (.int .i64 l)),(2,.d (.int .i64 0)),(3,.d (.int .i64 1)),(4,.aY 1 0 1 0 0),(8,.aY 1 1 1 0 0)],[.live 1 [[.d (dg N)]],.live 1 [[.d .bm]],.un,.un,.un]⟩ ((bz (rows':=[.live 1 [[.d (dg N)]],.live 1 [[.d .bm]]]) 2 om rfl rfl ⟨eE (e:=[dg N]),eE (e:=[.bm]),trivial⟩ (by simp only[vq,seval])).trans (Ba 3)) ?_;simp only[vq,seval];refine dh (b6 (t114 G _ _ _ _ _ hr) ?_);rintro _ _ ⟨rfl,rfl⟩;have hinv:inv (fun _ _ _=>false) ⟨N,false,[]⟩:=⟨G,fun e=>(by cases e),fun _ p hp=>(by cases hp)⟩;have R:=yE hinv (lv:=l) (lo:=0) (hi:=1) (by simp only;omega) (by simp only;omega) hl hnb (fun _=>by simp only[z0,z1];exact⟨hl,hl⟩);have W1:=fun(cp:bf)=> @t171 cp _ _ (yn hr N) ⟨N,false,[]⟩ G [] (fun _=>trivial) l 0 1;unfold nz;generalize qq ⟨N,false,[]⟩ l 0 1=r at R W1|-;have W2:=fun(cp:bf)=> @t115 cp _ _ (yn hr N) _ R.1.g r.2.full [] (fun _=>trivial) r.1;unfold bR;simp only[vq,seval];refine fO (v:=.d (.int .i64 r.1)) (ups:=[(6,.obj (.mq 3 (xX 0 r.2.N))),(7,JF r.2.N r.2.full),(8,I9 r.2.N)]) sm rfl rfl (W1 _) ?_;simp only[vq,seval];refine fO (v:=uO r.2.full r.2.N.length r.1) (ups:=[]) sm rfl rfl (W2 _) ?_;have hlen2:=R.1.g.len;cases hf:r.2.full with
 |true=>simp only[if_pos,uO,cQ];simp only[vq,seval];exact .d _
 |false=>rw[if_neg sm,cQ,uO,if_neg sm];simp only[vq,seval];exact da (es:=r.2.N.map Nd.d) rfl sm om Qk (by rw[List.drop_zero,al sm])
theorem t158[NB]{N:List Nd}(G:ct N){l:Nat}(hnb:l<NB.nb):CallP Tryz.prog 158 [.agg [.d (dg N)],.d (.int .i64 l)] (cQ (nz N l)):=by
 have C:=t204 G hnb;refine cc158.go ac158 rfl ?_;simp only[vq,seval,ac158];generalize nz N l=r at C;refine aW nh (C) ?_;simp only[vq,seval];cases r with
 |none=>simp only[vq,seval,cQ];exact .d _
 |some t=>simp only[vq,seval,cQ];exact .d _
theorem Rr{X:Prop}(h:X:=by simp[fi,fe]):X:=h
def Dg(l:List Vr):List (B×Int):=(l.zipIdx.foldl (fun m x=>dU m x.1.nm (.int .i64 x.2)) ([]:List (B×D))).map fun q=>(q.1,match q.2 with| .int _ n=>n|_=>0)
def Md(p:Pr)(lv:List Int)(N:Gr):List D:=dg N::p.d++[.sl 1 (lv.map iD),.mp (Dg p.vars)]
def MM(p:Pr)(lv:List Int)(N:Gr):List (List V):=[(Md p lv N).map .d]
theorem ba(p:Pr)(lv:List Int)(N:Gr):lS (MM p lv N):=fun e he v hv=>by simp only[MM,List.mem_singleton]at he;subst he;obtain⟨d,_,rfl⟩:=aw.1 hv;rfl
def rn:List PanicEntry:=[{v:=.iface 148 (kq [2]),recovered:=false}]
class BE where
 p:Pr
 lv:List Int
section
variable[BE]
abbrev bl(N:Gr):List (List V):=MM BE.p BE.lv N
def ff(f:FuncId)(vals:List V)(N:Gr)(r:Option (V×Gr)):Prop:=match r with
 |some (v,N')=>qZ Tryz.prog f vals 8 (bl N) v (bl N')
 |none=>nZ Tryz.prog f vals 8 (bl N) rn
def N6(rs:List RS)(r:Option (V×Gr)):AX->St->Prop:=match r with
 |some (v,N')=>yx rs v 8 (bl N')
 |none=>E0 rs rn
theorem gb{f n:Nat}{rs:List RS}{ac0:AC}(h:wF Tryz.prog f n rs ac0){vals:List V}{N:Gr}{r:Option (V×Gr)}(ac:AC)(he:ac.erase=ac0)(hw:dW Tryz.prog 1 ac (N6 rs r) ⟨vals++List.replicate (n-vals.length) (.cm []),[.live 8 (bl N)]⟩):ff f vals N r:=by
 cases r with
 |some t=>exact h.gm ac he hw
 |none=>exact h.gp ac he hw
abbrev iV(n:Nat):V:=.d (.int .i64 n)
def vI(r:Option (Nat×Gr)):Option (V×Gr):=r.map fun t=>(iV t.1,t.2)
def vW(r:Option (List Nat×Gr)):Option (V×Gr):=r.map fun t=>(.agg (t.1.map iV),t.2)
theorem y7(N:Gr):bl N=[[.d (dg N),.d (cz BE.p.vars),.d (.sl 4 (BE.p.cj.map Ex.d)),.d (.sl 4 (BE.p.soft.map Ex.d)),.d (.sl 2 (BE.p.bZ.map Ds.d)),.d (.sl 1 (BE.p.br.map gD)),.d (.sl 1 (BE.lv.map iD)),.d (.mp (Dg BE.p.vars))]]:=rfl
theorem Pv(m:Nat)(N:Gr):dz m (.live 8 (bl N)):=eE (e:=Md BE.p BE.lv N)
def jF:Nat->List V->List V
 |_,[]=>[]
 |0,x::l=>x::List.replicate l.length .any
 |a+1,_::l=>.any::jF a l
theorem H9(l:List V):pX l (List.replicate l.length .any):=by
 induction l with
 |nil=>trivial
 |cons x l ih=>rw[List.length_cons,List.replicate_succ];cases x<;>exact ih
theorem vH:∀(a:Nat) (l:List V),pX l (jF a l)
 |_,[]=>by cases‹Nat› <;>trivial
 |0,x::l=>mQ (H9 l)
 |a+1,x::l=>by cases x<;>exact vH a l
theorem oB:∀(a:Nat) (l:List V),nth (jF a l) a=nth l a
 |_,[]=>by rename_i a;cases a<;>rfl
 |0,x::l=>rfl
 |a+1,x::l=>oB a l
theorem xF{m:Nat}:∀(a:Nat) (l:List V),hB m (nth l a)=true->(jF a l).all (hB m)=true
 |_,[],_=>by rename_i a _;cases a<;>rfl
 |0,x::l,h=>by rw[jF,List.all_cons,aG.2 (fun y hy=>by rw[List.eq_of_mem_replicate hy];rfl),Bool.and_true];exact h
 |a+1,x::l,h=>by rw[jF,List.all_cons,xF a l h];rfl
theorem wN{m:Nat}:∀(a:Nat) (l:List V),((jF a l).eraseIdx a).all (hB m)=true
 |_,[]=>by rename_i a;cases a<;>rfl
 |0,x::l=>by rw[jF,List.eraseIdx_cons_zero];exact aG.2 (fun y hy=>by rw[List.eq_of_mem_replicate hy];rfl)
 |a+1,x::l=>by rw[jF,List.eraseIdx_cons_succ,List.all_cons,wN a l];rfl
theorem ov:∀{l:List V} {a:Nat},nth l a≠ .any->l[a]? =some (nth l a)
 |[],a,h=>by cases a<;>exact absurd rfl h
 |x::l,0,h=>rfl
 |x::l,a+1,h=>by rw[List.getElem?_cons_succ];exact ov (l:=l) h
theorem Eu:∀{l:List V} {a:Nat} {x:V},l[a]? =some x->nth l a=x
 |[],a,x,h=>by simp at h
 |y::l,0,x,h=>by simp at h;exact h
 |y::l,a+1,x,h=>Eu (l:=l) (by simpa using h)
theorem lq{a x:Nat}{fr:List V}{rows:Go.Vx.Rows}{N':Gr}(h1:nth fr a=iV x)(h2:rows.take 1=[.live 8 (bl N')]):yx [RS.tmp a] (iV x) 8 (bl N') .ret ⟨fr,rows⟩:=by
 refine Cj ⟨jF a fr,[.live 8 (bl N')]⟩ ?_ rfl ?_
 ·rw[<-h2];exact eN 1 om (vH a fr) (xF a fr (by rw[h1];rfl)) (by rw[h2];exact⟨Pv 1 N',trivial⟩)
 ·show fM [nth (jF a fr) a]=iV x;rw[oB,h1];rfl
def nI(n:Nat):D:=.int .i64 n
theorem cG{a h:Nat}{w:List Nat}(h0:1<=h)(hw:w.length=16){fr:List V}{rows:Go.Vx.Rows}{N':Gr}(h1:nth fr a=.aY 16 h 1 0 0)(h2:rows.take 1=[.live 8 (bl N')])(h3:rows[h]? =some (.live 16 [w.map iV])):yx [RS.cell a true 16] (.agg (w.map iV)) 8 (bl N') .ret ⟨fr,rows⟩:=by
 have e:w.map iV=(w.map nI).map .d:=by rw[List.map_map];rfl
 have hg:=ov (l:=jF a fr) (a:=a) (by rw[oB,h1];simp);rw[oB,h1]at hg;refine Cj ⟨(jF a fr).set a (.d (.ptr (w.map nI))),[.live 8 (bl N')]⟩ ((a9 (vH a fr)).trans ?_) rfl ?_
 ·rw[<-h2];exact kO 1 om (by rw[h2];exact⟨Pv 1 N',trivial⟩) (mO hg (yj (sz:=16) (by rw[jt h0,h3,e]) (by simp[hw])) (wN a fr))
 ·show gA [RS.cell a true 16] ⟨(jF a fr).set a (.d (.ptr (w.map nI))),[.live 8 (bl N')]⟩ _;have hn:nth ((jF a fr).set a (.d (.ptr (w.map nI)))) a=.d (.ptr (w.map nI)):=Eu (List.getElem?_set_self (ad.1 hg).1);simp only[gA,bU,bw.ev,hn];rw[al (by simp[hw]),<-e];exact⟨by simp[hw],rfl⟩
theorem t156(N:Gr)(r:Option (Nat×Gr)):ff 156 [.aY 8 0 1 0 0,.agg [match r with|some t=>.d (dg t.2)|none=>.d .bm],.d (.int .i64 (match r with|some t=>t.1|none=>0)),.d (.int .i64 (match r with|some _=>0|none=>2))] N (vI r):=by
 cases r with
 |some t=>obtain⟨i,N'⟩:=t;refine cc156.gm ac156 rfl ?_;simp only[vq,seval,ac156];simp only[y7];simp only[vq,seval];exact lq rfl rfl
 |none=>refine cc156.gp (AC.at AC.pn [1,0,1,0] ac156) rfl ?_;rw[y7];simp only[vq,seval,ac156,AC.at];refine cr 3 rfl ?_;simp only[vq,seval];rfl
theorem t100[NB]{N:Gr}(G:ct N){f g:Nat}(hf:f<N.length)(hg:g<N.length):ff 100 [.aY 8 0 1 0 0,iV f,iV g] N (vI (qz N f g)):=by
 have C1:=t157 G hf hg;have C2:=t156 N (qz N f g);generalize qz N f g=r at C1 C2;refine gb cc100 (AC.at AC.pn [1,0] ac100) rfl ?_;cases r with
 |none=>simp only[vq,seval,ac100,AC.at,y7];refine cr 11 rfl ?_;simp only[vq,seval];refine aW nh C1 ?_;simp only[vq,seval,cQ];refine b9 0 (vals0:=[.aY 8 0 1 0 0,.agg [.d .bm],.d (.int .i64 0),.d (.int .i64 2)]) rfl rfl Rr rfl (ba _ _ N) C2 ?_;simp only[vq,seval];exact rfl
 |some t=>simp only[vq,seval,ac100,AC.at,y7];refine cI ?_;simp only[vq,seval];refine aW nh C1 ?_;simp only[vq,seval,cQ];refine bF 0 (vals0:=[.aY 8 0 1 0 0,.agg [.d (dg t.2)],.d (.int .i64 t.1),.d (.int .i64 0)]) (v0:=iV t.1) (es':=bl t.2) rfl rfl Rr rfl (ba _ _ N) (ba _ _ t.2) rfl C2 ?_;simp only[vq,seval];exact lq rfl rfl
theorem t162[NB]{N:Gr}(G:ct N){f g:Nat}(hf:f<N.length)(hg:g<N.length):ff 162 [.aY 8 0 1 0 0,iV f,iV g] N (vI (gF N f g)):=by
 have C1:=t26 G hf hg;have C2:=t156 N (gF N f g);generalize gF N f g=r at C1 C2;refine gb cc162 (AC.at AC.pn [1,0] ac162) rfl ?_;cases r with
 |none=>simp only[vq,seval,ac162,AC.at,y7];refine cr 11 rfl ?_;simp only[vq,seval];refine aW nh C1 ?_;simp only[vq,seval,cQ];refine b9 0 (vals0:=[.aY 8 0 1 0 0,.agg [.d .bm],.d (.int .i64 0),.d (.int .i64 2)]) rfl rfl Rr rfl (ba _ _ N) C2 ?_;simp only[vq,seval];exact rfl
 |some t=>simp only[vq,seval,ac162,AC.at,y7];refine cI ?_;simp only[vq,seval];refine aW nh C1 ?_;simp only[vq,seval,cQ];refine bF 0 (vals0:=[.aY 8 0 1 0 0,.agg [.d (dg t.2)],.d (.int .i64 t.1),.d (.int .i64 0)]) (v0:=iV t.1) (es':=bl t.2) rfl rfl Rr rfl (ba _ _ N) (ba _ _ t.2) rfl C2 ?_;simp only[vq,seval];exact lq rfl rfl
theorem t165[NB]{N:Gr}(G:ct N){f g:Nat}(hf:f<N.length)(hg:g<N.length):ff 165 [.aY 8 0 1 0 0,iV f,iV g] N (vI (lZ N f g)):=by
 have C1:=t207 G hf hg;have C2:=t156 N (lZ N f g);generalize lZ N f g=r at C1 C2;refine gb cc165 (AC.at AC.pn [1,0] ac165) rfl ?_;cases r with
 |none=>simp only[vq,seval,ac165,AC.at,y7];refine cr 11 rfl ?_;simp only[vq,seval];refine aW nh C1 ?_;simp only[vq,seval,cQ];refine b9 0 (vals0:=[.aY 8 0 1 0 0,.agg [.d .bm],.d (.int .i64 0),.d (.int .i64 2)]) rfl rfl Rr rfl (ba _ _ N) C2 ?_;simp only[vq,seval];exact rfl
 |some t=>simp only[vq,seval,ac165,AC.at,y7];refine cI ?_;simp only[vq,seval];refine aW nh C1 ?_;simp only[vq,seval,cQ];refine bF 0 (vals0:=[.aY 8 0 1 0 0,.agg [.d (dg t.2)],.d (.int .i64 t.1),.d (.int .i64 0)]) (v0:=iV t.1) (es':=bl t.2) rfl rfl Rr rfl (ba _ _ N) (ba _ _ t.2) rfl C2 ?_;simp only[vq,seval];exact lq rfl rfl
theorem t104[NB]{N:Gr}(G:ct N){f:Nat}(hf:f<N.length):ff 104 [.aY 8 0 1 0 0,iV f] N (vI (gY N f)):=by
 have C1:=t159 G hf;have C2:=t156 N (gY N f);generalize gY N f=r at C1 C2;refine gb cc104 (AC.at AC.pn [1,0] ac104) rfl ?_;cases r with
 |none=>simp only[vq,seval,ac104,AC.at,y7];refine cr 10 rfl ?_;simp only[vq,seval];refine aW nh C1 ?_;simp only[vq,seval,cQ];refine b9 0 (vals0:=[.aY 8 0 1 0 0,.agg [.d .bm],.d (.int .i64 0),.d (.int .i64 2)]) rfl rfl Rr rfl (ba _ _ N) C2 ?_;simp only[vq,seval];exact rfl
 |some t=>simp only[vq,seval,ac104,AC.at,y7];refine cI ?_;simp only[vq,seval];refine aW nh C1 ?_;simp only[vq,seval,cQ];refine bF 0 (vals0:=[.aY 8 0 1 0 0,.agg [.d (dg t.2)],.d (.int .i64 t.1),.d (.int .i64 0)]) (v0:=iV t.1) (es':=bl t.2) rfl rfl Rr rfl (ba _ _ N) (ba _ _ t.2) rfl C2 ?_;simp only[vq,seval];exact lq rfl rfl
theorem t111[NB]{N:Gr}(G:ct N){f g h:Nat}(hf:f<N.length)(hg:g<N.length)(hh:h<N.length):ff 111 [.aY 8 0 1 0 0,iV f,iV g,iV h] N (vI (np N f g h)):=by
 have C1:=t163 G hf hg hh;have C2:=t156 N (np N f g h);generalize np N f g h=r at C1 C2;refine gb cc111 (AC.at AC.pn [1,0] ac111) rfl ?_;cases r with
 |none=>simp only[vq,seval,ac111,AC.at,y7];refine cr 12 rfl ?_;simp only[vq,seval];refine aW nh C1 ?_;simp only[vq,seval,cQ];refine b9 0 (vals0:=[.aY 8 0 1 0 0,.agg [.d .bm],.d (.int .i64 0),.d (.int .i64 2)]) rfl rfl Rr rfl (ba _ _ N) C2 ?_;simp only[vq,seval];exact rfl
 |some t=>simp only[vq,seval,ac111,AC.at,y7];refine cI ?_;simp only[vq,seval];refine aW nh C1 ?_;simp only[vq,seval,cQ];refine bF 0 (vals0:=[.aY 8 0 1 0 0,.agg [.d (dg t.2)],.d (.int .i64 t.1),.d (.int .i64 0)]) (v0:=iV t.1) (es':=bl t.2) rfl rfl Rr rfl (ba _ _ N) (ba _ _ t.2) rfl C2 ?_;simp only[vq,seval];exact lq rfl rfl
theorem Ha(n:Int):((BitVec.ofInt IntKind.i64.bits n&&&BitVec.ofInt IntKind.i64.bits 1).toNat:Int)=n%2:=by
 show((BitVec.ofInt 64 n&&&BitVec.ofInt 64 1).toNat:Int)=n%2;rw[BitVec.toNat_and,BitVec.toNat_ofInt,BitVec.toNat_ofInt];have:((1:Int)%((2^64:Nat):Int)).toNat=2^1-1:=by decide
 rw[this,Nat.and_two_pow_sub_one_eq_mod];omega
theorem kf{l:List Nat}{i:Nat}(h:i<l.length)(x:Nat):(l.map iV).take (i*1)++[iV x]++(l.map iV).drop (i*1+1)=(l.set i x).map iV:=by rw[Nat.mul_one,List.set_eq_take_append_cons_drop,if_pos h,List.map_append,List.map_cons,List.map_take,List.map_drop];simp
theorem L0{R:Go.Vx.Rows}(w:List Nat):kZ R (w.map iV) (w.map iV):=by
 have e:w.map iV=(w.map nI).map .d:=by rw[List.map_map];rfl
 rw[e];exact wC _ _
theorem cb(w:List Nat):(w.map iV).all fh=true:=aG.2 fun v hv=>by obtain⟨n,_,rfl⟩:=aw.1 hv;rfl
theorem Lz(n:Nat){i:Nat}(h:i<16):(dS n)[i]? =some (n/2^i%2):=by simp[dS,h]
theorem t103(t:Nat):CallP Tryz.prog 103 [iV t] (.agg ((nK t).map iV)):=by
 refine cc103.go ac103 rfl ?_;simp only[vq,seval,ac103];have e:(nK t).map iV=((nK t).map nI).map .d:=by rw[List.map_map];rfl
 rw[e];exact wC _ ((nK t).map nI)
theorem t101(n:Nat)(hn:n<=65535):CallP Tryz.prog 101 [iV n] (.agg ((dS n).map iV)):=by
 have hmL:=dx;refine cc101.go ac101 rfl ?_;simp only[vq,seval,ac101];refine bb (fun i:Nat=>⟨cC 16 [(0,iV n),(2,.aY 16 0 1 0 0),(3,.aY 16 1 1 0 0),(5,.d (.int .i64 i))],[.live 16 [(List.replicate 16 0).map iV],.live 16 [((dS n).take i++List.replicate (16-i) 0).map iV]]⟩) (fun i=>i<=16) (fun i=>16-i) 0 (bk sm vt) om ?_;rintro i h1;simp only[vq,seval];refine aZ (fun hc=>?_) (fun hc=>?_)
 ·simp only[aj]at hc;have hb:IntKind.bits .i64=64:=rfl;have hv:IntKind.i64.wrap (((BitVec.ofInt IntKind.i64.bits ((n:Int)/2^min i IntKind.i64.bits)&&&BitVec.ofInt IntKind.i64.bits 1).toNat:Nat):Int)=((n/2^i%2:Nat):Int):=by
   have e:((n:Int)/2^min i IntKind.i64.bits)=((n/2^i:Nat):Int):=by rw[hb,Nat.min_eq_left om,Int.natCast_ediv,Int.natCast_pow];rfl
   rw[e,Ha,a8 om om];omega
  have hll:((dS n).take i++List.replicate (16-i) 0).length=16:=by simp[dS];omega
  have hset:((dS n).take i++List.replicate (16-i) 0).set i (n/2^i%2)=(dS n).take (i+1)++List.replicate (16-(i+1)) 0:=by rw[bQ (Lz n om),show 16-i=(16-(i+1))+1 by omega,List.replicate_succ,dA _ _ _ _ (by simp[dS];omega)];simp
  generalize ((dS n).take i++List.replicate (16-i) 0)=L at hll hset|-;simp only[vq,seval];rw[hv,kf om,hset];refine⟨om,om,om,om,bL (i+1) om (bk sm ?_) om⟩;simp only[vq,seval];rw[a8 om om];rfl
 ·simp only[ak]at hc;obtain rfl:i=16:=om;rw[al (by simp[dS]),Nat.sub_self,List.replicate_zero,List.append_nil];simp only[vq,seval];have hl:((dS n).map iV).length=16:=by simp[dS]
  rw[al (Nat.le_of_eq hl),hl];refine⟨rfl,cb _,?_⟩;have e2:∀z:List V,z.length=16->List.take 16 ((dS n).map iV++List.drop 16 z)=(dS n).map iV:=fun z hz=>by rw[aR om,List.append_nil,al (Nat.le_of_eq hl)]
  rw[e2 _ rfl];exact L0 _
end
section
variable[BE][NB]
def cU(N:Gr)(w:List Nat):Prop:=∀f∈w,f<N.length
theorem cU.app{N N':Gr}{w:List Nat}(h:cU N w)(hl:N.length<=N'.length):cU N' w:=fun f hf=>Nat.lt_of_lt_of_le (h f hf) hl
structure vA(N N':Gr):Prop where
 g:ct N'
 l:N.length<=N'.length
theorem og{op:Bool->Bool->Bool->Bool}{N:Gr}{x:Key}{r:Nat×Gr}(G:ct N)(hx:xY N x)(h:sb op N x=some r):vA N r.2/\r.1<r.2.length:=by obtain⟨h1,⟨L,h2⟩,h3,_⟩:=zu G hx (i:=r.1) (N':=r.2) h;exact⟨⟨h1,by rw[h2];simp⟩,h3⟩
theorem kl{N:Gr}{f:Nat}{r:Nat×Gr}(G:ct N)(hf:f<N.length)(h:gY N f=some r):vA N r.2/\r.1<r.2.length:=og G ⟨hf,hf,hf⟩ h
theorem jA{N:Gr}{f g:Nat}{r:Nat×Gr}(G:ct N)(hf:f<N.length)(hg:g<N.length)(h:gF N f g=some r):vA N r.2/\r.1<r.2.length:=og G ⟨hf,hg,hg⟩ h
theorem pR{N:Gr}{f g:Nat}{r:Nat×Gr}(G:ct N)(hf:f<N.length)(hg:g<N.length)(h:qz N f g=some r):vA N r.2/\r.1<r.2.length:=og G ⟨hf,hg,hg⟩ h
theorem su{N:Gr}{f g:Nat}{r:Nat×Gr}(G:ct N)(hf:f<N.length)(hg:g<N.length)(h:lZ N f g=some r):vA N r.2/\r.1<r.2.length:=og G ⟨hf,hg,hg⟩ h
theorem Kt{N:Gr}{f g k:Nat}{r:Nat×Gr}(G:ct N)(hf:f<N.length)(hg:g<N.length)(hk:k<N.length)(h:np N f g k=some r):vA N r.2/\r.1<r.2.length:=og G ⟨hf,hg,hk⟩ h
abbrev jJ(w:List Nat):bd:=.live 16 [w.map iV]
theorem OP(m:Nat)(w:List Nat):dz m (jJ w):=by
 have e:w.map iV=(w.map nI).map .d:=by rw[List.map_map];rfl
 rw[jJ,e];exact eE (e:=w.map nI)
theorem CF{w:List Nat}{i x:Nat}(h:w[i]? =some x):(w.map iV)[i]? =some (iV x):=by rw[ar,h];rfl
theorem t55{N:Gr}(G:ct N){w:List Nat}(hw:w.length=16)(hN:cU N w):ff 55 [.aY 8 0 1 0 0,.agg (w.map iV)] N (vI (lL w 0 N)):=by
 have hmL:=dx;refine gb cc55 (AC.at AC.pn [1,1,0,1,2,2,1,1,0,2,1] ac55) rfl ?_;simp only[vq,seval,ac55,AC.at];refine⟨hw,cb _,?_⟩;have htk:List.take 16 (w.map iV)=w.map iV:=al (by simp[hw]);refine bb (fun t:Nat×Nat×Gr=>⟨cC 18 [(0,.aY 8 0 1 0 0),(5,iV t.2.1),(8,.agg (w.map iV)),(9,.d (.int .i64 t.1))],[.live 8 (bl t.2.2),jJ w]⟩) (fun t=>t.1<=16/\lL w 0 N=lL (w.drop t.1) t.2.1 t.2.2/\ct t.2.2/\N.length<=t.2.2.length/\t.2.1<t.2.2.length) (fun t=>16-t.1) (0,0,N) (bk (by first|rfl|simp) (by simp only[vq,seval,htk];try trivial)) ⟨om,rfl,G,aq _,by have:=G.two;simp only;omega⟩ ?_;rintro⟨i,t,M⟩ ⟨h1,h2,h3,h4,h5⟩;dsimp only at h1 h2 h3 h4 h5;simp only[vq,seval];refine aZ (fun hc=>?_) (fun hc=>?_)
 ·simp only[aj]at hc;obtain⟨x,hx⟩:=bh (l:=w) (i:=i) om;have hxm:=hN x (af hx);rw[bt hx,lL]at h2;simp only[vq,seval];refine⟨om,om,hw,b8 (CF hx) ?_⟩;simp only[vq,seval];have C:=t100 h3 h5 (g:=x) om;cases hr:qz M t x with
  |none=>rw[hr]at h2 C;rw[h2];refine cr 3 rfl ?_;simp only[vq,seval];refine b9 0 (vals0:=[.aY 8 0 1 0 0,iV t,iV x]) rfl rfl Rr rfl (ba _ _ M) C ?_;simp only[vq,seval];exact rfl
  |some r=>
   obtain⟨k1,k2⟩:=pR h3 h5 (g:=x) om hr;rw[hr]at h2 C;refine cI ?_;simp only[vq,seval];refine bF 0 (vals0:=[.aY 8 0 1 0 0,iV t,iV x]) (v0:=iV r.1) (es':=bl r.2) rfl rfl Rr rfl (ba _ _ M) (ba _ _ r.2) rfl C ?_;simp only[vq,seval];refine bL (i+1,r.1,r.2) (by simp only;omega) (bk rfl ?_) ⟨by simp only;omega,h2,k1.g,by have:=k1.l;simp only;omega,k2⟩;simp only[vq,seval];rw[a8 om om]
   try trivial
 ·simp only[ak]at hc;obtain rfl:i=16:=om;rw[aR om,lL]at h2;rw[h2];simp only[vq,seval];exact lq rfl rfl
end
section
variable[BE][NB]
theorem bp{n:Nat}:cJ 0 (iV n)=iV n:=rfl
theorem fQ{w:List Nat}{i x:Nat}(h:w[i]? =some x):(w.map iV)[i*1]? =some (iV x):=by rw[Nat.mul_one];exact CF h
theorem fm{w:List Nat}(h:w.length=16):List.take 16 (w.map iV)=w.map iV:=al (by simp[h])
theorem xQ{w:List Nat}(h:w.length=16){z:List V}(hz:z.length=16):w.map iV++List.drop (w.map iV).length z=w.map iV:=by rw[aR (by simp[h,hz]),List.append_nil]
theorem dy{w:List Nat}(h:w.length=16):(w.map iV).length=16:=by simp[h]
theorem t105{N:Gr}(G:ct N){w:List Nat}(hw:w.length=16)(hN:cU N w):ff 105 [.aY 8 0 1 0 0,.agg (w.map iV)] N (vW (pG w N)):=by
 have hmL:=dx;refine gb cc105 (AC.at AC.pn [1,0,1,2,2,1,1,0,2,1] ac105) rfl ?_;simp only[vq,seval,ac105,AC.at];refine⟨hw,cb _,?_⟩;refine bb (fun t:Nat×List Nat×Gr=>⟨cC 18 [(0,.aY 8 0 1 0 0),(3,.aY 16 1 1 0 0),(4,.aY 16 2 1 0 0),(6,.d (.int .i64 t.1))],[.live 8 (bl t.2.2),jJ (t.2.1++w.drop t.1),jJ (List.replicate 16 0)]⟩) (fun t=>t.1<=16/\t.2.1.length=t.1/\pG w N=(pG (w.drop t.1) t.2.2).map (fun s=>(t.2.1++s.1,s.2))/\ct t.2.2/\N.length<=t.2.2.length) (fun t=>16-t.1) (0,[],N) (bk (by first|rfl|simp) vt) ⟨om,rfl,sm,G,aq _⟩ ?_;rintro⟨i,o,M⟩ ⟨h1,h0,h2,h3,h4⟩;dsimp only at h1 h0 h2 h3 h4;simp only[vq,seval];refine aZ (fun hc=>?_) (fun hc=>?_)
 ·simp only[aj]at hc;obtain⟨x,hx⟩:=bh (l:=w) (i:=i) om;have hxm:=hN x (af hx);have hL:(o++w.drop i).length=16:=by simp;omega
  have hxL:(o++w.drop i)[i]? =some x:=by rw[aJ om,h0,Nat.sub_self,List.getElem?_drop];exact hx
  have hset:∀y,(o++w.drop i).set i y=(o++[y])++w.drop (i+1):=fun y=>by rw[bt hx,dA _ _ _ _ h0];simp
  rw[bt hx,pG]at h2;have C:=t104 h3 (f:=x) om;generalize o++w.drop i=L at hL hxL hset|-;cases hr:gY M x with
  |none=>rw[hr]at h2 C;rw[h2];simp only[vq,seval];refine cr 5 rfl ?_;simp only[vq,seval];refine⟨om,om,om,b8 (fQ hxL) ?_⟩;simp only[vq,seval];refine b9 0 (vals0:=[.aY 8 0 1 0 0,iV x]) rfl rfl Rr rfl (ba _ _ M) C ?_;simp only[vq,seval];exact rfl
  |some r=>
   obtain⟨k1,k2⟩:=kl h3 (f:=x) om hr;rw[hr]at h2 C;simp only[vq,seval];refine cI ?_;simp only[vq,seval];refine⟨om,om,om,b8 (fQ hxL) ?_⟩;simp only[vq,seval];refine bF 0 (vals0:=[.aY 8 0 1 0 0,iV x]) (v0:=iV r.1) (es':=bl r.2) rfl rfl Rr rfl (ba _ _ M) (ba _ _ r.2) rfl C ?_;simp only[vq,seval,bp];rw[kf om,hset];refine⟨om,om,om,?_⟩;refine bL (i+1,o++[r.1],r.2) (by simp only;omega) (bk rfl ?_) ⟨by simp only;omega,by simp[h0],by simp only;rw[h2];simp[Option.map_map,Function.comp_def],k1.g,by have:=k1.l;simp only;omega⟩;simp only[vq,seval];rw[a8 om om]
   try trivial
 ·simp only[ak]at hc;obtain rfl:i=16:=om;rw[aR om,pG]at h2;rw[h2,aR om,List.append_nil];simp only[vq,seval];rw[fm h0,xQ h0 rfl];exact⟨dy h0,cb _,cG (h:=2) om h0 rfl rfl rfl⟩
end
section
variable[BE][NB]
theorem cK{α:Type}{l:List α}{i:Nat}{x:α}(h:l[i]? =some x)(f:α->Prop):gX l i f=f x:=propext ⟨fun hk=>by obtain⟨y,h1,h2⟩:=fg.1 hk;rw[h]at h1;injection h1 with h1;subst h1;exact h2,fun hk=>b8 h hk⟩
theorem qj{i:Nat}(h:i<16):((0:Int)<=(i:Nat))=True/\(((i:Nat):Int)<16)=True/\(i*1<=15)=True:=⟨eq_true om,eq_true om,eq_true om⟩
theorem sum_nil(c:Nat)(M:Gr):lX [] [] c M=some ([],M):=by simp[lX]
theorem t160{N:Gr}(G:ct N){x y:List Nat}(hx:x.length=16)(hy:y.length=16)(hxN:cU N x)(hyN:cU N y){c:Nat}(hc:c<N.length):ff 160 [.aY 8 0 1 0 0,.agg (x.map iV),.agg (y.map iV),iV c] N (vW (lX x y c N)):=by
 have hmL:=dx;refine gb cc160 (AC.at AC.pn [1,1,0,1,2,2,1,1,0,2,1,1,1,1,0,1,1] (AC.at AC.pn [1,1,0,1,2,2,1,1,0,2,1,1,1,1,0,1,0] (AC.at AC.pn [1,1,0,1,2,2,1,1,0,2,1,1,1,1,0,0] (AC.at AC.pn [1,1,0,1,2,2,1,1,0,2,1,1,0] (AC.at AC.pn [1,1,0,1,2,2,1,1,0,2,1,0] ac160))))) rfl ?_;simp only[vq,seval,ac160,AC.at];refine⟨hx,cb _,hy,cb _,?_⟩;refine bb (fun t:Nat×List Nat×Nat×Gr=>⟨cC 51 [(0,.aY 8 0 1 0 0),(3,iV t.2.2.1),(5,.aY 16 1 1 0 0),(6,.aY 16 2 1 0 0),(8,.aY 16 3 1 0 0),(9,.aY 16 4 1 0 0),(14,.d (.int .i64 t.1))],[.live 8 (bl t.2.2.2),jJ x,jJ y,jJ (List.replicate 16 0),jJ (t.2.1++List.replicate (16-t.1) 0)]⟩) (fun t=>t.1<=16/\t.2.1.length=t.1/\lX x y c N=(lX (x.drop t.1) (y.drop t.1) t.2.2.1 t.2.2.2).map (fun s=>(t.2.1++s.1,s.2))/\ct t.2.2.2/\N.length<=t.2.2.2.length/\t.2.2.1<t.2.2.2.length) (fun t=>16-t.1) (0,[],c,N) (bk (by first|rfl|simp) vt) ⟨om,rfl,sm,G,aq _,hc⟩ ?_;rintro⟨i,o,d,M⟩ ⟨h1,h0,h2,h3,h4,h5⟩;dsimp only at h1 h0 h2 h3 h4 h5;simp only[vq,seval];refine aZ (fun hc=>?_) (fun hc=>?_)
 ·simp only[aj]at hc;obtain⟨a,ha⟩:=bh (l:=x) (i:=i) om;obtain⟨b,hb⟩:=bh (l:=y) (i:=i) om;have ham:=hxN a (af ha);have hbm:=hyN b (af hb);have hL:(o++List.replicate (16-i) 0).length=16:=by simp;omega
  have hset:∀v,(o++List.replicate (16-i) 0).set i v=(o++[v])++List.replicate (16-(i+1)) 0:=fun v=>by rw[show 16-i=(16-(i+1))+1 by omega,List.replicate_succ,dA _ _ _ _ h0];simp
  rw[bt ha,bt hb,lX]at h2;generalize o++List.replicate (16-i) 0=L at hL hset|-;obtain⟨q0,q1,q2⟩:=qj (i:=i) om;have ga:=cK (fQ ha);have gb:=cK (fQ hb);have C1:=t165 h3 (f:=a) (g:=b) om om;simp only[vq,seval];cases hr1:lZ M a b with
  |none=>
   rw[hr1]at h2 C1;rw[h2];refine cv 7 rfl ?_;simp only[vq,seval,q0,q1,q2,ga,gb]
   repeat(refine dC rfl rfl ?_;simp only[vq,seval,q0,q1,q2,ga,gb])
   refine b9 0 (vals0:=[.aY 8 0 1 0 0,iV a,iV b]) rfl rfl Rr rfl (ba _ _ M) C1 ?_;exact fq
  |some h=>
   obtain⟨k1,k2⟩:=su h3 (f:=a) (g:=b) om om hr1;have k3:=k1.l;rw[hr1]at h2 C1;refine dj ?_;refine bW ?_;simp only[vq,seval,bp,q0,q1,q2,ga,gb]
   repeat(refine cc rfl rfl ?_;simp only[vq,seval,bp,q0,q1,q2,ga,gb])
   refine bF 0 (vals0:=[.aY 8 0 1 0 0,iV a,iV b]) (v0:=iV h.1) (es':=bl h.2) rfl rfl Rr rfl (ba _ _ M) (ba _ _ h.2) rfl C1 ?_
   repeat(refine cc rfl rfl ?_;simp only[vq,seval,bp,q0,q1,q2,ga,gb])
   have C2:=t165 k1.g (f:=h.1) (g:=d) om om;cases hr2:lZ h.2 h.1 d with
   |none=>simp only[Option.bind_some,hr2,Option.bind_none,Option.map_none]at h2;rw[hr2]at C2;rw[h2];refine cr 4 rfl ?_;simp only[vq,seval];refine b9 0 (vals0:=[.aY 8 0 1 0 0,iV h.1,iV d]) rfl rfl Rr rfl (ba _ _ h.2) C2 ?_;exact fq
   |some u=>
    obtain⟨j1,j2⟩:=su k1.g (f:=h.1) (g:=d) om om hr2;have j3:=j1.l;simp only[Option.bind_some,hr2]at h2;rw[hr2]at C2;refine cI ?_;simp only[vq,seval];refine bF 0 (vals0:=[.aY 8 0 1 0 0,iV h.1,iV d]) (v0:=iV u.1) (es':=bl u.2) rfl rfl Rr rfl (ba _ _ h.2) (ba _ _ u.2) rfl C2 ?_;simp only[vq,seval,bp,q0,q1,q2];rw[kf om,hset];by_cases hi:i<15
    ·simp only[vq,seval,dt (show((i:Nat):Int)<15 by omega)];have hne:¬x.drop (i+1)=[]:=fun e=>by have:=congrArg List.length e;simp at this;omega
     rw[if_neg hne]at h2;have C3:=t162 j1.g (f:=a) (g:=b) om om;cases hr3:gF u.2 a b with
     |none=>
      simp only[Option.bind_some,hr3,Option.bind_none,Option.map_none]at h2;rw[hr3]at C3;rw[h2];refine cv 7 rfl ?_;simp only[vq,seval,bp,q0,q1,q2,ga,gb]
      repeat(refine dC rfl rfl ?_;simp only[vq,seval,bp,q0,q1,q2,ga,gb])
      refine b9 0 (vals0:=[.aY 8 0 1 0 0,iV a,iV b]) rfl rfl Rr rfl (ba _ _ u.2) C3 ?_;exact fq
     |some r3=>
      obtain⟨u3,l3⟩:=jA j1.g (f:=a) (g:=b) om om hr3;have m3:=u3.l;simp only[Option.bind_some,hr3]at h2;rw[hr3]at C3;refine dj ?_;refine bW ?_;simp only[vq,seval,bp,q0,q1,q2,ga,gb]
      repeat(refine cc rfl rfl ?_;simp only[vq,seval,bp,q0,q1,q2,ga,gb])
      refine bF 0 (vals0:=[.aY 8 0 1 0 0,iV a,iV b]) (v0:=iV r3.1) (es':=bl r3.2) rfl rfl Rr rfl (ba _ _ u.2) (ba _ _ r3.2) rfl C3 ?_
      repeat(refine cc rfl rfl ?_;simp only[vq,seval,bp,q0,q1,q2,ga,gb])
      have C4:=t162 u3.g (f:=h.1) (g:=d) om om;cases hr4:gF r3.2 h.1 d with
      |none=>simp only[Option.bind_some,hr4,Option.bind_none,Option.map_none]at h2;rw[hr4]at C4;rw[h2];refine cr 3 rfl ?_;simp only[vq,seval,bp];refine b9 0 (vals0:=[.aY 8 0 1 0 0,iV h.1,iV d]) rfl rfl Rr rfl (ba _ _ r3.2) C4 ?_;exact fq
      |some r4=>
       obtain⟨u4,l4⟩:=jA u3.g (f:=h.1) (g:=d) om om hr4;have m4:=u4.l;simp only[Option.bind_some,hr4]at h2;rw[hr4]at C4;refine cI ?_;simp only[vq,seval,bp];refine bF 0 (vals0:=[.aY 8 0 1 0 0,iV h.1,iV d]) (v0:=iV r4.1) (es':=bl r4.2) rfl rfl Rr rfl (ba _ _ r3.2) (ba _ _ r4.2) rfl C4 ?_;simp only[vq,seval,bp];have C5:=t100 u4.g (f:=r3.1) (g:=r4.1) om om;cases hr5:qz r4.2 r3.1 r4.1 with
       |none=>simp only[Option.bind_some,hr5,Option.bind_none,Option.map_none]at h2;rw[hr5]at C5;rw[h2];refine cr 3 rfl ?_;simp only[vq,seval,bp];refine b9 0 (vals0:=[.aY 8 0 1 0 0,iV r3.1,iV r4.1]) rfl rfl Rr rfl (ba _ _ r4.2) C5 ?_;exact fq
       |some r5=>
        obtain⟨u5,l5⟩:=pR u4.g (f:=r3.1) (g:=r4.1) om om hr5;have m5:=u5.l;simp only[Option.bind_some,hr5]at h2;rw[hr5]at C5;refine cI ?_;simp only[vq,seval,bp];refine bF 0 (vals0:=[.aY 8 0 1 0 0,iV r3.1,iV r4.1]) (v0:=iV r5.1) (es':=bl r5.2) rfl rfl Rr rfl (ba _ _ r4.2) (ba _ _ r5.2) rfl C5 ?_;simp only[vq,seval,bp];refine bL (i+1,o++[u.1],r5.1,r5.2) (by simp only;omega) (bk (by rw[show 15-i=16-(i+1)from by omega]) ?_) ⟨by simp only;omega,by simp[h0],by simp only;rw[h2];simp[Option.map_map,Function.comp_def],u5.g,by simp only;omega,l5⟩;simp only[vq,seval];rw[a8 om om]
        try trivial
    ·simp only[vq,seval,df (show¬((i:Nat):Int)<15 by omega)];obtain rfl:i=15:=om;have he:x.drop 16=[]:=aR om;have he2:y.drop 16=[]:=aR om;rw[if_pos he]at h2;refine bL (16,o++[u.1],d,u.2) (by simp only;omega) (bk rfl ?_) ⟨by simp only;omega,by simp[h0],by simp only;rw[h2,he,he2,sum_nil];simp,j1.g,by simp only;omega,by simp only;omega⟩;simp only[vq,seval];rw[a8 om om]
     try trivial
 ·simp only[ak]at hc;obtain rfl:i=16:=om;rw[aR om,aR om,sum_nil]at h2;rw[h2];simp only[Nat.sub_self,List.replicate_zero,List.append_nil,Option.map_some];simp only[vq,seval];rw[fm h0,xQ h0 rfl];exact⟨dy h0,cb _,cG (h:=3) om h0 rfl rfl rfl⟩
end
section
variable[BE][NB]
theorem Gb(t:Nat)(M:Gr):mv [] [] t M=some (t,M):=by simp[mv]
theorem GL(t:Nat)(M:Gr):lN [] [] t M=some (t,M):=by simp[lN]
theorem t208{N:Gr}(G:ct N){x y:List Nat}(hx:x.length=16)(hy:y.length=16)(hxN:cU N x)(hyN:cU N y):ff 208 [.aY 8 0 1 0 0,.agg (x.map iV),.agg (y.map iV)] N (vI (mv x y 1 N)):=by
 have hmL:=dx;have h2N:=G.two;refine gb cc208 (AC.at AC.pn [1,1,0,1,2,2,1,1,0,2,1] ac208) rfl ?_;simp only[vq,seval,ac208,AC.at];refine⟨hx,cb _,hy,cb _,?_⟩;refine bb (fun t:Nat×Nat×Gr=>⟨cC 27 [(0,.aY 8 0 1 0 0),(4,.aY 16 1 1 0 0),(5,.aY 16 2 1 0 0),(7,iV t.2.1),(9,.d (.int .i64 t.1))],[.live 8 (bl t.2.2),jJ x,jJ y]⟩) (fun t=>t.1<=16/\mv x y 1 N=mv (x.drop t.1) (y.drop t.1) t.2.1 t.2.2/\ct t.2.2/\N.length<=t.2.2.length/\t.2.1<t.2.2.length) (fun t=>16-t.1) (0,1,N) (bk (by first|rfl|simp) vt) ⟨om,sm,G,aq _,by simp only;omega⟩ ?_;rintro⟨i,t,M⟩ ⟨h1,h2,h3,h4,h5⟩;dsimp only at h1 h2 h3 h4 h5;simp only[vq,seval];refine aZ (fun hc=>?_) (fun hc=>?_)
 ·simp only[aj]at hc;obtain⟨a,ha⟩:=bh (l:=x) (i:=i) om;obtain⟨b,hb⟩:=bh (l:=y) (i:=i) om;have ham:=hxN a (af ha);have hbm:=hyN b (af hb);rw[bt ha,bt hb,mv]at h2;obtain⟨q0,q1,q2⟩:=qj (i:=i) om;have ga:=cK (fQ ha);have gb:=cK (fQ hb);simp only[vq,seval];have C1:=t165 h3 (f:=a) (g:=b) om om;cases hr1:lZ M a b with
  |none=>
   simp only[Option.bind_some,hr1,Option.bind_none,Option.map_none]at h2;rw[hr1]at C1;rw[h2];refine cv 10 rfl ?_;simp only[vq,seval,bp,q0,q1,q2,ga,gb]
   repeat(refine dC rfl rfl ?_;simp only[vq,seval,bp,q0,q1,q2,ga,gb])
   refine b9 0 (vals0:=[.aY 8 0 1 0 0,iV a,iV b]) rfl rfl Rr rfl (ba _ _ M) C1 ?_;exact fq
  |some r1=>
   obtain⟨u1,l1⟩:=su h3 (f:=a) (g:=b) om om hr1;have m1:=u1.l;simp only[Option.bind_some,hr1]at h2;rw[hr1]at C1;have C2:=t104 u1.g (f:=r1.1) om;cases hr2:gY r1.2 r1.1 with
   |none=>
    simp only[Option.bind_some,hr2,Option.bind_none,Option.map_none]at h2;rw[hr2]at C2;rw[h2];refine cv 11 rfl ?_;simp only[vq,seval,bp,q0,q1,q2,ga,gb]
    repeat(refine dC rfl rfl ?_;simp only[vq,seval,bp,q0,q1,q2,ga,gb])
    refine bF 0 (vals0:=[.aY 8 0 1 0 0,iV a,iV b]) (v0:=iV r1.1) (es':=bl r1.2) rfl rfl Rr rfl (ba _ _ M) (ba _ _ r1.2) rfl C1 ?_
    repeat(refine dC rfl rfl ?_;simp only[vq,seval,bp,q0,q1,q2,ga,gb])
    refine b9 0 (vals0:=[.aY 8 0 1 0 0,iV r1.1]) rfl rfl Rr rfl (ba _ _ r1.2) C2 ?_;exact fq
   |some r2=>
    obtain⟨u2,l2⟩:=kl u1.g (f:=r1.1) om hr2;have m2:=u2.l;simp only[Option.bind_some,hr2]at h2;rw[hr2]at C2;have C3:=t162 u2.g (f:=t) (g:=r2.1) om om;cases hr3:gF r2.2 t r2.1 with
    |none=>
     simp only[Option.bind_some,hr3,Option.bind_none,Option.map_none]at h2;rw[hr3]at C3;rw[h2];refine cv 12 rfl ?_;simp only[vq,seval,bp,q0,q1,q2,ga,gb]
     repeat(refine dC rfl rfl ?_;simp only[vq,seval,bp,q0,q1,q2,ga,gb])
     refine bF 0 (vals0:=[.aY 8 0 1 0 0,iV a,iV b]) (v0:=iV r1.1) (es':=bl r1.2) rfl rfl Rr rfl (ba _ _ M) (ba _ _ r1.2) rfl C1 ?_
     repeat(refine dC rfl rfl ?_;simp only[vq,seval,bp,q0,q1,q2,ga,gb])
     refine bF 0 (vals0:=[.aY 8 0 1 0 0,iV r1.1]) (v0:=iV r2.1) (es':=bl r2.2) rfl rfl Rr rfl (ba _ _ r1.2) (ba _ _ r2.2) rfl C2 ?_
     repeat(refine dC rfl rfl ?_;simp only[vq,seval,bp,q0,q1,q2,ga,gb])
     refine b9 0 (vals0:=[.aY 8 0 1 0 0,iV t,iV r2.1]) rfl rfl Rr rfl (ba _ _ r2.2) C3 ?_;exact fq
    |some r3=>
     obtain⟨u3,l3⟩:=jA u2.g (f:=t) (g:=r2.1) om om hr3;have m3:=u3.l;simp only[Option.bind_some,hr3]at h2;rw[hr3]at C3;refine dj ?_;refine bW ?_;simp only[vq,seval,bp,q0,q1,q2,ga,gb]
     repeat(refine cc rfl rfl ?_;simp only[vq,seval,bp,q0,q1,q2,ga,gb])
     refine bF 0 (vals0:=[.aY 8 0 1 0 0,iV a,iV b]) (v0:=iV r1.1) (es':=bl r1.2) rfl rfl Rr rfl (ba _ _ M) (ba _ _ r1.2) rfl C1 ?_
     repeat(refine cc rfl rfl ?_;simp only[vq,seval,bp,q0,q1,q2,ga,gb])
     refine bF 0 (vals0:=[.aY 8 0 1 0 0,iV r1.1]) (v0:=iV r2.1) (es':=bl r2.2) rfl rfl Rr rfl (ba _ _ r1.2) (ba _ _ r2.2) rfl C2 ?_
     repeat(refine cc rfl rfl ?_;simp only[vq,seval,bp,q0,q1,q2,ga,gb])
     refine bF 0 (vals0:=[.aY 8 0 1 0 0,iV t,iV r2.1]) (v0:=iV r3.1) (es':=bl r3.2) rfl rfl Rr rfl (ba _ _ r2.2) (ba _ _ r3.2) rfl C3 ?_
     repeat(refine cc rfl rfl ?_;simp only[vq,seval,bp,q0,q1,q2,ga,gb])
     refine bL (i+1,r3.1,r3.2) (by simp only;omega) (bk rfl ?_) ⟨by simp only;omega,h2,u3.g,by simp only;omega,l3⟩;simp only[vq,seval];rw[a8 om om]
     try trivial
 ·simp only[ak]at hc;obtain rfl:i=16:=om;rw[aR om,aR om,Gb]at h2;rw[h2];simp only[vq,seval];exact lq rfl rfl
theorem t161{N:Gr}(G:ct N){x y:List Nat}(hx:x.length=16)(hy:y.length=16)(hxN:cU N x)(hyN:cU N y):ff 161 [.aY 8 0 1 0 0,.agg (x.map iV),.agg (y.map iV)] N (vI (lN x y 0 N)):=by
 have hmL:=dx;have h2N:=G.two;refine gb cc161 (AC.at AC.pn [1,1,0,1,2,2,1,1,0,2,1,1,1] (AC.at AC.pn [1,1,0,1,2,2,1,1,0,2,1,1,0] (AC.at AC.pn [1,1,0,1,2,2,1,1,0,2,1,0] ac161))) rfl ?_;simp only[vq,seval,ac161,AC.at];refine⟨hx,cb _,hy,cb _,?_⟩;refine bb (fun t:Nat×Nat×Gr=>⟨cC 43 [(0,.aY 8 0 1 0 0),(4,.aY 16 1 1 0 0),(5,.aY 16 2 1 0 0),(7,iV t.2.1),(11,.d (.int .i64 t.1))],[.live 8 (bl t.2.2),jJ x,jJ y]⟩) (fun t=>t.1<=16/\lN x y 0 N=lN (x.drop t.1) (y.drop t.1) t.2.1 t.2.2/\ct t.2.2/\N.length<=t.2.2.length/\t.2.1<t.2.2.length) (fun t=>16-t.1) (0,0,N) (bk (by first|rfl|simp) vt) ⟨om,sm,G,aq _,by simp only;omega⟩ ?_;rintro⟨i,t,M⟩ ⟨h1,h2,h3,h4,h5⟩;dsimp only at h1 h2 h3 h4 h5;simp only[vq,seval];refine aZ (fun hc=>?_) (fun hc=>?_)
 ·simp only[aj]at hc;obtain⟨a,ha⟩:=bh (l:=x) (i:=i) om;obtain⟨b,hb⟩:=bh (l:=y) (i:=i) om;have ham:=hxN a (af ha);have hbm:=hyN b (af hb);rw[bt ha,bt hb,lN]at h2;obtain⟨q0,q1,q2⟩:=qj (i:=i) om;have ga:=cK (fQ ha);have gb:=cK (fQ hb);simp only[vq,seval];have C1:=t104 h3 (f:=a) om;cases hr1:gY M a with
  |none=>
   simp only[Option.bind_some,hr1,Option.bind_none,Option.map_none]at h2;rw[hr1]at C1;rw[h2];refine cv 5 rfl ?_;simp only[vq,seval,bp,q0,q1,q2,ga,gb]
   repeat(refine dC rfl rfl ?_;simp only[vq,seval,bp,q0,q1,q2,ga,gb])
   refine b9 0 (vals0:=[.aY 8 0 1 0 0,iV a]) rfl rfl Rr rfl (ba _ _ M) C1 ?_;exact fq
  |some r1=>
   obtain⟨u1,l1⟩:=kl h3 (f:=a) om hr1;have m1:=u1.l;simp only[Option.bind_some,hr1]at h2;rw[hr1]at C1;have C2:=t162 u1.g (f:=r1.1) (g:=b) om om;cases hr2:gF r1.2 r1.1 b with
   |none=>
    simp only[Option.bind_some,hr2,Option.bind_none,Option.map_none]at h2;rw[hr2]at C2;rw[h2];refine cv 9 rfl ?_;simp only[vq,seval,bp,q0,q1,q2,ga,gb]
    repeat(refine dC rfl rfl ?_;simp only[vq,seval,bp,q0,q1,q2,ga,gb])
    refine bF 0 (vals0:=[.aY 8 0 1 0 0,iV a]) (v0:=iV r1.1) (es':=bl r1.2) rfl rfl Rr rfl (ba _ _ M) (ba _ _ r1.2) rfl C1 ?_
    repeat(refine dC rfl rfl ?_;simp only[vq,seval,bp,q0,q1,q2,ga,gb])
    refine b9 0 (vals0:=[.aY 8 0 1 0 0,iV r1.1,iV b]) rfl rfl Rr rfl (ba _ _ r1.2) C2 ?_;exact fq
   |some r2=>
    obtain⟨u2,l2⟩:=jA u1.g (f:=r1.1) (g:=b) om om hr2;have m2:=u2.l;simp only[Option.bind_some,hr2]at h2;rw[hr2]at C2;refine dj ?_;refine bW ?_;simp only[vq,seval,bp,q0,q1,q2,ga,gb]
    repeat(refine cc rfl rfl ?_;simp only[vq,seval,bp,q0,q1,q2,ga,gb])
    refine bF 0 (vals0:=[.aY 8 0 1 0 0,iV a]) (v0:=iV r1.1) (es':=bl r1.2) rfl rfl Rr rfl (ba _ _ M) (ba _ _ r1.2) rfl C1 ?_
    repeat(refine cc rfl rfl ?_;simp only[vq,seval,bp,q0,q1,q2,ga,gb])
    refine bF 0 (vals0:=[.aY 8 0 1 0 0,iV r1.1,iV b]) (v0:=iV r2.1) (es':=bl r2.2) rfl rfl Rr rfl (ba _ _ r1.2) (ba _ _ r2.2) rfl C2 ?_
    repeat(refine cc rfl rfl ?_;simp only[vq,seval,bp,q0,q1,q2,ga,gb])
    have C3:=t165 u2.g (f:=a) (g:=b) om om;cases hr3:lZ r2.2 a b with
    |none=>
     simp only[Option.bind_some,hr3,Option.bind_none,Option.map_none]at h2;rw[hr3]at C3;rw[h2];refine cv 9 rfl ?_;simp only[vq,seval,bp,q0,q1,q2,ga,gb]
     repeat(refine dC rfl rfl ?_;simp only[vq,seval,bp,q0,q1,q2,ga,gb])
     refine b9 0 (vals0:=[.aY 8 0 1 0 0,iV a,iV b]) rfl rfl Rr rfl (ba _ _ r2.2) C3 ?_;exact fq
    |some r3=>
     obtain⟨u3,l3⟩:=su u2.g (f:=a) (g:=b) om om hr3;have m3:=u3.l;simp only[Option.bind_some,hr3]at h2;rw[hr3]at C3;have C4:=t104 u3.g (f:=r3.1) om;cases hr4:gY r3.2 r3.1 with
     |none=>
      simp only[Option.bind_some,hr4,Option.bind_none,Option.map_none]at h2;rw[hr4]at C4;rw[h2];refine cv 10 rfl ?_;simp only[vq,seval,bp,q0,q1,q2,ga,gb]
      repeat(refine dC rfl rfl ?_;simp only[vq,seval,bp,q0,q1,q2,ga,gb])
      refine bF 0 (vals0:=[.aY 8 0 1 0 0,iV a,iV b]) (v0:=iV r3.1) (es':=bl r3.2) rfl rfl Rr rfl (ba _ _ r2.2) (ba _ _ r3.2) rfl C3 ?_
      repeat(refine dC rfl rfl ?_;simp only[vq,seval,bp,q0,q1,q2,ga,gb])
      refine b9 0 (vals0:=[.aY 8 0 1 0 0,iV r3.1]) rfl rfl Rr rfl (ba _ _ r3.2) C4 ?_;exact fq
     |some r4=>
      obtain⟨u4,l4⟩:=kl u3.g (f:=r3.1) om hr4;have m4:=u4.l;simp only[Option.bind_some,hr4]at h2;rw[hr4]at C4;have C5:=t162 u4.g (f:=r4.1) (g:=t) om om;cases hr5:gF r4.2 r4.1 t with
      |none=>
       simp only[Option.bind_some,hr5,Option.bind_none,Option.map_none]at h2;rw[hr5]at C5;rw[h2];refine cv 12 rfl ?_;simp only[vq,seval,bp,q0,q1,q2,ga,gb]
       repeat(refine dC rfl rfl ?_;simp only[vq,seval,bp,q0,q1,q2,ga,gb])
       refine bF 0 (vals0:=[.aY 8 0 1 0 0,iV a,iV b]) (v0:=iV r3.1) (es':=bl r3.2) rfl rfl Rr rfl (ba _ _ r2.2) (ba _ _ r3.2) rfl C3 ?_
       repeat(refine dC rfl rfl ?_;simp only[vq,seval,bp,q0,q1,q2,ga,gb])
       refine bF 0 (vals0:=[.aY 8 0 1 0 0,iV r3.1]) (v0:=iV r4.1) (es':=bl r4.2) rfl rfl Rr rfl (ba _ _ r3.2) (ba _ _ r4.2) rfl C4 ?_
       repeat(refine dC rfl rfl ?_;simp only[vq,seval,bp,q0,q1,q2,ga,gb])
       refine b9 0 (vals0:=[.aY 8 0 1 0 0,iV r4.1,iV t]) rfl rfl Rr rfl (ba _ _ r4.2) C5 ?_;exact fq
      |some r5=>
       obtain⟨u5,l5⟩:=jA u4.g (f:=r4.1) (g:=t) om om hr5;have m5:=u5.l;simp only[Option.bind_some,hr5]at h2;rw[hr5]at C5;refine dj ?_;refine bW ?_;simp only[vq,seval,bp,q0,q1,q2,ga,gb]
       repeat(refine cc rfl rfl ?_;simp only[vq,seval,bp,q0,q1,q2,ga,gb])
       refine bF 0 (vals0:=[.aY 8 0 1 0 0,iV a,iV b]) (v0:=iV r3.1) (es':=bl r3.2) rfl rfl Rr rfl (ba _ _ r2.2) (ba _ _ r3.2) rfl C3 ?_
       repeat(refine cc rfl rfl ?_;simp only[vq,seval,bp,q0,q1,q2,ga,gb])
       refine bF 0 (vals0:=[.aY 8 0 1 0 0,iV r3.1]) (v0:=iV r4.1) (es':=bl r4.2) rfl rfl Rr rfl (ba _ _ r3.2) (ba _ _ r4.2) rfl C4 ?_
       repeat(refine cc rfl rfl ?_;simp only[vq,seval,bp,q0,q1,q2,ga,gb])
       refine bF 0 (vals0:=[.aY 8 0 1 0 0,iV r4.1,iV t]) (v0:=iV r5.1) (es':=bl r5.2) rfl rfl Rr rfl (ba _ _ r4.2) (ba _ _ r5.2) rfl C5 ?_
       repeat(refine cc rfl rfl ?_;simp only[vq,seval,bp,q0,q1,q2,ga,gb])
       have C6:=t100 u5.g (f:=r2.1) (g:=r5.1) om om;cases hr6:qz r5.2 r2.1 r5.1 with
       |none=>simp only[Option.bind_some,hr6,Option.bind_none,Option.map_none]at h2;rw[hr6]at C6;rw[h2];refine cr 3 rfl ?_;simp only[vq,seval,bp];refine b9 0 (vals0:=[.aY 8 0 1 0 0,iV r2.1,iV r5.1]) rfl rfl Rr rfl (ba _ _ r5.2) C6 ?_;exact fq
       |some r6=>
        obtain⟨u6,l6⟩:=pR u5.g (f:=r2.1) (g:=r5.1) om om hr6;have m6:=u6.l;simp only[Option.bind_some,hr6]at h2;rw[hr6]at C6;refine cI ?_;simp only[vq,seval,bp];refine bF 0 (vals0:=[.aY 8 0 1 0 0,iV r2.1,iV r5.1]) (v0:=iV r6.1) (es':=bl r6.2) rfl rfl Rr rfl (ba _ _ r5.2) (ba _ _ r6.2) rfl C6 ?_;simp only[vq,seval,bp];refine bL (i+1,r6.1,r6.2) (by simp only;omega) (bk rfl ?_) ⟨by simp only;omega,h2,u6.g,by simp only;omega,l6⟩;simp only[vq,seval];rw[a8 om om]
        try trivial
 ·simp only[ak]at hc;obtain rfl:i=16:=om;rw[aR om,aR om,GL]at h2;rw[h2];simp only[vq,seval];exact lq rfl rfl
end
section
variable[BE][NB]
theorem kB{α:Type}{N:Gr}{r:Option (α×Gr)}{P:α->Gr->Prop}(h:st N r P){t:α×Gr}(e:r=some t):vA N t.2/\P t.1 t.2:=by obtain⟨h1,⟨L,h2⟩,h3⟩:=h.h t.1 t.2 e;exact⟨⟨h1,by rw[h2];simp⟩,h3⟩
theorem cU.hw{N:Gr}{w:List Nat}(h:cU N w):hw N w (fun β=>vl β N w):=hw.self h
theorem Ey{N:Gr}{w:List Nat}{r:List Nat×Gr}(G:ct N)(hN:cU N w)(h:pG w N=some r):vA N r.2/\r.1.length=w.length/\cU r.2 r.1:=by obtain⟨h1,h2,h3⟩:=kB (uB G hN.hw) h;exact⟨h1,h2,h3.l⟩
theorem zk{N:Gr}{x y:List Nat}{c:Nat}{r:List Nat×Gr}(G:ct N)(hl:x.length=y.length)(hx:cU N x)(hy:cU N y)(hc:c<N.length)(h:lX x y c N=some r):vA N r.2/\r.1.length=x.length/\cU r.2 r.1:=by obtain⟨h1,h2,h3⟩:=kB (pB G hl hx.hw hy.hw (hv.self hc)) h;exact⟨h1,h2,h3.l⟩
theorem iB{w:List Nat}:cY 0 (w.map iV)=w.map iV:=by
 induction w with
 |nil=>rfl
 |cons x w ih=>rw[List.map_cons,cY,ih];rfl
theorem ca{w:List Nat}:cJ 0 (.agg (w.map iV))=.agg (w.map iV):=by rw[cJ,iB]
theorem yf{w:List Nat}:AM (w.map iV)=true:=by
 induction w with
 |nil=>rfl
 |cons x w ih=>rw[List.map_cons,AM,ih];rfl
theorem eY{w:List Nat}:hZ (.agg (w.map iV))=true:=by rw[hZ,yf]
theorem eS:cJ 0 (.aY 8 0 1 0 0)=.aY 8 0 1 0 0:=rfl
theorem lj:hZ (.aY 8 0 1 0 0)=true:=rfl
theorem nt{n:Nat}:hZ (iV n)=true:=rfl
theorem t106{N:Gr}(G:ct N){x y:List Nat}(hx:x.length=16)(hy:y.length=16)(hxN:cU N x)(hyN:cU N y):ff 106 [.aY 8 0 1 0 0,.agg (x.map iV),.agg (y.map iV)] N (vW (xu x y N)):=by
 have h2N:=G.two;have C1:=t105 G hy hyN;have tx:=fm hx;have ty:=fm hy;obtain⟨D,h2⟩:∃D,xu x y N=D:=⟨_,rfl⟩;rw[h2];rw[xu]at h2;refine gb cc106 (AC.at AC.pn [1,0] (AC.at AC.pn [1,0] ac106)) rfl ?_;simp only[vq,seval,ac106,AC.at];refine⟨hx,cb _,hy,cb _,?_⟩;cases hr1:pG y N with
 |none=>
  simp only[hr1,Option.bind_none]at h2;rw[hr1]at C1;rw[<-h2];refine cv 4 rfl ?_;simp only[vq,seval,tx,ty]
  repeat(refine dC rfl rfl ?_;simp only[vq,seval,tx,ty])
  refine b9 0 (vals0:=[.aY 8 0 1 0 0,.agg (y.map iV)]) (by simp[ca,eS]) (by simp[eY,lj]) Rr rfl (ba _ _ N) C1 ?_;exact fq
 |some r1=>
  obtain⟨u1,l1,i1⟩:=Ey G hyN hr1;have m1:=u1.l;simp only[hr1,Option.bind_some]at h2;rw[hr1]at C1;have C2:=t160 u1.g hx om (hxN.app m1) i1 (c:=1) om;cases hr2:lX x r1.1 1 r1.2 with
  |none=>
   rw[hr2]at C2 h2;rw[<-h2];refine cv 5 rfl ?_;simp only[vq,seval,tx,ty]
   repeat(refine dC rfl rfl ?_;simp only[vq,seval,tx,ty])
   refine bF 0 (vals0:=[.aY 8 0 1 0 0,.agg (y.map iV)]) (v0:=.agg (r1.1.map iV)) (es':=bl r1.2) (by simp[ca,eS]) (by simp[eY,lj]) Rr rfl (ba _ _ N) (ba _ _ r1.2) rfl C1 ?_
   repeat(refine dC rfl rfl ?_;simp only[vq,seval,ca,tx,ty])
   refine b9 0 (vals0:=[.aY 8 0 1 0 0,.agg (x.map iV),.agg (r1.1.map iV),iV 1]) (by simp[ca,eS,bp]) (by simp[eY,lj,nt]) Rr rfl (ba _ _ r1.2) C2 ?_;exact fq
  |some r2=>
   obtain⟨u2,l2,i2⟩:=zk u1.g om (hxN.app m1) i1 (c:=1) om hr2;rw[hr2]at C2 h2;rw[<-h2];refine dj ?_;refine bW ?_;simp only[vq,seval,tx,ty]
   repeat(refine cc rfl rfl ?_;simp only[vq,seval,tx,ty])
   refine bF 0 (vals0:=[.aY 8 0 1 0 0,.agg (y.map iV)]) (v0:=.agg (r1.1.map iV)) (es':=bl r1.2) (by simp[ca,eS]) (by simp[eY,lj]) Rr rfl (ba _ _ N) (ba _ _ r1.2) rfl C1 ?_
   repeat(refine cc rfl rfl ?_;simp only[vq,seval,ca,tx,ty])
   refine bF 0 (vals0:=[.aY 8 0 1 0 0,.agg (x.map iV),.agg (r1.1.map iV),iV 1]) (v0:=.agg (r2.1.map iV)) (es':=bl r2.2) (by simp[ca,eS,bp]) (by simp[eY,lj,nt]) Rr rfl (ba _ _ r1.2) (ba _ _ r2.2) rfl C2 ?_
   repeat(refine cc rfl rfl ?_;simp only[vq,seval,ca,tx,ty])
   have hr:r2.1.length=16:=om;have hrl:=dy hr;refine⟨om,cb _,?_⟩
   repeat(refine cc rfl rfl ?_;simp only[vq,seval,ca,tx,ty,hrl])
   exact cG (h:=3) om hr rfl rfl (by simp[hr])
end
section
variable[BE][NB]
theorem Fg{N:Gr}(G:ct N){t:Nat}(h:t<N.length):cU N (nK t):=fun f hf=>by
 have:=G.two;rcases aP.1 hf with rfl|hf
 ·exact h
 ·rw[List.eq_of_mem_replicate hf];omega
theorem mH{N:Gr}(G:ct N)(n:Nat):cU N (dS n):=fun f hf=>by have:=G.two;obtain⟨i,_,rfl⟩:=aw.1 hf;omega
theorem hV(n:Nat):(dS n).length=16:=by simp[dS]
theorem t107{N:Gr}(G:ct N){x:List Nat}(hx:x.length=16)(hxN:cU N x):ff 107 [.aY 8 0 1 0 0,.agg (x.map iV)] N (vW (r7 x (dS 0) N)):=by
 have hmL:=dx;have C0:=t101 0 om;have tx:=fm hx;refine gb cc107 (AC.at AC.pn [1,1,0,1,2,2,1,1,0,2,1] ac107) rfl ?_;simp only[vq,seval,ac107,AC.at];refine⟨hx,cb _,?_⟩;refine aW rfl C0 ?_;have hl0:=hV 0;have tl0:=dy hl0;simp only[vq,seval,tl0];refine⟨cb _,?_⟩;refine bb (fun t:Nat×List Nat×Gr=>⟨cC 20 [(0,.aY 8 0 1 0 0),(3,.aY 16 1 1 0 0),(4,.aY 16 2 1 0 0),(5,.aY 16 3 1 0 0),(9,.agg (x.map iV)),(10,.d (.int .i64 t.1))],[.live 8 (bl t.2.2),jJ x,jJ (List.replicate 16 0),jJ t.2.1]⟩) (fun t=>t.1<=16/\r7 x (dS 0) N=r7 (x.drop t.1) t.2.1 t.2.2/\ct t.2.2/\N.length<=t.2.2.length/\t.2.1.length=16/\cU t.2.2 t.2.1) (fun t=>16-t.1) (0,dS 0,N) (bk (by first|rfl|simp) (by simp only[vq,seval,tx];try trivial)) ⟨om,sm,G,aq _,hl0,mH G 0⟩ ?_;rintro⟨i,w,M⟩ ⟨h1,h2,h3,h4,h5,h6⟩;dsimp only at h1 h2 h3 h4 h5 h6;simp only[vq,seval];have tw:=fm h5;have lw:=dy h5;refine aZ (fun hc=>?_) (fun hc=>?_)
 ·simp only[aj]at hc;obtain⟨a,ha⟩:=bh (l:=x) (i:=i) om;have ham:=hxN a (af ha);have h2M:=h3.two;rw[bt ha,r7]at h2;obtain⟨q0,q1,q2⟩:=qj (i:=i) om;have ga:=cK (CF ha);simp only[vq,seval,q0,q1,ga];refine⟨hx,?_⟩;have C1:=t160 h3 h5 (y:=nK a) rfl h6 (Fg h3 om) (c:=0) om;have C0:=t103 a;cases hr1:lX w (nK a) 0 M with
  |none=>
   simp only[hr1,Option.bind_none]at h2;rw[hr1]at C1;rw[h2];refine cv 4 rfl ?_;simp only[vq,seval,tw]
   repeat(refine dC rfl rfl ?_;simp only[vq,seval,tw])
   refine aW rfl C0 ?_
   repeat(refine dC rfl rfl ?_;simp only[vq,seval,tw])
   refine b9 0 (vals0:=[.aY 8 0 1 0 0,.agg (w.map iV),.agg ((nK a).map iV),iV 0]) (by simp[ca,eS,bp]) (by simp[eY,lj,nt]) Rr rfl (ba _ _ M) C1 ?_;exact fq
  |some r1=>
   obtain⟨u1,l1,i1⟩:=zk h3 h5 h6 (Fg h3 om) (c:=0) om hr1;have m1:=u1.l;simp only[hr1,Option.bind_some]at h2;rw[hr1]at C1;refine dj ?_;refine bW ?_;simp only[vq,seval,tw]
   repeat(refine cc rfl rfl ?_;simp only[vq,seval,tw])
   refine aW rfl C0 ?_
   repeat(refine cc rfl rfl ?_;simp only[vq,seval,tw])
   refine bF 0 (vals0:=[.aY 8 0 1 0 0,.agg (w.map iV),.agg ((nK a).map iV),iV 0]) (v0:=.agg (r1.1.map iV)) (es':=bl r1.2) (by simp[ca,eS,bp]) (by simp[eY,lj,nt]) Rr rfl (ba _ _ M) (ba _ _ r1.2) rfl C1 ?_;have hr:r1.1.length=16:=om;have hrl:=dy hr
   repeat(refine cc rfl rfl ?_;simp only[vq,seval,ca,tw])
   refine⟨om,cb _,?_⟩
   repeat(refine cc rfl rfl ?_;simp only[vq,seval,ca,hrl])
   refine bL (i+1,r1.1,r1.2) (by simp only;omega) (bk (by simp[h5,hr]) ?_) ⟨by simp only;omega,h2,u1.g,by simp only;omega,hr,i1⟩;simp only[vq,seval];rw[a8 om om]
   try trivial
 ·simp only[ak]at hc;obtain rfl:i=16:=om;rw[aR om,r7]at h2;rw[h2];simp only[vq,seval];rw[tw,xQ h5 rfl];exact⟨lw,cb _,cG (h:=2) om h5 rfl rfl rfl⟩
end
section
variable[BE][NB]
theorem rF{N:Gr}{w:List Nat}{t:Nat}{r:Nat×Gr}(G:ct N)(hw:cU N w)(ht:t<N.length)(h:lL w t N=some r):vA N r.2/\r.1<r.2.length:=by obtain⟨h1,h2⟩:=kB (nJ G hw.hw (hv.self ht)) h;exact⟨h1,h2.l⟩
theorem t167{N:Gr}(G:ct N)(op:Int){x y:List Nat}(hx:x.length=16)(hy:y.length=16)(hxN:cU N x)(hyN:cU N y):ff 167 [.aY 8 0 1 0 0,.d (.int .i64 op),.agg (x.map iV),.agg (y.map iV)] N (vW (BA op x y N)):=by
 have h2N:=G.two;have tx:=fm hx;have ty:=fm hy;obtain⟨D,h2⟩:∃D,BA op x y N=D:=⟨_,rfl⟩;rw[h2];rw[BA]at h2;have C1:=t55 G hx hxN;refine gb cc167 (AC.at AC.pn [1,1,1,1,0] (AC.at AC.pn [1,1,1,0,1,2,1,1,1,0,0] (AC.at AC.pn [1,1,1,0,1,2,1,0,0] (AC.at AC.pn [1,1,0] (AC.at AC.pn [1,0] ac167))))) rfl ?_;simp only[vq,seval,ac167,AC.at];refine⟨hx,cb _,hy,cb _,?_⟩;cases hr1:lL x 0 N with
 |none=>simp only[hr1,Option.bind_none]at h2;rw[hr1]at C1;rw[<-h2];refine cr 2 rfl ?_;simp only[vq,seval,tx];refine b9 0 (vals0:=[.aY 8 0 1 0 0,.agg (x.map iV)]) (by simp[ca,eS]) (by simp[eY,lj]) Rr rfl (ba _ _ N) C1 ?_;simp only[vq,seval];exact rfl
 |some r1=>
  obtain⟨u1,l1⟩:=rF G hxN om hr1;have m1:=u1.l;simp only[hr1,Option.bind_some]at h2;rw[hr1]at C1;refine cI ?_;simp only[vq,seval,tx];refine bF 0 (vals0:=[.aY 8 0 1 0 0,.agg (x.map iV)]) (v0:=iV r1.1) (es':=bl r1.2) (by simp[ca,eS]) (by simp[eY,lj]) Rr rfl (ba _ _ N) (ba _ _ r1.2) rfl C1 ?_;simp only[vq,seval,bp];have C2:=t55 u1.g hy (hyN.app m1);cases hr2:lL y 0 r1.2 with
  |none=>simp only[hr2,Option.bind_none]at h2;rw[hr2]at C2;rw[<-h2];refine cr 2 rfl ?_;simp only[vq,seval,ty];refine b9 0 (vals0:=[.aY 8 0 1 0 0,.agg (y.map iV)]) (by simp[ca,eS]) (by simp[eY,lj]) Rr rfl (ba _ _ r1.2) C2 ?_;simp only[vq,seval];exact rfl
  |some r2=>
   obtain⟨u2,l2⟩:=rF u1.g (hyN.app m1) om hr2;have m2:=u2.l;simp only[hr2,Option.bind_some]at h2;rw[hr2]at C2;refine cI ?_;simp only[vq,seval,ty];refine bF 0 (vals0:=[.aY 8 0 1 0 0,.agg (y.map iV)]) (v0:=iV r2.1) (es':=bl r2.2) (by simp[ca,eS]) (by simp[eY,lj]) Rr rfl (ba _ _ r1.2) (ba _ _ r2.2) rfl C2 ?_;simp only[vq,seval,bp];have ltr:=fun t=>dy (eX t);by_cases e1:op=19
   ·rw[if_pos e1]at h2;simp only[vq,seval,dt e1];have C3:=t162 u2.g (f:=r1.1) (g:=r2.1) om om;cases hr3:gF r2.2 r1.1 r2.1 with
    |none=>simp only[Option.bind_some,hr3,Option.bind_none,Option.map_none,kJ]at h2;rw[hr3]at C3;rw[<-h2];refine cr 3 rfl ?_;simp only[vq,seval,bp];refine b9 0 (vals0:=[.aY 8 0 1 0 0,iV r1.1,iV r2.1]) rfl rfl Rr rfl (ba _ _ r2.2) C3 ?_;exact fq
    |some r3=>obtain⟨u3,l3⟩:=jA u2.g (f:=r1.1) (g:=r2.1) om om hr3;have m3:=u3.l;simp only[Option.bind_some,hr3,kJ,Option.map_some]at h2;rw[hr3]at C3;refine cI ?_;simp only[vq,seval,bp];refine bF 0 (vals0:=[.aY 8 0 1 0 0,iV r1.1,iV r2.1]) (v0:=iV r3.1) (es':=bl r3.2) rfl rfl Rr rfl (ba _ _ r2.2) (ba _ _ r3.2) rfl C3 ?_;simp only[vq,seval,bp];rw[<-h2];refine aW rfl (t103 r3.1) ?_;simp only[vq,seval,ltr];refine⟨cb _,?_⟩;exact cG (h:=3) om (eX _) rfl rfl (by first|rfl|simp)
   rw[if_neg e1]at h2;simp only[vq,seval,df e1];by_cases e2:op=20
   ·rw[if_pos e2]at h2;simp only[vq,seval,dt e2];have C4:=t100 u2.g (f:=r1.1) (g:=r2.1) om om;cases hr4:qz r2.2 r1.1 r2.1 with
    |none=>simp only[Option.bind_some,hr4,Option.bind_none,Option.map_none,kJ]at h2;rw[hr4]at C4;rw[<-h2];refine cr 3 rfl ?_;simp only[vq,seval,bp];refine b9 0 (vals0:=[.aY 8 0 1 0 0,iV r1.1,iV r2.1]) rfl rfl Rr rfl (ba _ _ r2.2) C4 ?_;exact fq
    |some r4=>obtain⟨u4,l4⟩:=pR u2.g (f:=r1.1) (g:=r2.1) om om hr4;have m4:=u4.l;simp only[Option.bind_some,hr4,kJ,Option.map_some]at h2;rw[hr4]at C4;refine cI ?_;simp only[vq,seval,bp];refine bF 0 (vals0:=[.aY 8 0 1 0 0,iV r1.1,iV r2.1]) (v0:=iV r4.1) (es':=bl r4.2) rfl rfl Rr rfl (ba _ _ r2.2) (ba _ _ r4.2) rfl C4 ?_;simp only[vq,seval,bp];rw[<-h2];refine aW rfl (t103 r4.1) ?_;simp only[vq,seval,ltr];refine⟨cb _,?_⟩;exact cG (h:=3) om (eX _) rfl rfl (by first|rfl|simp)
   rw[if_neg e2]at h2;simp only[vq,seval,df e2];have C5:=t104 u2.g (f:=r1.1) om;cases hr5:gY r2.2 r1.1 with
   |none=>simp only[Option.bind_some,hr5,Option.bind_none,Option.map_none,kJ]at h2;rw[hr5]at C5;rw[<-h2];refine cr 3 rfl ?_;simp only[vq,seval,bp];refine b9 0 (vals0:=[.aY 8 0 1 0 0,iV r1.1]) rfl rfl Rr rfl (ba _ _ r2.2) C5 ?_;exact fq
   |some r5=>
    obtain⟨u5,l5⟩:=kl u2.g (f:=r1.1) om hr5;have m5:=u5.l;simp only[Option.bind_some,hr5]at h2;rw[hr5]at C5;have C6:=t100 u5.g (f:=r5.1) (g:=r2.1) om om;cases hr6:qz r5.2 r5.1 r2.1 with
    |none=>simp only[Option.bind_some,hr6,Option.bind_none,Option.map_none,kJ]at h2;rw[hr6]at C6;rw[<-h2];refine cr 5 rfl ?_;simp only[vq,seval,bp];refine bF 0 (vals0:=[.aY 8 0 1 0 0,iV r1.1]) (v0:=iV r5.1) (es':=bl r5.2) rfl rfl Rr rfl (ba _ _ r2.2) (ba _ _ r5.2) rfl C5 ?_;simp only[vq,seval,bp];refine b9 0 (vals0:=[.aY 8 0 1 0 0,iV r5.1,iV r2.1]) rfl rfl Rr rfl (ba _ _ r5.2) C6 ?_;exact fq
    |some r6=>obtain⟨u6,l6⟩:=pR u5.g (f:=r5.1) (g:=r2.1) om om hr6;have m6:=u6.l;simp only[Option.bind_some,hr6,kJ,Option.map_some]at h2;rw[hr6]at C6;refine cI ?_;simp only[vq,seval,bp];refine bF 0 (vals0:=[.aY 8 0 1 0 0,iV r1.1]) (v0:=iV r5.1) (es':=bl r5.2) rfl rfl Rr rfl (ba _ _ r2.2) (ba _ _ r5.2) rfl C5 ?_;simp only[vq,seval,bp];refine bF 0 (vals0:=[.aY 8 0 1 0 0,iV r5.1,iV r2.1]) (v0:=iV r6.1) (es':=bl r6.2) rfl rfl Rr rfl (ba _ _ r5.2) (ba _ _ r6.2) rfl C6 ?_;simp only[vq,seval,bp];rw[<-h2];refine aW rfl (t103 r6.1) ?_;simp only[vq,seval,ltr];refine⟨cb _,?_⟩;exact cG (h:=3) om (eX _) rfl rfl (by first|rfl|simp)
end
section
variable[BE][NB]
theorem xZ{N:Gr}{x y:List Nat}{t:Nat}{r:Nat×Gr}(G:ct N)(hl:x.length=y.length)(hx:cU N x)(hy:cU N y)(ht:t<N.length)(h:mv x y t N=some r):vA N r.2/\r.1<r.2.length:=by obtain⟨h1,h2⟩:=kB (qQ G hl hx.hw hy.hw (hv.self ht)) h;exact⟨h1,h2.l⟩
theorem tZ{N:Gr}{x y:List Nat}{t:Nat}{r:Nat×Gr}(G:ct N)(hl:x.length=y.length)(hx:cU N x)(hy:cU N y)(ht:t<N.length)(h:lN x y t N=some r):vA N r.2/\r.1<r.2.length:=by obtain⟨h1,h2⟩:=kB (pF G hl hx.hw hy.hw (hv.self ht)) h;exact⟨h1,h2.l⟩
theorem t168{N:Gr}(G:ct N)(op:Int){x y:List Nat}(hx:x.length=16)(hy:y.length=16)(hxN:cU N x)(hyN:cU N y):ff 168 [.aY 8 0 1 0 0,.d (.int .i64 op),.agg (x.map iV),.agg (y.map iV)] N (vW (AW op x y N)):=by
 have h2N:=G.two;have tx:=fm hx;have ty:=fm hy;obtain⟨D,h2⟩:∃D,AW op x y N=D:=⟨_,rfl⟩;rw[h2];rw[AW]at h2;refine gb cc168 (AC.at AC.pn [1,1,0] (AC.at AC.pn [1,0,1,2,1,1,1,1,1,0,0] (AC.at AC.pn [1,0,1,2,1,1,1,0,0] (AC.at AC.pn [1,0,1,2,1,0,0] ac168)))) rfl ?_;simp only[vq,seval,ac168,AC.at];refine⟨hx,cb _,hy,cb _,?_⟩;have ltr:=fun t=>dy (eX t);by_cases e1:op=15
 ·rw[if_pos e1]at h2;simp only[vq,seval,dt e1];have C1:=t208 G hx hy hxN hyN;cases hr1:mv x y 1 N with
  |none=>simp only[Option.bind_some,hr1,Option.bind_none,Option.map_none,kJ]at h2;rw[hr1]at C1;rw[<-h2];refine cr 3 rfl ?_;simp only[vq,seval,bp,tx,ty];refine b9 0 (vals0:=[.aY 8 0 1 0 0,.agg (x.map iV),.agg (y.map iV)]) (by simp[ca,eS,bp]) (by simp[eY,lj,nt]) Rr rfl (ba _ _ N) C1 ?_;exact fq
  |some r1=>obtain⟨u1,l1⟩:=xZ G om hxN hyN (t:=1) om hr1;have m1:=u1.l;simp only[Option.bind_some,hr1,kJ,Option.map_some]at h2;rw[hr1]at C1;refine cI ?_;simp only[vq,seval,bp,tx,ty];refine bF 0 (vals0:=[.aY 8 0 1 0 0,.agg (x.map iV),.agg (y.map iV)]) (v0:=iV r1.1) (es':=bl r1.2) (by simp[ca,eS,bp]) (by simp[eY,lj,nt]) Rr rfl (ba _ _ N) (ba _ _ r1.2) rfl C1 ?_;simp only[vq,seval,bp,tx,ty];rw[<-h2];refine aW rfl (t103 r1.1) ?_;simp only[vq,seval,ltr];refine⟨cb _,?_⟩;exact cG (h:=3) om (eX _) rfl rfl (by first|rfl|simp)
 rw[if_neg e1]at h2;simp only[vq,seval,df e1];by_cases e2:op=16
 ·rw[if_pos e2]at h2;simp only[vq,seval,dt e2];have C2:=t208 G hx hy hxN hyN;cases hr2:mv x y 1 N with
  |none=>simp only[Option.bind_some,hr2,Option.bind_none,Option.map_none,kJ]at h2;rw[hr2]at C2;rw[<-h2];refine cr 4 rfl ?_;simp only[vq,seval,bp,tx,ty];refine b9 0 (vals0:=[.aY 8 0 1 0 0,.agg (x.map iV),.agg (y.map iV)]) (by simp[ca,eS,bp]) (by simp[eY,lj,nt]) Rr rfl (ba _ _ N) C2 ?_;exact fq
  |some r2=>
   obtain⟨u2,l2⟩:=xZ G om hxN hyN (t:=1) om hr2;have m2:=u2.l;simp only[Option.bind_some,hr2]at h2;rw[hr2]at C2;have C3:=t104 u2.g (f:=r2.1) om;cases hr3:gY r2.2 r2.1 with
   |none=>simp only[Option.bind_some,hr3,Option.bind_none,Option.map_none,kJ]at h2;rw[hr3]at C3;rw[<-h2];refine cr 5 rfl ?_;simp only[vq,seval,bp,tx,ty];refine bF 0 (vals0:=[.aY 8 0 1 0 0,.agg (x.map iV),.agg (y.map iV)]) (v0:=iV r2.1) (es':=bl r2.2) (by simp[ca,eS,bp]) (by simp[eY,lj,nt]) Rr rfl (ba _ _ N) (ba _ _ r2.2) rfl C2 ?_;simp only[vq,seval,bp,tx,ty];refine b9 0 (vals0:=[.aY 8 0 1 0 0,iV r2.1]) (by simp[ca,eS,bp]) (by simp[eY,lj,nt]) Rr rfl (ba _ _ r2.2) C3 ?_;exact fq
   |some r3=>obtain⟨u3,l3⟩:=kl u2.g (f:=r2.1) om hr3;have m3:=u3.l;simp only[Option.bind_some,hr3,kJ,Option.map_some]at h2;rw[hr3]at C3;refine cI ?_;simp only[vq,seval,bp,tx,ty];refine bF 0 (vals0:=[.aY 8 0 1 0 0,.agg (x.map iV),.agg (y.map iV)]) (v0:=iV r2.1) (es':=bl r2.2) (by simp[ca,eS,bp]) (by simp[eY,lj,nt]) Rr rfl (ba _ _ N) (ba _ _ r2.2) rfl C2 ?_;simp only[vq,seval,bp,tx,ty];refine bF 0 (vals0:=[.aY 8 0 1 0 0,iV r2.1]) (v0:=iV r3.1) (es':=bl r3.2) (by simp[ca,eS,bp]) (by simp[eY,lj,nt]) Rr rfl (ba _ _ r2.2) (ba _ _ r3.2) rfl C3 ?_;simp only[vq,seval,bp,tx,ty];rw[<-h2];refine aW rfl (t103 r3.1) ?_;simp only[vq,seval,ltr];refine⟨cb _,?_⟩;exact cG (h:=3) om (eX _) rfl rfl (by first|rfl|simp)
 rw[if_neg e2]at h2;simp only[vq,seval,df e2];by_cases e3:op=17
 ·rw[if_pos e3]at h2;simp only[vq,seval,dt e3];have C4:=t161 G hx hy hxN hyN;cases hr4:lN x y 0 N with
  |none=>simp only[Option.bind_some,hr4,Option.bind_none,Option.map_none,kJ]at h2;rw[hr4]at C4;rw[<-h2];refine cr 3 rfl ?_;simp only[vq,seval,bp,tx,ty];refine b9 0 (vals0:=[.aY 8 0 1 0 0,.agg (x.map iV),.agg (y.map iV)]) (by simp[ca,eS,bp]) (by simp[eY,lj,nt]) Rr rfl (ba _ _ N) C4 ?_;exact fq
  |some r4=>obtain⟨u4,l4⟩:=tZ G om hxN hyN (t:=0) om hr4;have m4:=u4.l;simp only[Option.bind_some,hr4,kJ,Option.map_some]at h2;rw[hr4]at C4;refine cI ?_;simp only[vq,seval,bp,tx,ty];refine bF 0 (vals0:=[.aY 8 0 1 0 0,.agg (x.map iV),.agg (y.map iV)]) (v0:=iV r4.1) (es':=bl r4.2) (by simp[ca,eS,bp]) (by simp[eY,lj,nt]) Rr rfl (ba _ _ N) (ba _ _ r4.2) rfl C4 ?_;simp only[vq,seval,bp,tx,ty];rw[<-h2];refine aW rfl (t103 r4.1) ?_;simp only[vq,seval,ltr];refine⟨cb _,?_⟩;exact cG (h:=3) om (eX _) rfl rfl (by first|rfl|simp)
 rw[if_neg e3]at h2;simp only[vq,seval,df e3];have C5:=t161 G hy hx hyN hxN;cases hr5:lN y x 0 N with
 |none=>simp only[Option.bind_some,hr5,Option.bind_none,Option.map_none,kJ]at h2;rw[hr5]at C5;rw[<-h2];refine cr 4 rfl ?_;simp only[vq,seval,bp,tx,ty];refine b9 0 (vals0:=[.aY 8 0 1 0 0,.agg (y.map iV),.agg (x.map iV)]) (by simp[ca,eS,bp]) (by simp[eY,lj,nt]) Rr rfl (ba _ _ N) C5 ?_;exact fq
 |some r5=>
  obtain⟨u5,l5⟩:=tZ G om hyN hxN (t:=0) om hr5;have m5:=u5.l;simp only[Option.bind_some,hr5]at h2;rw[hr5]at C5;have C6:=t104 u5.g (f:=r5.1) om;cases hr6:gY r5.2 r5.1 with
  |none=>simp only[Option.bind_some,hr6,Option.bind_none,Option.map_none,kJ]at h2;rw[hr6]at C6;rw[<-h2];refine cr 5 rfl ?_;simp only[vq,seval,bp,tx,ty];refine bF 0 (vals0:=[.aY 8 0 1 0 0,.agg (y.map iV),.agg (x.map iV)]) (v0:=iV r5.1) (es':=bl r5.2) (by simp[ca,eS,bp]) (by simp[eY,lj,nt]) Rr rfl (ba _ _ N) (ba _ _ r5.2) rfl C5 ?_;simp only[vq,seval,bp,tx,ty];refine b9 0 (vals0:=[.aY 8 0 1 0 0,iV r5.1]) (by simp[ca,eS,bp]) (by simp[eY,lj,nt]) Rr rfl (ba _ _ r5.2) C6 ?_;exact fq
  |some r6=>obtain⟨u6,l6⟩:=kl u5.g (f:=r5.1) om hr6;have m6:=u6.l;simp only[Option.bind_some,hr6,kJ,Option.map_some]at h2;rw[hr6]at C6;refine cI ?_;simp only[vq,seval,bp,tx,ty];refine bF 0 (vals0:=[.aY 8 0 1 0 0,.agg (y.map iV),.agg (x.map iV)]) (v0:=iV r5.1) (es':=bl r5.2) (by simp[ca,eS,bp]) (by simp[eY,lj,nt]) Rr rfl (ba _ _ N) (ba _ _ r5.2) rfl C5 ?_;simp only[vq,seval,bp,tx,ty];refine bF 0 (vals0:=[.aY 8 0 1 0 0,iV r5.1]) (v0:=iV r6.1) (es':=bl r6.2) (by simp[ca,eS,bp]) (by simp[eY,lj,nt]) Rr rfl (ba _ _ r5.2) (ba _ _ r6.2) rfl C6 ?_;simp only[vq,seval,bp,tx,ty];rw[<-h2];refine aW rfl (t103 r6.1) ?_;simp only[vq,seval,ltr];refine⟨cb _,?_⟩;exact cG (h:=3) om (eX _) rfl rfl (by first|rfl|simp)
end
end Go.Proofs.Tp
