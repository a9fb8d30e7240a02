/- Proved: contracts of functions that the laws of Top reach, and plain facts for them. Conditions: those that each lemma states. -/
import Derived.Test.YtmhkppbollghoaaGreatDoorF6
import Derived.Test.YtmhkppbollghoaaGreatDoorV16
import Derived.Test.YtmhkppbollghoaaGreatDoorT1
import Derived.Test.YtmhkppbollghoaaGreatDoorS1
import Derived.Test.YtmhkppbollghoaaGreatDoorH5
import Derived.Test.YtmhkppbollghoaaGreatDoorK1
import Derived.Test.YtmhkppbollghoaaGreatDoorU3
set_option linter.unusedSectionVars false
set_option linter.unusedSimpArgs false
set_option linter.unusedVariables false
namespace Go.Proofs.Tp
open Go.Vx
def Cd(l:List Vr)(s:List Int×Int)(v:Int):List Int×Int:=(s.1.set v.toNat s.2,s.2+n8 l v)
def jc(p:Pr):List Int:=(p.br.flatten.foldl (Cd p.vars) (List.replicate p.vars.length (-1),0)).1
theorem FF(l:List Vr):∀(g:List Int) (s:List Int×Int),(g.foldl (Cd l) s).1.length=s.1.length
 |[],_=>rfl
 |v::g,s=>by rw[List.foldl_cons,FF l g];simp[Cd]
theorem KF{l:List Vr}(h:∀x∈l,1<=x.w/\x.w<=8)(v:Int):0<=n8 l v/\n8 l v<=8:=by
 unfold n8;split
 ·rename_i x hx;have:=h x (af hx);omega
 ·omega
theorem zN{o:List Int}{i:Nat}{x:Int}(h:o[i]? =some x):((o.map iD).map (·.map V.d))[i]? =some [.d (.int .i64 x)]:=by rw[ar,ar,h];rfl
theorem vo{o:List Int}{i:Nat}{x:Int}:((o.map iD).map (·.map V.d)).set i [.d (.int .i64 x)]=((o.set i x).map iD).map (·.map V.d):=by rw[List.map_set,List.map_set];rfl
theorem JB{p:Pr}(hv:cE p=0):ja p.vars p.br=true:=by
 unfold cE sT at hv
 repeat' (split at hv<;>try contradiction)
 ·assumption
theorem xw{K:Nat}:∀{L:List (List Int)},(∀g∈L,g.length<=K)->L.flatten.length<=K*L.length
 |[],_=>by simp
 |g::L,h=>by have:=xw (L:=L) fun x hx=>h x (List.mem_cons_of_mem _ hx);have:=h g (List.mem_cons_self ..);rw[List.flatten_cons,az,List.length_cons,Nat.mul_succ];omega
theorem t48(p:Pr)(ok:g8 p)(hv:cE p=0):CallP Tryz.prog 48 [.agg (p.d.map .d)] (.d (.sl 1 ((jc p).map iD))):=by
 have hm:=hm;have hl:=ok.vars.1;have hmL:=dx;have C:=t34 p ok;rw[hv]at C;have h16:p.vars.length<=16:=gK (ec hv);obtain⟨n,hn⟩:∃n,p.vars.length=n:=⟨_,rfl⟩;rw[bj]at C|-;refine cc48.go ac48 rfl ?_;simp only[vq,seval,ac48];refine aW (qG p) (C) ?_;simp only[vq,seval];simp only[vq,seval,cz,an,hn];refine⟨om,om,om,om,sm,?_⟩;refine bb (fun t:Nat=>⟨cC 54 [(1,.aY 5 0 1 0 0),(3,.cl 1 1 n 0 n),(18,.d (.int .i64 n)),(19,.d (.int .i64 t))],[.live 5 [p.d.map .d],rI (List.replicate t (-1)++List.replicate (n-t) 0)]⟩) (fun t=>t<=n) (fun t=>n-t) 0 (bk (by simp[rI,bj,cz,iD]) vt) om ?_;rintro t h1;simp only[vq,seval];refine aZ (fun hc=>?_) (fun hc=>?_)
 ·simp only[aj]at hc;have hset:(List.replicate t (-1:Int)++List.replicate (n-t) 0).set t (-1)=List.replicate (t+1) (-1)++List.replicate (n-(t+1)) 0:=by rw[show n-t=(n-(t+1))+1 by omega,List.replicate_succ,dA _ _ _ _ sm,List.replicate_succ'];simp
  have hlen:(List.replicate t (-1:Int)++List.replicate (n-t) 0).length=n:=by simp;omega
  generalize List.replicate t (-1:Int)++List.replicate (n-t) 0=P at hset hlen|-;obtain⟨z,hz⟩:=bh (l:=P) (i:=t) om;simp only[vq,seval,rI,an,hlen];refine⟨om,om,?_⟩;refine b8 (zN hz) ?_;simp only[vq,seval];rw[vo,hset];refine bL (t+1) om (bk rfl ?_) om;simp only[vq,seval,bj];rw[a8 om om]
  try trivial
 ·simp only[ak]at hc;obtain rfl:t=n:=om;rw[Nat.sub_self,List.replicate_zero,List.append_nil];obtain⟨Q,hQ⟩:∃Q,p.br.flatten.foldl (Cd p.vars) (List.replicate p.vars.length (-1),0)=Q:=⟨_,rfl⟩;have hS:jc p=Q.1:=by rw[jc,hQ]
  rw[hS];have hR:∀v∈p.br.flatten,0<=v/\v<t:=fun v h=>by have h2:=JB hv;unfold ja at h2;simp only[av]at h2;have:=aG.1 h2.2.1 v h;simp[tO,hn]at this;exact this
  have hB:p.br.flatten.length<=4294967296:=by have h1:=xw ok.br;have h2:=Nat.mul_le_mul_left 65536 ok.lens.2.2.2;omega
  have hW:=pP hv;have hgl2:=ok.lens.2.2.2;rw[hn]at hQ;simp only[vq,seval,bj];refine bb (fun s:Nat×List Int×Int=>⟨cC 54 [(1,.aY 5 0 1 0 0),(3,.cl 1 1 t 0 t),(5,.d (.int .i64 s.2.2)),(27,.d (.sl 1 (p.br.map gD))),(28,.d (.int .i64 p.br.length)),(29,.d (.int .i64 s.1))],[.live 5 [p.d.map .d],rI s.2.1]⟩) (fun s=>s.1<=p.br.length/\s.2.1.length=t/\(p.br.drop s.1).flatten.foldl (Cd p.vars) (s.2.1,s.2.2)=Q/\0<=s.2.2/\s.2.2+8*((p.br.drop s.1).flatten.length:Nat)<=34359738368) (fun s=>p.br.length-s.1) (0,List.replicate t (-1),0) (bk rfl vt) ⟨om,sm,by simpa using hQ,sm,by simp only[List.drop_zero];omega⟩ ?_;rintro⟨j,o,nx⟩ ⟨g1,g2,g3,g4,g5⟩;dsimp only at g1 g2 g3 g4 g5;simp only[vq,seval,bj];refine aZ (fun hc=>?_) (fun hc=>?_)
  ·simp only[aj]at hc;obtain⟨g,hg⟩:=bh (l:=p.br) (i:=j) om;have hgl:=ok.br g (af hg);rw[bt hg,List.flatten_cons]at g3 g5;simp only[vq,seval,bj];refine⟨om,om,bg hg ?_⟩;simp only[vq,seval];simp only[vq,seval,gD];refine bb (fun s:Nat×List Int×Int=>⟨cC 54 [(1,.aY 5 0 1 0 0),(3,.cl 1 1 t 0 t),(5,.d (.int .i64 s.2.2)),(27,.d (.sl 1 (p.br.map gD))),(28,.d (.int .i64 p.br.length)),(29,.d (.int .i64 j)),(33,.d (.sl 1 (g.map iD))),(34,.d (.int .i64 g.length)),(35,.d (.int .i64 s.1))],[.live 5 [p.d.map .d],rI s.2.1]⟩) (fun s=>s.1<=g.length/\s.2.1.length=t/\(g.drop s.1++(p.br.drop (j+1)).flatten).foldl (Cd p.vars) (s.2.1,s.2.2)=Q/\0<=s.2.2/\s.2.2+8*((g.drop s.1++(p.br.drop (j+1)).flatten).length:Nat)<=34359738368) (fun s=>g.length-s.1) (0,o,nx) (bk rfl (by simp only[vq,seval,bj,gD];try trivial)) ⟨om,g2,g3,g4,g5⟩ ?_;rintro⟨k,o',nx'⟩ ⟨k1,k2,k3,k4,k5⟩;dsimp only at k1 k2 k3 k4 k5;simp only[vq,seval,bj];refine aZ (fun hd=>?_) (fun hd=>?_)
   ·simp only[aj]at hd;obtain⟨v,hvv⟩:=bh (l:=g) (i:=k) om;obtain⟨v0,v1⟩:=hR v (List.mem_flatten.2 ⟨g,af hg,af hvv⟩);obtain⟨i,rfl⟩:=Int.eq_ofNat_of_zero_le v0;obtain⟨x,hx⟩:=bh (l:=p.vars) (i:=i) om;obtain⟨z,hz⟩:=bh (l:=o') (i:=i) om;have hwx:=hW x (af hx);rw[bt hvv,List.cons_append,List.foldl_cons,Cd]at k3;rw[bt hvv,List.cons_append,List.length_cons]at k5;have hwa:n8 p.vars (i:Nat)=x.w:=by unfold n8;rw[Int.toNat_natCast,hx]
    rw[hwa,Int.toNat_natCast]at k3;simp only[vq,seval,bj];refine⟨om,om,bg hvv ?_⟩;simp only[vq,seval];have q0:((0:Int)<=(i:Nat))=True:=eq_true om;have q1:(((i:Nat):Int)<(t:Nat))=True:=eq_true om;have hzr:=zN hz;simp only[vq,seval,iD,q0,q1,rI,k2];refine b8 hzr ?_;simp only[vq,seval,bj,cz];refine⟨om,om,bg hx ?_⟩;simp only[vq,seval];simp only[vq,seval,Vr.d];have hnw:IntKind.i64.wrap (nx'+x.w)=nx'+x.w:=a8 om om;rw[hnw,vo];refine bL (k+1,o'.set i nx',nx'+x.w) (by simp only;omega) (bk rfl ?_) ⟨by simp only;omega,by simp[k2],k3,by simp only;omega,by simp only[az]at k5|-;omega⟩;simp only[vq,seval,bj,cz];rw[a8 om om]
    try trivial
   ·simp only[ak]at hd;obtain rfl:k=g.length:=om;rw[List.drop_length,List.nil_append]at k3 k5;simp only[vq,seval,bj];refine bL (j+1,o',nx') (by simp only;omega) (bk rfl ?_) ⟨by simp only;omega,k2,k3,k4,k5⟩;simp only[vq,seval,bj];rw[a8 om om]
    try trivial
  ·simp only[ak]at hc;obtain rfl:j=p.br.length:=om;rw[List.drop_length,List.flatten_nil,List.foldl_nil]at g3;rw[<-g3];simp only[vq,seval,bj];exact da (es:=o.map iD) rfl (by simp[g2]) om Ge (by rw[List.drop_zero,al (by simp[g2])])
theorem uG(l:List Vr):∀(k i:Nat),(fT l k).count ((k+i:Nat):Int)=fB l i:=by
 induction l with
 |nil=>intro k i;simp[fT,fB]
 |cons x l ih=>
  intro k i;have hne:∀j:Nat,((k:Int)==((k+(j+1):Nat):Int))=false:=fun j=>by simp;omega
  cases i with
  |zero=>
   have h0:(fT l (k+1)).count ((k+0:Nat):Int)=0:=List.count_eq_zero.2 fun h=>by have:=rj h;omega
   rw[fT];unfold fB;simp only[List.getElem?_cons_zero];split
   ·exact h0
   ·rw[List.count_cons,h0];simp
  |succ j=>
   have h1:=ih (k+1) j;rw[show k+1+j=k+(j+1) by omega]at h1;have hw:fB (x::l) (j+1)=fB l j:=by unfold fB;rw[List.getElem?_cons_succ]
   rw[hw,fT];split
   ·exact h1
   ·rw[List.count_cons,h1,hne];simp
theorem tY{p:Pr}(hv:cE p=0):p.br.flatten.Perm (fT p.vars 0):=by
 have h:=JB hv;unfold ja at h;simp only[av]at h;obtain⟨_,h2,h3⟩:=h;rw[List.perm_iff_count];intro v;by_cases hr:0<=v/\v<p.vars.length
 ·obtain⟨i,rfl⟩:=Int.eq_ofNat_of_zero_le hr.1;have:=aG.1 h3 i (List.mem_range.2 om);simp only[aj]at this;rw[this];have:=uG p.vars 0 i;rw[Nat.zero_add]at this;exact this.symm
 ·rw[List.count_eq_zero.2 fun h=>?_,List.count_eq_zero.2 fun h=>?_]
  ·have:=rj h;omega
  ·have:=aG.1 h2 v h;simp[tO]at this;omega
def AG(l:List Vr)(S:List Int):Int:=(S.map (n8 l)).sum
theorem EI{l:List Vr}{a b:List Int}(h:a.Perm b):AG l a=AG l b:=by
 unfold AG;induction h with
 |nil=>rfl
 |cons x _ ih=>simp[ih]
 |swap x y l=>simp;omega
 |trans _ _ h1 h2=>rw[h1,h2]
theorem vj{l:List Vr}:∀(S:List Int) (o:List Int) (nx:Int),S.Nodup->(∀v∈S,0<=v/\v<o.length/\0<=n8 l v)->(∀v,0<=v->v∉S->(S.foldl (Cd l) (o,nx)).1[v.toNat]? =o[v.toNat]?)/\0<=AG l S/\∀v∈S,∃x,(S.foldl (Cd l) (o,nx)).1[v.toNat]? =some x/\nx<=x/\x+n8 l v<=nx+AG l S
 |[],o,nx,_,_=>⟨fun _ _ _=>rfl,by simp[AG],fun v hv=>by cases hv⟩
 |u::S,o,nx,hn,hin=>by
  rw[List.nodup_cons]at hn;obtain⟨u0,u1,u2⟩:=hin u sm;obtain⟨h1,h2,h3⟩:=vj S (o.set u.toNat nx) (nx+n8 l u) hn.2 (fun v hv=>by simpa using hin v (by simp[hv]));have ht:AG l (u::S)=n8 l u+AG l S:=by simp[AG]
  rw[List.foldl_cons,Cd,ht];refine⟨fun v v0 hv=>?_,om,fun v hv=>?_⟩
  ·simp only[aP,not_or]at hv;rw[h1 v v0 hv.2,List.getElem?_set_ne om]
  ·by_cases he:v=u
   ·subst he;exact⟨nx,by rw[h1 v u0 hn.1,List.getElem?_set_self om],om,om⟩
   ·rcases aP.1 hv with rfl|hv
    ·exact absurd rfl he
    ·obtain⟨x,e1,e2,e3⟩:=h3 v hv;exact⟨x,e1,om,om⟩
def Bu(β:Nat->Bool)(lv w n:Nat):Nat->Bool:=fun i=>if lv<=i/\i<lv+w then decide (n/2^(w-1-(i-lv))%2=1)else β i
theorem zB{β γ:Nat->Bool}(lv:Nat):∀n,(∀i,lv<=i->i<lv+n->β i=γ i)->lA β lv n=lA γ lv n
 |0,_=>rfl
 |n+1,h=>by rw[lA,lA,h (lv+n) om om,zB lv n fun i h1 h2=>h i h1 om]
theorem AF(β:Nat->Bool)(lv w n:Nat):∀j,j<=w->lA (Bu β lv w n) lv j=n/2^(w-j)%2^j
 |0,_=>by simp[lA,Nat.mod_one]
 |j+1,hj=>by
  have hs:Bu β lv w n (lv+j)=decide (n/2^(w-1-j)%2=1):=by unfold Bu;rw[if_pos om,show lv+j-lv=j by omega]
  have hb:bN (decide (n/2^(w-1-j)%2=1))=n/2^(w-1-j)%2:=by have:n/2^(w-1-j)%2=0\/n/2^(w-1-j)%2=1:=om;rcases this with e|e<;>rw[e]<;>rfl
  rw[lA,AF β lv w n j om,hs,hb,show w-(j+1)=w-1-j by omega,show w-j=(w-1-j)+1 by omega,Nat.pow_succ 2 (w-1-j),<-Nat.div_div_eq_div_mul];generalize n/2^(w-1-j)=q;rw[Nat.pow_succ];have h1:=Nat.div_add_mod (q/2) (2^j);have h2:q%(2^j*2)=q%2+2*(q/2%2^j):=by rw[Nat.mul_comm (2^j) 2,Nat.mod_mul]
  omega
theorem z4{l:List Vr}(A:Int->Nat):∀(S:List Int) (o:List Int) (nx:Nat) (β0:Nat->Bool),S.Nodup->(∀v∈S,0<=v/\v<o.length/\0<=n8 l v/\A v<2^(n8 l v).toNat)->∃β:Nat->Bool,(∀i,i<nx->β i=β0 i)/\∀v∈S,∀x,(S.foldl (Cd l) (o,(nx:Int))).1[v.toNat]? =some x->lA β x.toNat (n8 l v).toNat=A v
 |[],o,nx,β0,_,_=>⟨β0,fun _ _=>rfl,fun v hv=>by cases hv⟩
 |u::S,o,nx,β0,hn,hin=>by
  rw[List.nodup_cons]at hn;obtain⟨u0,u1,u2,u3⟩:=hin u sm;obtain⟨β,b1,b2⟩:=z4 A S (o.set u.toNat (nx:Int)) (nx+(n8 l u).toNat) (Bu β0 nx (n8 l u).toNat (A u)) hn.2 (fun v hv=>by simpa using hin v (by simp[hv]));have hc:((nx+(n8 l u).toNat:Nat):Int)=(nx:Int)+n8 l u:=om;rw[hc]at b2;refine⟨β,fun i hi=>?_,fun v hv x hx=>?_⟩
  ·rw[b1 i om];unfold Bu;rw[if_neg om]
  ·rw[List.foldl_cons,Cd]at hx;by_cases he:v=u
   ·subst he;have h1:=(vj (l:=l) S (o.set v.toNat (nx:Int)) ((nx:Int)+n8 l v) hn.2 (fun y hy=>by have:=hin y (by simp[hy]);simpa using⟨this.1,this.2.1,this.2.2.1⟩)).1 v u0 hn.1;rw[h1,List.getElem?_set_self om]at hx;injection hx with hx
    subst hx;rw[Int.toNat_natCast,zB (γ:=Bu β0 nx (n8 l v).toNat (A v)) nx _ fun i _ h2=>b1 i h2,AF _ _ _ _ _ (aq _),Nat.sub_self,Nat.pow_zero,Nat.div_one,Nat.mod_eq_of_lt u3]
   ·rcases aP.1 hv with rfl|hv
    ·exact absurd rfl he
    ·exact b2 v hv x hx
theorem zm{l:List Vr}{i:Nat}{x:Vr}(h:l[i]? =some x)(hm:x.m≠0):(i:Int)∈fT l 0:=by
 have h1:=uG l 0 i;rw[Nat.zero_add]at h1;have h2:fB l i=1:=by unfold fB;rw[h];simp[hm]
 exact List.count_pos_iff.1 om
theorem Kg(l:List Vr):(fT l 0).Nodup:=by
 rw[List.nodup_iff_count];intro v;by_cases hr:0<=v
 ·obtain⟨i,rfl⟩:=Int.eq_ofNat_of_zero_le hr;have h1:=uG l 0 i;rw[Nat.zero_add]at h1;rw[h1];unfold fB;split
  ·split<;>omega
  ·omega
 ·rw[List.count_eq_zero.2 fun h=>by have:=rj h;omega];omega
theorem IQ{p:Pr}(hv:cE p=0):p.br.flatten.Nodup/\∀v∈p.br.flatten,0<=v/\v<p.vars.length/\0<=n8 p.vars v:=by have hp:=tY hv;refine⟨hp.nodup_iff.2 (Kg _),fun v h=>?_⟩;have h1:=rj (hp.mem_iff.1 h);have h2:=KF (pP hv) v;omega
theorem AD(p:Pr):(jc p).length=p.vars.length:=by rw[jc,FF];simp
theorem ze{l:List Vr}{i:Nat}{x:Vr}(h:l[i]? =some x):n8 l i=x.w:=by unfold n8;rw[Int.toNat_natCast,h]
theorem K7[NB]{p:Pr}(hv:cE p=0)(hb:(NB.nb:Int)=dE p):Hq p.vars (jc p):=by
 refine⟨AD p,fun i x v hx hlv hm=>?_⟩;obtain⟨h1,h2⟩:=IQ hv;have hp:=tY hv;obtain⟨_,_,h3⟩:=vj (l:=p.vars) p.br.flatten (List.replicate p.vars.length (-1)) 0 h1 (by simpa using h2);obtain⟨y,e1,e2,e3⟩:=h3 i (hp.mem_iff.2 (zm hx hm));have ht:AG p.vars p.br.flatten=dE p:=by rw[EI hp,AG,xg,(mJ hv).1]
 rw[Int.toNat_natCast]at e1;rw[jc,e1]at hlv;injection hlv with hlv
 subst hlv;rw[ze hx]at e3;omega
theorem Ao{β:Nat->Bool}:∀{l:List Vr} {lv a:List Int},lv.length=l.length->dq l a=true->(∀(i:Nat) x v y,l[i]? =some x->lv[i]? =some v->a[i]? =some y->x.m≠0->lA β v.toNat x.w.toNat=y.toNat)->kC β l lv=a
 |[],[],[],_,_,_=>rfl
 |[],[],_::_,_,h,_=>by cases h
 |[],_::_,_,h,_,_=>by simp at h
 |_::_,[],_,h,_,_=>by simp at h
 |_::_,_::_,[],_,h,_=>by cases h
 |x::l,v::lv,y::a,hl,h,hb=>by
  rw[dq,av]at h;obtain⟨h1,h2⟩:=h;rw[kC,Ao (by simpa using hl) h2 fun i x' v' y' e1 e2 e3=>hb (i+1) x' v' y' (by simpa using e1) (by simpa using e2) (by simpa using e3)];unfold jQ at h1;simp only[av,aj,Bool.not_eq_true',Bool.and_eq_false_iff,ak,Bool.not_eq_false']at h1;obtain⟨y0,_,y2⟩:=h1;congr 1;by_cases hm:x.m=0
  ·rw[if_pos hm];rcases y2 with h|h
   ·exact absurd hm h
   ·exact h.symm
  ·rw[if_neg hm,hb 0 x v y rfl rfl rfl hm];omega
theorem P7{l:List Vr}{a:List Int}{i:Nat}{x:Vr}{y:Int}(h:dq l a=true)(h1:l[i]? =some x)(h2:a[i]? =some y):0<=y/\y<2^x.w.toNat:=by have:=yY h h1 h2;unfold jQ at this;simp only[av,aj]at this;exact⟨this.1,this.2.1⟩
theorem Kj{p:Pr}(hv:cE p=0){a:List Int}(ha:dq p.vars a=true):∃β,kC β p.vars (jc p)=a:=by
 obtain⟨h1,h2⟩:=IQ hv;have hl:=gG ha;have hp:=tY hv;obtain⟨β,_,hβ⟩:=z4 (l:=p.vars) (fun v=>((a[v.toNat]?).getD 0).toNat) p.br.flatten (List.replicate p.vars.length (-1)) 0 (fun _=>false) h1 (fun v hv=>by
  obtain⟨a0,a1,a2⟩:=h2 v hv;obtain⟨i,rfl⟩:=Int.eq_ofNat_of_zero_le a0;obtain⟨x,hx⟩:=bh (l:=p.vars) (i:=i) om;obtain⟨y,hy⟩:=bh (l:=a) (i:=i) om;have:=P7 ha hx hy;refine⟨a0,by simpa using a1,a2,?_⟩;simp only[Int.toNat_natCast,hy,Option.getD_some];rw[ze hx];have e:((2^x.w.toNat:Nat):Int)=2^x.w.toNat:=by rw[Int.natCast_pow];rfl
  have e2:(0:Int)<2^x.w.toNat:=Int.pow_pos dc;omega)
 refine⟨β,Ao (AD p) ha fun i x v y hx hlv hy hm=>?_⟩;have:=hβ i (hp.mem_iff.2 (zm hx hm)) v (by rw[Int.toNat_natCast];exact hlv);rw[ze hx]at this;rw[this,Int.toNat_natCast,hy];rfl
def Bl(l:List (Vr×Nat)):List (B×D):=l.foldl (fun m x=>dU m x.1.nm (.int .i64 x.2)) []
theorem rV(l:List (Vr×Nat))(x:Vr×Nat):Bl (l++[x])=dU (Bl l) x.1.nm (.int .i64 x.2):=by rw[Bl,List.foldl_append];rfl
theorem KB{es:List (B×D)}(h:∀q∈es,∃n,q.2=.int .i64 n)(s:B)(n:Int):∀q∈dU es s (.int .i64 n),∃n,q.2=.int .i64 n:=by
 induction es with
 |nil=>intro q hq;simp[dU]at hq;subst hq;exact⟨n,rfl⟩
 |cons p es ih=>
  intro q hq;rw[dU]at hq;split at hq
  ·rcases aP.1 hq with rfl|hq
   ·exact⟨n,rfl⟩
   ·exact h q (by simp[hq])
  ·rcases aP.1 hq with rfl|hq
   ·exact h _ sm
   ·exact ih (fun q hq=>h q (by simp[hq])) q hq
theorem GA(l:List (Vr×Nat)):∀q∈Bl l,∃n,q.2=.int .i64 n:=by
 have:∀(l:List (Vr×Nat)) (es:List (B×D)),(∀q∈es,∃n,q.2=.int .i64 n)->∀q∈l.foldl (fun m x=>dU m x.1.nm (.int .i64 x.2)) es,∃n,q.2=.int .i64 n:=fun l=>by
  induction l with
  |nil=>intro es h;exact h
  |cons x l ih=>intro es h;exact ih _ (KB h _ _)
 exact this l [] (fun q hq=>by cases hq)
theorem Fz(l:List Vr):BT (Dg l)=Bl l.zipIdx:=by unfold BT Dg;rw[List.map_map];show(Bl l.zipIdx).map _=_;refine(List.map_congr_left fun q hq=>?_).trans (List.map_id _);obtain⟨n,hn⟩:=GA _ q hq;obtain⟨a,b⟩:=q;simp only at hn;subst hn;rfl
theorem Lj{l:List Vr}(h:qk l=false){i:Nat}{x:Vr}(hx:l[i]? =some x):kr l x.nm=i:=by unfold qk at h;have:=List.any_eq_false.1 h i (List.mem_range.2 (ad.1 hx).1);rw[hx]at this;simpa using this
theorem z3{l:List Vr}(h:qk l=false)(nm:B):∀j,j<=l.length->dL (.int .i64 0) (Bl (l.take j).zipIdx) nm=if((l.take j).any fun x=>decide (x.nm=nm))=true then .int .i64 (kr l nm)else .int .i64 0
 |0,_=>by simp[Bl,dL]
 |j+1,hj=>by
  obtain⟨x,hx⟩:=bh (l:=l) (i:=j) om;rw[bQ hx,List.zipIdx_append,List.any_append];have:(l.take j).length=j:=by simp;omega
  simp only[this,Nat.zero_add,List.zipIdx_cons,List.zipIdx_nil];rw[rV,tH,z3 h nm j om];simp only[List.any_cons,List.any_nil,Bool.or_false,Bool.or_eq_true,aj];by_cases hn:x.nm=nm
  ·subst hn;rw[if_pos rfl,if_pos (.inr rfl),Lj h hx]
  ·rw[if_neg hn];simp only[hn,or_false]
theorem Li{l:List Vr}(h:qk l=false){nm:B}(hk:(l.any fun x=>decide (x.nm=nm))=true):dL (.int .i64 0) (BT (Dg l)) nm=.int .i64 (kr l nm):=by have:=z3 h nm l.length (aq _);rw[List.take_length,if_pos hk]at this;rw[Fz,this]
theorem mW[BE][NB](hv:cE BE.p=0)(hl:BE.lv=jc BE.p)(hb:(NB.nb:Int)=dE BE.p):sI:=⟨by rw[hl];exact K7 hv hb,rp hv,fun nm h=>Li (tA (ec hv)).2.1 h⟩
end Go.Proofs.Tp
namespace Go.Proofs.Tp
section
variable[NB]
structure Fd where
 N:Gr
 op:Nd->Int->Int->Int
 e0:Int
 e1:Int
def fF(d:Fd):Nat->Nat->Int
 |0,_=>0
 |m+1,k=>if k=0 then d.e0 else if k=1 then d.e1 else d.op (cA d.N k) (fF d m (cA d.N k).lo) (fF d m (cA d.N k).hi)
def fv(d:Fd)(k:Nat):Int:=fF d (k+1) k
theorem Jp{d:Fd}(G:ct d.N):∀(k m:Nat),k<d.N.length->k<m->fF d m k=fv d k:=by
 intro k;induction k using Nat.strongRecOn with
 |_ k ih=>
  intro m hk hm;obtain⟨m,rfl⟩:∃m',m=m'+1:=⟨m-1,om⟩;rw[fv,fF,fF];by_cases h0:k=0
  ·rw[if_pos h0,if_pos h0]
  by_cases h1:k=1
  ·rw[if_neg h0,if_pos h1,if_neg h0,if_pos h1]
  obtain⟨_,p1,p2,_⟩:=G.zA (f:=k) om hk;rw[if_neg h0,if_neg h1,if_neg h0,if_neg h1,ih _ p1 m om om,ih _ p2 m om om,ih _ p1 k om om,ih _ p2 k om om]
theorem tJ{d:Fd}(G:ct d.N){k:Nat}(h2:2<=k)(hk:k<d.N.length):fv d k=d.op (cA d.N k) (fv d (cA d.N k).lo) (fv d (cA d.N k).hi):=by obtain⟨_,p1,p2,_⟩:=G.zA h2 hk;rw[fv,fF,if_neg om,if_neg om,Jp G _ _ om p1,Jp G _ _ om p2]
theorem Oy(d:Fd):fv d 0=d.e0:=rfl
theorem NX(d:Fd):fv d 1=d.e1:=rfl
abbrev Fs:=List Int×List Bool
def CO(d:Fd):Nat->Nat->Fs->Int×Fs
 |0,_,s=>(0,s)
 |m+1,k,s=>if k<2 then(if k=0 then d.e0 else d.e1,s)else if s.2[k]?.getD false=true then(s.1[k]?.getD 0,s)else
  let a:=CO d m (cA d.N k).lo s
  let b:=CO d m (cA d.N k).hi a.2
  let v:=d.op (cA d.N k) a.1 b.1
  (v,(b.2.1.set k v,b.2.2.set k true))
structure LZ(d:Fd)(n:Nat)(s:Fs):Prop where
 l1:s.1.length=n
 l2:s.2.length=n
 v:∀i,s.2[i]? =some true->s.1[i]? =some (fv d i)
theorem sf{d:Fd}(G:ct d.N){n:Nat}(hn:n<=d.N.length):∀(m k:Nat) (s:Fs),LZ d n s->k<n->20<(cA d.N k).lv+m->(CO d m k s).1=fv d k/\LZ d n (CO d m k s).2
 |0,k,s,h,hk,hl=>by have:=(G.qn (f:=k) om).1;omega
 |m+1,k,s,h,hk,hl=>by
  rw[CO];by_cases h2:k<2
  ·rw[if_pos h2];refine⟨?_,h⟩;by_cases h0:k=0
   ·subst h0;rfl
   ·obtain rfl:k=1:=om;rfl
  rw[if_neg h2];by_cases hd:s.2[k]?.getD false=true
  ·rw[if_pos hd];have e:s.2[k]? =some true:=by
    cases hh:s.2[k]? with
    |none=>rw[hh]at hd;cases hd
    |some b=>rw[hh]at hd;simp at hd;rw[hd]
   exact⟨by simp only[h.v k e,Option.getD_some],h⟩
  rw[if_neg hd];obtain⟨_,p1,p2,_,p4,p5⟩:=G.zA (f:=k) om om;obtain⟨a1,a2⟩:=sf G hn m (cA d.N k).lo s h om om;obtain⟨b1,b2⟩:=sf G hn m (cA d.N k).hi (CO d m (cA d.N k).lo s).2 a2 om om;dsimp only;rw[a1,b1,<-tJ G om om];refine⟨rfl,by simp[b2.l1],by simp[b2.l2],fun i hi=>?_⟩;by_cases hik:k=i
  ·subst hik;rw[List.getElem?_set_self (by rw[b2.l1];exact hk)]
  ·rw[List.getElem?_set_ne hik]at hi|-;exact b2.v i hi
end
end Go.Proofs.Tp
namespace Go.Proofs.Tp
open Go.Vx
section
variable[bf][NB]
abbrev Nb(l:List Int):bd:=.live 1 ((l.map fun x=>[D.int .i64 x]).map fun x=>x.map V.d)
abbrev OI(l:List Bool):bd:=.live 1 ((l.map fun x=>[D.bool x]).map fun x=>x.map V.d)
abbrev J9:V:=.fn (.func 117) [] [.aY 2 1 1 0 0,.aY 1 6 1 0 0,.aY 1 0 1 0 0,.aY 1 7 1 0 0,.aY 1 2 1 0 0,.aY 1 4 1 0 0]
def fR(d:Fd)(g:FuncId)(cs:List D)(n:Nat)(s:Fs)(F:Go.Vx.Rows):Go.Vx.Rows:=.live 1 [[.d (dg d.N)]]:: .live 2 [[.d (.int .i64 d.e0),.d (.int .i64 d.e1)]]:: .live 1 [[.fn (.func g) [] (cs.map .d)]]::Nb s.1:: .live 1 [[.cl 1 3 n 0 n]]::OI s.2:: .live 1 [[.cl 1 5 n 0 n]]:: .live 1 [[J9]]::F
theorem gP{α:Type}{l:List α}{i:Nat}{x:α}(h:l[i]? =some x)(f:α->Prop):gX l i f=f x:=propext ⟨fun hk=>by obtain⟨y,h1,h2⟩:=fg.1 hk;rw[h]at h1;injection h1 with h1;subst h1;exact h2,fun hk=>b8 h hk⟩
theorem M9{m:Nat}(l:List D):(Ce m []&&Ce m (l.map .d))=true:=by
 induction l with
 |nil=>rfl
 |cons x l ih=>exact ih
theorem Qm(d:Fd)(g:FuncId)(cs:List D)(n:Nat)(s:Fs){F:Go.Vx.Rows}(hF:okF F){m:Nat}(hm:8<=m):kg m (fR d g cs n s F):=by
 have e:∀(v:V),hB m v=true->∀x∈[[v]],∀y∈x,hB m y=true:=fun v hv x hx y hy=>by simp only[List.mem_singleton]at hx;subst hx;simp only[List.mem_singleton]at hy;subst hy;exact hv
 refine⟨e _ rfl,eE (e:=[.int .i64 d.e0,.int .i64 d.e1]),e _ ?_,kM,e _ ?_,kM,e _ ?_,e _ ?_,hF m⟩
 ·exact M9 cs
 ·simp[hB];omega
 ·simp[hB];omega
 ·simp[hB,Ce];omega
theorem Kx{d:Fd}{g:FuncId}{cs:List D}{n:Nat}{s r:Fs}{f:FuncId}{vals:List V}{i:Int}{F:Go.Vx.Rows}(hF:okF F)(h:dn Tryz.prog f vals (fR d g cs n s F) (fun v R=>v=.d (.int .i64 i)/\∃T,R=fR d g cs n r F++T)):dn Tryz.prog f vals (fR d g cs n s F) (fun v R=>v=.d (.int .i64 i)/\R=fR d g cs n r F):=oY h fun v R ⟨e1,T,e2⟩=>by subst e1 e2;exact⟨_,_,bz (F.length+8) (by simp[fR]) (List.take_left' rfl) rfl (Qm d g cs n r hF om) (mQ trivial),rfl,rfl⟩
theorem t117{d:Fd}(G:ct d.N){g:FuncId}{cs:List D}(hC:∀k,2<=k->k<d.N.length->CallP Tryz.prog g ([.agg ((cA d.N k).d.map .d),.d (.int .i64 (fv d (cA d.N k).lo)),.d (.int .i64 (fv d (cA d.N k).hi))]++cs.map .d) (.d (.int .i64 (fv d k)))) {n:Nat} (hn:n<=d.N.length):∀(m k:Nat) (s:Fs) (F:Go.Vx.Rows),LZ d n s->k<n->20<(cA d.N k).lv+m->okF F->F.length+m<=30->dn Tryz.prog 117 [.d (.int .i64 k),.aY 2 1 1 0 0,.aY 1 6 1 0 0,.aY 1 0 1 0 0,.aY 1 7 1 0 0,.aY 1 2 1 0 0,.aY 1 4 1 0 0] (fR d g cs n s F) (fun v R=>v=.d (.int .i64 (CO d m k s).1)/\R=fR d g cs n (CO d m k s).2 F)
 |0,k,s,F,h,hk,hl,_,_=>by have:=(G.qn (f:=k) om).1;omega
 |m+1,k,s,F,h,hk,hl,hF,hFl=>by
  have hmL:=dx;have hlen:=G.len;have r0:∀B:Go.Vx.Rows,Go.Vx.rowAt (F++B) F.length=Go.Vx.rowAt B 0:=fun B=>cd om;have s0:∀(B:Go.Vx.Rows) (r:bd),setAt (F++B) F.length r=F++setAt B 0 r:=fun B r=>cf om;refine Kx hF ?_;unfold fR J9;refine cc117.gi ac117 rfl ?_;rw[CO];simp only[vq,seval,ac117,r0,s0];by_cases h2:k<2
  ·rw[if_pos h2];rcases(show k=0\/k=1 by omega)with rfl|rfl
   ·simp only[vq,seval,r0,s0];exact⟨[],sm⟩
   ·simp only[vq,seval,r0,s0];exact⟨[],sm⟩
  rw[if_neg h2];simp only[vq,seval,r0,s0,df (show¬((k:Nat):Int)<2 by omega)];obtain⟨b,hb⟩:=bh (l:=s.2) (i:=k) (by rw[h.l2];exact hk);have gb:((s.2.map fun x=>[D.bool x]).map (·.map V.d))[k]? =some [.d (.bool b)]:=by rw[ar,ar,hb];rfl
  refine⟨om,om,h.l2,h.l2,?_⟩;simp only[vq,seval,r0,s0,gP gb];cases b with
  |true=>
   rw[if_pos (by rw[hb];rfl)];have hv:=h.v k hb;have gv:((s.1.map fun x=>[D.int .i64 x]).map (·.map V.d))[k]? =some [.d (.int .i64 (fv d k))]:=by rw[ar,ar,hv];rfl
   simp only[vq,seval,r0,s0];refine⟨om,om,h.l1,h.l1,?_⟩;simp only[vq,seval,r0,s0,gP gv];exact⟨by rw[hv];rfl,[],sm⟩
  |false=>
   rw[if_neg (by rw[hb];simp)];have hnd:(d.N.map Nd.d)[k]? =some (cA d.N k).d:=by rw[ar,eD om];rfl
   simp only[vq,seval,r0,s0,dg];obtain⟨_,p1,p2,_,p4,p5⟩:=G.zA (f:=k) om om;have hF1:okF (F++[.live 3 [(cA d.N k).d.map .d]]):=qS hF;have W1:=t117 G hC hn m (cA d.N k).lo s (F++[.live 3 [(cA d.N k).d.map .d]]) h om om hF1 so;obtain⟨a1,a2⟩:=sf G hn m (cA d.N k).lo s h om om;generalize CO d m (cA d.N k).lo s=ra at*;have W2:=t117 G hC hn m (cA d.N k).hi ra.2 (F++[.live 3 [(cA d.N k).d.map .d]]) a2 om om hF1 so;obtain⟨b1,b2⟩:=sf G hn m (cA d.N k).hi ra.2 a2 om om;generalize CO d m (cA d.N k).hi ra.2=rb at*;have hc:=hC k om om;rw[<-a1,<-b1]at hc;have hfv:fv d k=d.op (cA d.N k) ra.1 rb.1:=by rw[tJ G om om,a1,b1]
   rw[hfv]at hc;clear hC;generalize d.op (cA d.N k) ra.1 rb.1=vv at*;refine⟨om,om,?_⟩;simp only[vq,seval,r0,s0,gP hnd,Nd.d];simp only[fR,dg,J9,Nd.d,List.map_cons,List.map_nil,List.cons_append,List.nil_append]at W1 W2 hc;refine bW ?_;simp only[vq,seval,r0,s0]
   repeat((first|refine cc rfl rfl ?_|refine cc ck ck ?_);simp only[vq,seval,r0,s0])
   refine fO (v:=.d (.int .i64 ra.1)) (ups:=[(3,Nb ra.2.1),(5,OI ra.2.2)]) so rfl rfl W1 ?_
   repeat((first|refine cc rfl rfl ?_|refine cc ck ck ?_);simp only[vq,seval,r0,s0])
   refine fO (v:=.d (.int .i64 rb.1)) (ups:=[(3,Nb rb.2.1),(5,OI rb.2.2)]) so rfl rfl W2 ?_
   repeat((first|refine cc rfl rfl ?_|refine cc ck ck ?_);simp only[vq,seval,r0,s0])
   refine bW ?_;simp only[vq,seval,r0,s0]
   repeat((first|refine cc rfl rfl ?_|refine cc ck ck ?_);simp only[vq,seval,r0,s0])
   obtain⟨z,hz⟩:=bh (l:=rb.2.1) (i:=k) (by rw[b2.l1];exact hk);obtain⟨y,hy⟩:=bh (l:=rb.2.2) (i:=k) (by rw[b2.l2];exact hk);have gz:((rb.2.1.map fun x=>[D.int .i64 x]).map (·.map V.d))[k]? =some [.d (.int .i64 z)]:=by rw[ar,ar,hz];rfl
   have gy:((rb.2.2.map fun x=>[D.bool x]).map (·.map V.d))[k]? =some [.d (.bool y)]:=by rw[ar,ar,hy];rfl
   have q0:((0:Int)<=(k:Nat))=True:=eq_true om;have q1:(((k:Nat):Int)<(n:Nat))=True:=eq_true om;refine aW nh hc ?_
   repeat((first|refine cc rfl rfl ?_|refine cc ck ck ?_);simp only[vq,seval,r0,s0,q0,q1,b2.l1,b2.l2,an,gP gz,gP gy])
   have gv:(((rb.2.1.map fun x=>[D.int .i64 x]).map (·.map V.d)).set k [.d (.int .i64 vv)])[k]? =some [.d (.int .i64 vv)]:=by rw[List.getElem?_set_self (by simp[b2.l1];exact hk)]
   refine⟨by simp[b2.l1],by simp[b2.l1],?_⟩;simp only[vq,seval,r0,s0,gP gv];exact⟨_,by rw[Nb,OI,List.map_set,List.map_set,List.map_set,List.map_set];rfl⟩
end
section
variable[NB]
theorem t59{d:Fd}(G:ct d.N){g:FuncId}{cs:List D}(hC:∀k,2<=k->k<d.N.length->CallP Tryz.prog g ([.agg ((cA d.N k).d.map .d),.d (.int .i64 (fv d (cA d.N k).lo)),.d (.int .i64 (fv d (cA d.N k).hi))]++cs.map .d) (.d (.int .i64 (fv d k)))){f:Nat}(hf:f<d.N.length):CallP Tryz.prog 59 [.agg [.d (dg d.N)],.d (.int .i64 f),.agg [.d (.int .i64 d.e0),.d (.int .i64 d.e1)],.fn (.func g) [] (cs.map .d)] (.d (.int .i64 (fv d f))):=by
 have hmL:=dx;have hlen:=G.len;refine cc59.go (AC.at (AC.look [false,false,true]) [1,1,1,1,1,0] ac59) rfl ?_;simp only[vq,seval,ac59,AC.at,AC.look];have hw:IntKind.i64.wrap ((f:Int)+1)=((f+1:Nat):Int):=by rw[a8 om om];rfl
 rw[hw,Int.toNat_natCast];have W:=fun[bf]=>t117 G hC (n:=f+1) hf 21 f (List.replicate (f+1) 0,List.replicate (f+1) false) [] ⟨sm,sm,fun i hi=>by rw[List.getElem?_replicate]at hi;split at hi<;>simp at hi⟩ om om (fun m=>trivial) sm;obtain⟨e1,_⟩:=sf G (n:=f+1) hf 21 f (List.replicate (f+1) 0,List.replicate (f+1) false) ⟨sm,sm,fun i hi=>by rw[List.getElem?_replicate]at hi;split at hi<;>simp at hi⟩ om om;simp only[e1,fR,Nb,OI,List.map_replicate]at W;refine⟨om,om,om,om,om,om,om,om,?_⟩;refine dh (b6 W ?_);rintro v R ⟨rfl,rfl⟩;simp only[vq,seval]
end
section
variable[NB]
abbrev iZ(n:Int):V:=.d (.int .i64 n)
def jU(N:Gr)(k:Nat):Nat:=min (cA N k).lv NB.nb
def IW(N:Gr)(n:Nd)(a b:Int):Int:=a*2^(jU N n.lo-n.lv-1)+b*2^(jU N n.hi-n.lv-1)
def dB(N:Gr):Fd:=⟨N,IW N,0,1⟩
def dM(N:Gr):Fd:=⟨N,fun n a b=>max n.lv (max a b),-1,-1⟩
theorem DY{N:Gr}(G:ct N){k:Nat}(h2:2<=k)(hk:k<N.length):(cA N k).lv<NB.nb:=by have h:=G.lb _ (af (eD hk));have:=(G.zA h2 hk).1;omega
theorem OV{a b c:Nat}(h:a+b=c)(x:Int)(hx:x<=2^a)(h0:0<=x):x*2^b<=2^c:=by
 have:(2:Int)^c=2^a*2^b:=by rw[<-h,Int.pow_add]
 rw[this];exact Int.mul_le_mul_of_nonneg_right hx (Int.le_of_lt (Int.pow_pos dc))
theorem Ai{N:Gr}(G:ct N):∀k,k<N.length->0<=fv (dB N) k/\fv (dB N) k<=2^(NB.nb-jU N k)/\(k≠0->1<=fv (dB N) k):=by
 have hle:=NB.le;intro k;induction k using Nat.strongRecOn with
 |_ k ih=>
  intro hk;obtain⟨n0,n1⟩:=G.n0;by_cases h0:k=0
  ·subst h0;have:jU N 0=NB.nb:=by unfold jU;rw[n0];simp only;omega
   rw[this,Oy];simp[dB]
  by_cases h1:k=1
  ·subst h1;have:jU N 1=NB.nb:=by unfold jU;rw[n1];simp only;omega
   rw[this,NX];simp[dB]
  have hl:=DY G (k:=k) om hk;obtain⟨_,p1,p2,p3,p4,p5⟩:=G.zA (f:=k) om hk;have e:jU N k=(cA N k).lv:=by unfold jU;omega
  have l1:(cA N k).lv<jU N (cA N k).lo:=by unfold jU;omega
  have l2:(cA N k).lv<jU N (cA N k).hi:=by unfold jU;omega
  have m1:jU N (cA N k).lo<=NB.nb:=by unfold jU;omega
  have m2:jU N (cA N k).hi<=NB.nb:=by unfold jU;omega
  obtain⟨a0,a1,a2⟩:=ih _ p1 om;obtain⟨b0,b1,b2⟩:=ih _ p2 om;rw[tJ (d:=dB N) G om hk,e];show 0<=IW N (cA N k) (fv (dB N) (cA N k).lo) (fv (dB N) (cA N k).hi)/\_/\_;have c1:=OV (c:=NB.nb-(cA N k).lv-1) (b:=jU N (cA N k).lo-(cA N k).lv-1) om _ a1 a0;have c2:=OV (c:=NB.nb-(cA N k).lv-1) (b:=jU N (cA N k).hi-(cA N k).lv-1) om _ b1 b0;have q1:(0:Int)<2^(jU N (cA N k).lo-(cA N k).lv-1):=Int.pow_pos dc;have q2:(0:Int)<2^(jU N (cA N k).hi-(cA N k).lv-1):=Int.pow_pos dc;have q3:(2:Int)^(NB.nb-(cA N k).lv)=2*2^(NB.nb-(cA N k).lv-1):=by rw[show NB.nb-(cA N k).lv=(NB.nb-(cA N k).lv-1)+1 by omega,Int.pow_succ,Int.mul_comm];simp
  have d1:=Int.mul_nonneg a0 (Int.le_of_lt q1);have d2:=Int.mul_nonneg b0 (Int.le_of_lt q2);show 0<=IW N (cA N k) _ _/\IW N (cA N k) (fv (dB N) (cA N k).lo) (fv (dB N) (cA N k).hi)<=_/\(k≠0->1<=IW N (cA N k) (fv (dB N) (cA N k).lo) (fv (dB N) (cA N k).hi));unfold IW;refine⟨om,om,fun _=>?_⟩;by_cases hz:(cA N k).lo=0
  ·have:=Int.mul_pos (show 0<fv (dB N) (cA N k).hi by have:=b2 om;omega) q2;omega
  ·have:=Int.mul_pos (show 0<fv (dB N) (cA N k).lo by have:=a2 hz;omega) q1;omega
theorem Ns{N:Gr}(G:ct N):∀k,k<N.length-> -1<=fv (dM N) k/\fv (dM N) k<NB.nb:=by
 intro k;induction k using Nat.strongRecOn with
 |_ k ih=>
  intro hk;by_cases h2:k<2
  ·have:fv (dM N) k= -1:=by
    rcases(show k=0\/k=1 by omega)with rfl|rfl
    ·rw[Oy];rfl
    ·rw[NX];rfl
   omega
  have hl:=DY G (k:=k) om hk;obtain⟨_,p1,p2,_⟩:=G.zA (f:=k) om hk;have a:=ih _ p1 om;have b:=ih _ p2 om;rw[tJ (d:=dM N) G om hk];show-1<=max ((cA N k).lv:Int) (max (fv (dM N) (cA N k).lo) (fv (dM N) (cA N k).hi))/\max ((cA N k).lv:Int) (max (fv (dM N) (cA N k).lo) (fv (dM N) (cA N k).hi))<_;omega
theorem t60(n:Nd)(a b:Int):CallP Tryz.prog 60 [.agg (n.d.map .d),iZ a,iZ b] (iZ (max n.lv (max a b))):=by refine cc60.go ac60 rfl ?_;simp only[vq,seval,ac60,Nd.d,List.map_cons,List.map_nil]
theorem t62{N:Gr}(G:ct N){k:Nat}(hk:k<N.length):CallP Tryz.prog 62 [.agg [.d (dg N),iZ NB.nb],iZ k] (iZ (jU N k)):=by
 have hmL:=dx;have hlen:=G.len;have hnd:(N.map Nd.d)[k]? =some (cA N k).d:=by rw[ar,eD om];rfl
 refine cc62.go ac62 rfl ?_;simp only[vq,seval,ac62,dg];have q0:((0:Int)<=(k:Nat))=True:=eq_true om;have q1:(((k:Nat):Int)<(N.length:Nat))=True:=eq_true om;have hl:(if(NB.nb:Int)<((cA N k).lv:Int)then(NB.nb:Int)else((cA N k).lv:Int))=((jU N k:Nat):Int):=by unfold jU;split<;>omega
 refine bW ?_;simp only[vq,seval,q0,q1,gP hnd,Nd.d,hl]
 repeat(refine cc rfl rfl ?_;simp only[vq,seval,q0,q1,gP hnd,Nd.d,hl])
theorem PH(n:Nat):(0:Int)<2^n:=Int.pow_pos dc
theorem OC{n:Nat}(h:n<=20):(2:Int)^n<=1048576:=by
 have:=Nat.pow_le_pow_right (show 0<2 by decide) h;have e:((2^n:Nat):Int)=2^n:=by rw[Int.natCast_pow];rfl
 omega
theorem yJ{a:Int}{n:Nat}(h0:0<=a)(h:a*2^n<=1048576):IntKind.i64.wrap (a*2^n)=a*2^n:=by have h2:(0:Int)<2^n:=Int.pow_pos dc;have:=Int.mul_nonneg h0 (Int.le_of_lt h2);exact a8 om om
theorem t118{N:Gr}(G:ct N){k:Nat}(h2:2<=k)(hk:k<N.length):CallP Tryz.prog 118 ([.agg ((cA N k).d.map .d),iZ (fv (dB N) (cA N k).lo),iZ (fv (dB N) (cA N k).hi)]++[D.ptr [dg N,.int .i64 NB.nb]].map .d) (iZ (fv (dB N) k)):=by
 have hmL:=dx;have hlen:=G.len;have hl:=DY G h2 hk;have hle:=NB.le;obtain⟨_,p1,p2,p3,p4,p5⟩:=G.zA h2 hk;have l1:(cA N k).lv<jU N (cA N k).lo:=by unfold jU;omega
 have l2:(cA N k).lv<jU N (cA N k).hi:=by unfold jU;omega
 have m1:jU N (cA N k).lo<=NB.nb:=by unfold jU;omega
 have m2:jU N (cA N k).hi<=NB.nb:=by unfold jU;omega
 obtain⟨a0,a1,_⟩:=Ai G (cA N k).lo om;obtain⟨b0,b1,_⟩:=Ai G (cA N k).hi om;have C1:=t62 G (k:=(cA N k).lo) om;have C2:=t62 G (k:=(cA N k).hi) om;rw[tJ (d:=dB N) G h2 hk];show CallP _ _ _ (iZ (IW N (cA N k) (fv (dB N) (cA N k).lo) (fv (dB N) (cA N k).hi)));unfold IW;generalize fv (dB N) (cA N k).lo=a at*;generalize fv (dB N) (cA N k).hi=b at*;generalize jU N (cA N k).lo=u at*;generalize jU N (cA N k).hi=v at*;generalize cA N k=n at*;refine cc118.go ac118 rfl ?_;simp only[vq,seval,ac118,Nd.d,List.map_cons,List.map_nil];refine bW ?_;simp only[vq,seval]
 repeat(refine cc rfl rfl ?_;simp only[vq,seval])
 refine aW nh C1 ?_;have e1:IntKind.i64.wrap (IntKind.i64.wrap ((u:Int)-(n.lv:Int))-1)=((u-n.lv-1:Nat):Int):=by rw[a8 (n:=(u:Int)-n.lv) om om,a8 om om];omega
 have e2:IntKind.i64.wrap (IntKind.i64.wrap ((v:Int)-(n.lv:Int))-1)=((v-n.lv-1:Nat):Int):=by rw[a8 (n:=(v:Int)-n.lv) om om,a8 om om];omega
 repeat(refine cc rfl rfl ?_;simp only[vq,seval,e1])
 refine⟨om,?_⟩
 repeat(refine cc rfl rfl ?_;simp only[vq,seval,e1])
 refine aW nh C2 ?_
 repeat(refine cc rfl rfl ?_;simp only[vq,seval,e2])
 refine⟨om,?_⟩
 repeat(refine cc rfl rfl ?_;simp only[vq,seval,e2])
 have c1:=OV (c:=NB.nb-n.lv-1) (b:=u-n.lv-1) om _ a1 a0;have c2:=OV (c:=NB.nb-n.lv-1) (b:=v-n.lv-1) om _ b1 b0;have c3:=OC (show NB.nb-n.lv-1<=20 by omega);have f1:min (u-n.lv-1) IntKind.i64.bits=u-n.lv-1:=Nat.min_eq_left (by show _<=64;omega);have f2:min (v-n.lv-1) IntKind.i64.bits=v-n.lv-1:=Nat.min_eq_left (by show _<=64;omega);rw[f1,f2,yJ a0 om,yJ b0 om];have d1:=Int.mul_nonneg a0 (Int.le_of_lt (PH (u-n.lv-1)));have d2:=Int.mul_nonneg b0 (Int.le_of_lt (PH (v-n.lv-1)));exact a8 om om
theorem t61{N:Gr}(G:ct N){f:Nat}(hf:f<N.length):CallP Tryz.prog 61 [.agg [.d (dg N),iZ NB.nb],iZ f] (iZ (fv (dB N) f)):=by have hmL:=dx;have C:=t59 (d:=dB N) G (g:=118) (cs:=[.ptr [dg N,.int .i64 NB.nb]]) (fun k h2 hk=>t118 G h2 hk) hf;refine cc61.go ac61 rfl ?_;simp only[vq,seval,ac61];refine fw (v:=iZ (fv (dB N) f)) (by simp[dN,eu,Go.Vx.rowAt,wD,kv,gn]) rfl (by simpa[dJ,eR,sP,dB,Go.Vx.rowAt]using C) ?_;simp only[vq,seval]
theorem t28{N:Gr}(G:ct N){f:Nat}(hf:f<N.length):CallP Tryz.prog 28 [.agg [.d (dg N),iZ NB.nb],iZ f,iZ 0] (iZ (fv (dB N) f*2^jU N f)):=by
 have hmL:=dx;have hle:=NB.le;have C1:=t61 G hf;have C2:=t62 G hf;obtain⟨a0,a1,_⟩:=Ai G f hf;have hu:jU N f<=NB.nb:=by unfold jU;omega
 generalize fv (dB N) f=a at*;generalize jU N f=u at*;refine cc28.go ac28 rfl ?_;simp only[vq,seval,ac28];refine bW ?_;simp only[vq,seval]
 repeat(refine cc rfl rfl ?_;simp only[vq,seval])
 refine aW nh C1 ?_
 repeat(refine cc rfl rfl ?_;simp only[vq,seval])
 refine aW nh C2 ?_;have e1:IntKind.i64.wrap ((u:Int)-0)=(u:Int):=by rw[Int.sub_zero];exact a8 om om
 repeat(refine cc rfl rfl ?_;simp only[vq,seval,e1])
 refine⟨om,?_⟩
 repeat(refine cc rfl rfl ?_;simp only[vq,seval,e1])
 have f1:min u IntKind.i64.bits=u:=Nat.min_eq_left (by show _<=64;omega);have c1:=OV (c:=NB.nb) (b:=u) om _ a1 a0;have c3:=OC hle;rw[f1,yJ a0 om]
theorem t27{N:Gr}(G:ct N){f:Nat}(hf:f<N.length):CallP Tryz.prog 27 [.agg [.d (dg N)],iZ f,iZ NB.nb] (.d (.bool true)):=by have hmL:=dx;have hle:=NB.le;have hlen:=G.len;have C1:=t18 G;have C2:=t59 (d:=dM N) G (g:=60) (cs:=[]) (fun k h2 hk=>by rw[tJ (d:=dM N) G h2 hk];exact t60 (cA N k) _ _) hf;obtain⟨_,m1⟩:=Ns G f hf;have q1:decide ((NB.nb:Int)<0)=false:=decide_eq_false om;have q2:decide ((20:Int)<NB.nb)=false:=decide_eq_false om;have q3:decide ((f:Int)<0)=false:=decide_eq_false om;have q4:decide ((N.length:Int)<=f)=false:=decide_eq_false om;refine cc27.go ac27 rfl ?_;simp only[dg]at C1 C2|-;simp only[vq,seval,ac27,q1,q2];refine aW nh C1 ?_;simp only[vq,seval,q3,q4,an];refine aW nh C2 ?_;simp only[vq,seval,dt m1]
theorem t10{N:Gr}(G:ct N){f:Nat}(hf:f<N.length):CallP Tryz.prog 10 [.agg [.d (dg N)],iZ f,iZ NB.nb] (.cm [iZ (fv (dB N) f*2^jU N f),iZ 0]):=by have C1:=t27 G hf;have C2:=t28 G hf;refine cc10.go ac10 rfl ?_;simp only[vq,seval,ac10];refine aW nh C1 ?_;simp only[vq,seval];refine aW nh C2 ?_;simp only[vq,seval]
theorem FZ{N:Gr}(G:ct N){f:Nat}(hf:f<N.length)(h0:f≠0):1<=fv (dB N) f*2^jU N f:=by have:=Int.mul_pos (show 0<fv (dB N) f by have:=(Ai G f hf).2.2 h0;omega) (PH (jU N f));omega
end
end Go.Proofs.Tp
