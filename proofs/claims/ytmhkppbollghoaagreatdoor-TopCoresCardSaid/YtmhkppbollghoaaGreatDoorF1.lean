/- Proved: contracts of functions that the laws of Top reach, and plain facts for them. Conditions: those that each lemma states. -/
import Derived.Test.YtmhkppbollghoaaGreatDoorE9
set_option linter.unusedSectionVars false
set_option linter.unusedSimpArgs false
set_option linter.unusedVariables false
namespace Go.Proofs.Tp
open Go.Vx
theorem t135(x y:Ds):CallP Tryz.prog 135 [.agg (x.d.map .d),.d (.ptr y.d)] (.d (.bool (decide (x.v=y.v)))):=by refine cc135.go ac135 rfl ?_;simp only[vq,seval,ac135,Ds.d,List.map_cons,List.map_nil]
theorem t134(l:List Ds)(y:Ds)(hl:l.length<=maxLen):CallP Tryz.prog 134 [.d (.sl 2 (l.map Ds.d)),.fn (.func 135) [] [.d (.ptr y.d)]] (.d (.bool (l.any fun x=>decide (x.v=y.v)))):=xl cc134 cc183 Ds.d l (fun x=>decide (x.v=y.v)) [] [.d (.ptr y.d)] hl (fun _ _=>rfl) (fun _=>rfl) rfl (fun x _=>t135 x y)
theorem t185(w:Wt):CallP Tryz.prog 185 [.agg (w.d.map .d)] (.d (.bool (mE w))):=by
 refine cc185.go ac185 rfl ?_;simp only[vq,seval,ac185,Wt.d,List.map_cons,List.map_nil];unfold mE;by_cases d1:w.lo<0
 ·simp only[vq,seval,ah,bS,dt d1]
 by_cases d2:w.hi<w.lo
 ·simp only[vq,seval,ah,bS,df d1,dt d2]
 by_cases d3:65535<w.hi
 ·simp only[vq,seval,ah,bS,df d1,df d2,dt d3]
 by_cases d4:w.wt<0
 ·simp only[vq,seval,ah,bS,df d1,df d2,df d3,dt d4]
 simp only[vq,seval,ah,bS,df d1,df d2,df d3,df d4]
theorem t136(l:List Wt)(hl:l.length<=maxLen):CallP Tryz.prog 136 [.d (.sl 4 (l.map Wt.d))] (.d (.bool (!l.any mE))):=by have h:=xl cc184 cc143 Wt.d l mE [] [] hl (fun _ _=>rfl) (fun _=>rfl) rfl (fun x _=>t185 x);refine cc136.go ac136 rfl ?_;simp only[vq,seval,ac136];refine aW rfl (h) ?_;simp only[vq,seval]
theorem Cs(l:List D)(d:D):([V.agg (l.map .d),V.d d]:List V).all kv=true:=by simp[kv,lY,gn]
theorem t75(p:Pr)(ok:g8 p):CallP Tryz.prog 75 [.agg (p.d.map .d)] (.d (.int .i64 (gI p.vars [] p.bZ))):=by
 have hm:=hm;have hmL:=dx;obtain⟨k1,k2,k3,k4⟩:=ok.lens;have C:=t63 p ok;rw[bj]at C|-;refine cc75.go ac75 rfl ?_;simp only[vq,seval,ac75];refine bb (fun i:Nat=>⟨cC 37 [(1,.aY 5 0 1 0 0),(6,.d (.sl 2 (p.bZ.map Ds.d))),(7,.d (.int .i64 p.bZ.length)),(8,.d (.int .i64 i))],[.live 5 [p.d.map .d]]⟩) (fun i=>i<=p.bZ.length/\gI p.vars [] p.bZ=gI p.vars (p.bZ.take i) (p.bZ.drop i)) (fun i=>p.bZ.length-i) 0 (a9 (by simp only[vq,seval,bj];try trivial)) sm ?_;rintro i ⟨h1,h2⟩;simp only[vq,seval,bj];refine aZ (fun hc=>?_) (fun hc=>?_)
 ·simp only[aj]at hc;obtain⟨x,hx⟩:=bh (l:=p.bZ) (i:=i) om;have hwx:=ok.bZ x (af hx);rw[bt hx,gI,<-bQ hx]at h2;have fin:xp p.vars (p.bZ.take i) x≠0->gI p.vars [] p.bZ=xp p.vars (p.bZ.take i) x:=fun h=>by rw[h2,if_neg h]
  have go:xp p.vars (p.bZ.take i) x=0->gI p.vars [] p.bZ=gI p.vars (p.bZ.take (i+1)) (p.bZ.drop (i+1)):=fun h=>by rw[h2,if_pos h]
  clear h2;obtain⟨E,hE⟩:∃E,xp p.vars (p.bZ.take i) x=E:=⟨_,rfl⟩;rw[hE]at fin go;rw[xp]at hE;simp only[vq,seval];refine⟨om,om,bg hx ?_⟩;simp only[vq,seval];simp only[vq,seval,Ds.d,List.map_cons,List.map_nil];refine aW (Cs p.d _) (C x.v) ?_;simp only[vq,seval];cases hr:gj p.vars x.v with
  |false=>rw[hr,if_pos rfl]at hE;subst hE;rw[fin dc];simp only[vq,seval,ah,bS]
  |true=>
   rw[hr,if_neg sm]at hE;have h134:=t134 (p.bZ.take i) x (by rw[List.length_take];omega);rw[List.map_take]at h134;simp only[vq,seval,ah,bS];refine⟨om,om,?_⟩;refine fw (v:=.d (.bool ((p.bZ.take i).any fun y=>decide (y.v=x.v)))) (by simp[dN,eu,Go.Vx.rowAt,wD,kv,gn]) rfl (by simpa[dJ,eR,sP,Ds.d]using h134) ?_;cases ha:(p.bZ.take i).any fun y=>decide (y.v=x.v)with
   |true=>rw[ha,if_pos rfl]at hE;subst hE;rw[fin dc];simp only[vq,seval,ah,bS]
   |false=>
    rw[ha,if_neg sm]at hE;simp only[vq,seval,ah,bS];by_cases h16:(16:Int)<x.ws.length
    ·rw[if_pos om]at hE;subst hE;rw[fin dc];simp only[vq,seval,ah,bS,dt h16]
    ·rw[if_neg om]at hE;simp only[vq,seval,ah,bS,df h16];refine aW rfl (t136 x.ws hwx) ?_;simp only[vq,seval];cases hb:x.ws.any mE with
     |true=>rw[hb,if_pos rfl]at hE;subst hE;rw[fin dc];simp only[vq,seval,ah,bS]
     |false=>rw[hb,if_neg sm]at hE;subst hE;simp only[vq,seval,ah,bS];refine bL (i+1) om (bz 1 om rfl rfl ⟨eE (e:=p.d),trivial⟩ ?_) ⟨om,go rfl⟩;simp only[vq,seval];rw[a8 om om];trivial
 ·simp only[ak]at hc;rw[b4 om,gI]at h2;rw[h2];simp only[vq,seval]
theorem Hb{l:List Vr}{gs:List (List Int)}{g:List Int}(h:g∈gs)(h0:g=[]):ja l gs=false:=by unfold ja;rw[show(gs.all fun g=>decide (g≠[]))=false from by rw[List.all_eq_false];exact⟨g,h,by simp[h0]⟩];rfl
theorem GP{l:List Vr}{gs:List (List Int)}{v:Int}(h:v∈gs.flatten)(h0:tO l.length v=false):ja l gs=false:=by unfold ja;rw[show gs.flatten.all (tO l.length)=false from by rw[List.all_eq_false];exact⟨v,h,by rw[h0];simp⟩,Bool.false_and,Bool.and_false]
theorem uE{l:List Vr}{gs:List (List Int)}{i:Nat}(h:i<l.length)(h0:gs.flatten.count (i:Int)≠fB l i):ja l gs=false:=by unfold ja;rw[show((List.range l.length).all fun i=>decide (gs.flatten.count (i:Int)=fB l i))=false from by rw[List.all_eq_false];exact⟨i,List.mem_range.2 h,by simp[h0]⟩,Bool.and_false,Bool.and_false]
theorem oE{l:List Vr}{v:Int}(h:gj l v=true):tO l.length v=true/\fB l v.toNat=1:=by
 unfold gj at h;rw[av,aj]at h;obtain⟨h1,h2⟩:=h;cases hx:l[v.toNat]? with
 |none=>rw[hx]at h2;cases h2
 |some x=>rw[hx]at h2;have hlt:=(ad.1 hx).1;refine⟨by unfold tO;rw[dt h1,dt (show v<l.length by omega)];rfl,?_⟩;unfold fB;rw[hx];simp at h2;simp[h2]
theorem wj{l:List Vr}{v:Int}(h:gj l v=false)(hr:tO l.length v=true):v.toNat<l.length/\fB l v.toNat=0/\((v.toNat:Nat):Int)=v:=by unfold tO at hr;rw[av,aj,aj]at hr;obtain⟨x,hx⟩:=bh (l:=l) (i:=v.toNat) om;unfold gj at h;rw[dt hr.1,hx,Bool.true_and]at h;refine⟨om,?_,om⟩;unfold fB;rw[hx];simp at h;simp[h]
theorem HY{l:List Vr}{gs:List (List Int)}{v:Int}(h:v∈gs.flatten)(h0:gj l v=false):ja l gs=false:=by
 cases hr:tO l.length v with
 |false=>exact GP h hr
 |true=>obtain⟨h1,h2,h3⟩:=wj h0 hr;refine uE h1 ?_;rw[h2,h3];have:=List.count_pos_iff.2 h;omega
theorem BG{l:List Vr}{gs:List (List Int)}{v:Int}{a b:List Int}(hs:gs.flatten=a++v::b)(ha:v∈a)(h0:gj l v=true):ja l gs=false:=by obtain⟨h1,h2⟩:=oE h0;unfold tO at h1;rw[av,aj,aj]at h1;refine uE (i:=v.toNat) om ?_;rw[h2,show((v.toNat:Nat):Int)=v by omega,hs,List.count_append,List.count_cons_self];have:=List.count_pos_iff.2 ha;omega
theorem Hp{l:List Vr}{gs:List (List Int)}(h1:∀g∈gs,g≠[])(h2:∀v∈gs.flatten,gj l v=true)(h3:gs.flatten.Nodup)(h4:∀i<l.length,gj l i=true->(i:Int)∈gs.flatten):ja l gs=true:=by
 unfold ja;rw[aG.2 (fun g hg=>decide_eq_true (h1 g hg)),aG.2 (fun v hv=>(oE (h2 v hv)).1),Bool.true_and,Bool.true_and,aG];intro i hi;rw[aj];have hi:=List.mem_range.1 hi;cases hr:gj l i with
 |true=>have:=(oE hr).2;rw[Int.toNat_natCast]at this;rw[this];have hc:=List.count_pos_iff.2 (h4 i hi hr);have:=List.nodup_iff_count.1 h3 (i:Int);omega
 |false=>have:=(wj hr (by unfold tO;rw[dt (show(0:Int)<=(i:Int) by omega),dt (show(i:Int)<l.length by omega)];rfl)).2.1;rw[Int.toNat_natCast]at this;rw[this,List.count_eq_zero];intro hm;rw[h2 _ hm]at hr;cases hr
def ph(n:Nat)(pre:List Int):List (List V):=(List.range n).map fun(i:Nat)=>[.d (.bool (pre.contains (i:Int)))]
theorem ft(n:Nat)(pre:List Int):(ph n pre).length=n:=by simp[ph]
theorem n5{n:Nat}{pre:List Int}{v:Int}(h0:0<=v)(h1:v<n):(ph n pre)[v.toNat]? =some [.d (.bool (pre.contains v))]:=by rw[ph,ar,List.getElem?_range om];simp only[Option.map_some];rw[show((v.toNat:Nat):Int)=v by omega]
theorem FQ{n:Nat}{pre:List Int}{v:Int}(h0:0<=v)(h1:v<n):(ph n pre).set v.toNat [.d (.bool true)]=ph n (pre++[v]):=by
 refine List.ext_getElem? fun i=>?_;rw[List.getElem?_set];by_cases hi:i<n
 ·by_cases h:v.toNat=i
  ·rw[if_pos h,if_pos (by rw[ft];omega)];subst h;rw[n5 h0 h1];simp
  ·rw[if_neg h];have:=n5 (n:=n) (pre:=pre) (v:=(i:Int)) om om;have h2:=n5 (n:=n) (pre:=pre++[v]) (v:=(i:Int)) om om;simp only[Int.toNat_natCast]at this h2;rw[this,h2];have:¬(i:Int)=v:=om;simp[this]
 ·rw[aA (by rw[ft];omega)];rw[aA (l:=ph n (pre++[v])) (by rw[ft];omega),ft];split
  ·rw[if_neg om]
  ·rfl
theorem t77(p:Pr)(ok:g8 p)(h16:p.vars.length<=16):CallP Tryz.prog 77 [.agg (p.d.map .d)] (.d (.int .i64 (sT p.vars p.br))):=by
 have hm:=hm;have hmL:=dx;obtain⟨k1,k2,k3,k4⟩:=ok.lens;have C:=t63 p ok;rw[bj]at C|-;unfold sT;refine cc77.go ac77 rfl ?_;simp only[vq,seval,ac77,cz];refine⟨om,om,om,om,?_⟩;have e0:List.replicate p.vars.length [V.d (D.bool false)]=ph p.vars.length []:=by
  refine List.ext_getElem? fun i=>?_;by_cases hi:i<p.vars.length
  ·have:=n5 (n:=p.vars.length) (pre:=[]) (v:=(i:Int)) om om;simp only[Int.toNat_natCast]at this;rw[this,List.getElem?_replicate,if_pos hi];rfl
  ·rw[aA (by rw[List.length_replicate];omega),aA (by rw[ft];omega)]
 rw[e0];have bad:ja p.vars p.br=false->(if ja p.vars p.br=true then(0:Int)else 1)=1:=fun h=>by rw[h];rfl
 refine bb (fun i:Nat=>⟨cC 61 [(1,.aY 5 0 1 0 0),(3,.cl 1 1 p.vars.length 0 p.vars.length),(14,.d (.sl 1 (p.br.map gD))),(15,.d (.int .i64 p.br.length)),(16,.d (.int .i64 i))],[.live 5 [p.d.map .d],.live 1 (ph p.vars.length (p.br.take i).flatten)]⟩) (fun i=>i<=p.br.length/\(∀g∈p.br.take i,g≠[])/\(∀v∈(p.br.take i).flatten,gj p.vars v=true)/\(p.br.take i).flatten.Nodup) (fun i=>p.br.length-i) 0 (bk (by rw[bj];rfl) vt) sm ?_;rintro i ⟨h1,h2,h3,h4⟩;simp only[vq,seval,bj];refine aZ (fun hc=>?_) (fun hc=>?_)
 ·simp only[aj]at hc;obtain⟨g,hx⟩:=bh (l:=p.br) (i:=i) om;have hmem:=af hx;have hgl:=ok.br g hmem;simp only[vq,seval];refine⟨om,om,bg hx ?_⟩;simp only[vq,seval];simp only[vq,seval,gD];by_cases hg0:(g.length:Int)=0
  ·rw[bad (Hb hmem (aQ om))];simp only[vq,seval,dt hg0]
  simp only[vq,seval,df hg0];have e1:ph p.vars.length (p.br.take i).flatten=ph p.vars.length ((p.br.take i).flatten++g.take 0):=by rw[List.take_zero,List.append_nil]
  rw[e1];refine bb (fun k:Nat=>⟨cC 61 [(1,.aY 5 0 1 0 0),(3,.cl 1 1 p.vars.length 0 p.vars.length),(14,.d (.sl 1 (p.br.map gD))),(15,.d (.int .i64 p.br.length)),(16,.d (.int .i64 i)),(23,.d (.sl 1 (g.map iD))),(24,.d (.int .i64 g.length)),(25,.d (.int .i64 k))],[.live 5 [p.d.map .d],.live 1 (ph p.vars.length ((p.br.take i).flatten++g.take k))]⟩) (fun k=>k<=g.length/\(∀v∈g.take k,gj p.vars v=true)/\((p.br.take i).flatten++g.take k).Nodup) (fun k=>g.length-k) 0 (bk (by rw[bj]) vt) (by simpa using h4) ?_;rintro k ⟨g1,g2,g3⟩;simp only[vq,seval,bj];refine aZ (fun hk=>?_) (fun hk=>?_)
  ·simp only[aj]at hk;obtain⟨v,hv⟩:=bh (l:=g) (i:=k) om;have hvm:=af hv;simp only[vq,seval];refine⟨om,om,bg hv ?_⟩;simp only[vq,seval];simp only[vq,seval,iD];refine aW (Cs p.d _) (C v) ?_;simp only[vq,seval];cases hr:gj p.vars v with
   |false=>rw[bad (HY (xP hmem hvm) hr)];simp only[vq,seval,ah,bS]
   |true=>
    have hi:=(oE hr).1;unfold tO at hi;rw[av,aj,aj]at hi;simp only[vq,seval,ah,bS];refine⟨om,om,ft _ _,ft _ _,b8 (n5 om om) ?_⟩;have hsplit:p.br.flatten=((p.br.take i).flatten++g.take k)++v::(g.drop (k+1)++(p.br.drop (i+1)).flatten):=by
     have ea:p.br.flatten=(p.br.take i).flatten++(g++(p.br.drop (i+1)).flatten):=by conv=>lhs;rw[<-List.take_append_drop i p.br,List.flatten_append,bt hx,List.flatten_cons]
     have eb:g=g.take k++v::g.drop (k+1):=by conv=>lhs;rw[<-List.take_append_drop k g,bt hv]
     rw[ea]
     conv=>lhs;rw[eb]
     simp only[List.append_assoc,List.cons_append]
    cases hs:((p.br.take i).flatten++g.take k).contains v with
    |true=>rw[bad (BG hsplit (by simpa using hs) hr)];simp only[vq,seval,ah,bS]
    |false=>
     simp only[vq,seval,ah,bS];refine⟨om,om,ft _ _,ft _ _,b8 (n5 om om) ?_⟩;simp only[vq,seval,ah,bS];rw[FQ om om,List.append_assoc,<-bQ hv];refine bL (k+1) om (bk (by rfl) ?_) ⟨om,fun w hw=>?_,?_⟩
     ·simp only[vq,seval];rw[a8 om om];trivial
     ·rw[bQ hv,aU]at hw;rcases hw with hw|hw
      ·exact g2 w hw
      ·obtain rfl:=List.mem_singleton.1 hw;exact hr
     ·rw[bQ hv,<-List.append_assoc,List.nodup_append];refine⟨g3,sm,fun a ha b hb=>?_⟩;obtain rfl:=List.mem_singleton.1 hb;rintro rfl;rw[List.contains_iff_mem.2 ha]at hs;cases hs
  ·simp only[ak]at hk;simp only[vq,seval];rw[al (l:=g) om]at g2 g3|-;rw[<-qF hx]at g3|-;refine bL (i+1) om (bk (by rfl) ?_) ⟨om,fun g' h'=>?_,fun w hw=>?_,g3⟩
   ·simp only[vq,seval];rw[a8 om om];trivial
   ·rw[bQ hx,aU]at h';rcases h' with h'|h'
    ·exact h2 g' h'
    ·obtain rfl:=List.mem_singleton.1 h';rintro rfl;exact hg0 rfl
   ·rw[qF hx,aU]at hw;rcases hw with hw|hw
    ·exact h3 w hw
    ·exact g2 w hw
 simp only[ak]at hc;rw[al (l:=p.br) om]at h2 h3 h4|-;simp only[vq,seval,cz];refine bb (fun k:Nat=>⟨cC 61 [(1,.aY 5 0 1 0 0),(3,.cl 1 1 p.vars.length 0 p.vars.length),(46,.d (.int .i64 p.vars.length)),(47,.d (.int .i64 k))],[.live 5 [p.d.map .d],.live 1 (ph p.vars.length p.br.flatten)]⟩) (fun k=>k<=p.vars.length/\∀j<k,gj p.vars j=true->(j:Int)∈p.br.flatten) (fun k=>p.vars.length-k) 0 (bk (by rw[bj];rfl) vt) sm ?_;rintro k ⟨g1,g2⟩;simp only[vq,seval,bj];refine aZ (fun hk=>?_) (fun hk=>?_)
 ·simp only[aj]at hk;simp only[vq,seval,bj];refine aW (Cs p.d _) (C k) ?_;simp only[vq,seval];have hsn:=n5 (n:=p.vars.length) (pre:=p.br.flatten) (v:=(k:Int)) om om;rw[Int.toNat_natCast]at hsn;have go:(gj p.vars k=true->(k:Int)∈p.br.flatten)->∀j<k+1,gj p.vars j=true->(j:Int)∈p.br.flatten:=fun h j hj=>by
   by_cases e:j=k
   ·subst e;exact h
   ·exact g2 j om
  cases hr:gj p.vars k with
  |false=>simp only[vq,seval,ah,bS];refine bL (k+1) om (a9 ?_) ⟨om,go (by rw[hr];simp)⟩;simp only[vq,seval];rw[a8 om om];trivial
  |true=>
   simp only[vq,seval,ah,bS];refine⟨om,om,ft _ _,ft _ _,b8 hsn ?_⟩;cases hs:p.br.flatten.contains (k:Int)with
   |true=>simp only[vq,seval,ah,bS];refine bL (k+1) om (a9 ?_) ⟨om,go fun _=>List.contains_iff_mem.1 hs⟩;simp only[vq,seval];rw[a8 om om];trivial
   |false=>have hw:=(oE hr).2;rw[Int.toNat_natCast]at hw;rw[bad (uE (i:=k) om (by rw[hw,List.count_eq_zero.2 (fun hm=>by rw[List.contains_iff_mem.2 hm]at hs;cases hs)];decide))];simp only[vq,seval,ah,bS]
 ·simp only[ak]at hk;rw[Hp h2 h3 h4 fun i hi=>g2 i om];simp only[vq,seval,ah,bS]
def J0(sz n:Nat)(a b:V):Prop:=b=.any\/(∃y,a=.d y/\b=.d y)\/(a=.cl sz 0 n 0 0/\b=.cl sz 0 0 0 0)
def KJ(sz n:Nat):List V->List V->Prop
 |[],[]=>True
 |a::l,b::k=>J0 sz n a b/\KJ sz n l k
 |[],_::_=>False
 |_::_,[]=>False
theorem wm{sz n:Nat}:∀{l k:List V},KJ sz n l k->k.length=l.length/\∀i,J0 sz n (nth l i) (nth k i)
 |[],[],_=>⟨rfl,fun i=>.inl rfl⟩
 |_::_,_::_,h=>by obtain⟨h1,h2⟩:=wm h.2;exact⟨by simp[h1],fun i=>by cases i with|zero=>exact h.1|succ i=>exact h2 i⟩
 |[],_::_,h=>h.elim
 |_::_,[],h=>h.elim
theorem rA{n:Nat}{ρ:Nat->Option Nat}{I:Nat->Prop}{r1 r2:Go.Vx.Rows}{w:World}:∀{ds:List Deferred},Marks n ⟨ρ,I,r1,w⟩ ds->Marks n ⟨ρ,I,r2,w⟩ ds
 |[],h=>h
 |_::_,h=>⟨h.1,rA h.2⟩
theorem s4{fr fr':List V}{sz n:Nat}{es:List (List V)}(hn:es.length=n)(h:KJ sz n fr fr'):fb 0 ⟨fr,[.live sz es]⟩ ⟨fr',[.live sz []]⟩:=by
 rintro c0 a w h0 ⟨ρ,I,ok,hx,hd,hl,hf⟩;obtain⟨h1,h2⟩:=wm h;have hr0:(⟨ρ,I,[bd.live sz es],w⟩:Cx).rows[0]? =some (.live sz es):=rfl;have rep:∀x y v,J0 sz n y v->b7 ⟨ρ,I,[bd.live sz es],w⟩ x y->b7 ⟨ρ,I,[bd.live sz []],w⟩ x v:=fun x y v hc hr=>by
  rcases hc with rfl|⟨d,rfl,rfl⟩|⟨rfl,rfl⟩
  ·exact .any _
  ·cases hr with|d _ _ hr=>exact .d _ _ hr
  ·cases hr with
   |cl _ _ _ _ _ cap b o es2 arr ty fz hrow hn2 hρ hb ho hcap hlc hlen=>exact .cl sz 0 0 0 0 cap b o [] arr ty fz rfl rfl hρ hb ho hcap (Nat.zero_le _) (aq _)
   |c8 _ _ hrow hρ=>exact .c8 sz 0 rfl hρ
   |cW _ _ _ _ _ _ hv hs=>
    rcases hs with hs|⟨sz2,es2,hs,hlt⟩
    ·cases hs
    ·simp at hs;obtain⟨rfl,rfl⟩:=hs;omega
 refine⟨ρ,I,⟨ok.inj,fun g b hb=>?_,fun g b sz1 es1 hb hr1=>?_,fun g sz1 es1 hn1 hr1=>?_,ok.jP,⟨fun g o hr1=>?_,ok.g.pz⟩⟩,⟨hx.os,hx.tape,hx.output,hx.size,hx.l9,hx.jP,hx.qf,hx.new,fun g=>?_⟩,rA hd,by rw[h1];exact hl,fun i=>rep _ _ _ (h2 i) (hf i)⟩
 ·obtain⟨g1,g2,r,g3,g4⟩:=ok.own g b hb
  match g with
  |0=>exact⟨g1,g2,_,rfl,trivial⟩
  |g+1=>simp at g3
 ·match g with
  |0=>simp at hr1;obtain⟨rfl,rfl⟩:=hr1;obtain⟨arr,ty,fz,g1,g2,g3⟩:=ok.cont 0 b sz es hb rfl;exact⟨arr,ty,fz,g1,g2,fun e he=>(by cases he),sm,fun i e j v he=>by simp at he⟩
  |g+1=>simp at hr1
 ·match g with
  |0=>simp at hr1;exact hr1.2
  |g+1=>simp at hr1
 ·match g with
  |0=>simp at hr1
  |g+1=>simp at hr1
 ·unfold bK;rw[aA om];trivial
theorem t180(n:Nat)(hn:n<=4294967296):dn Tryz.prog 180 [.d .bm,.d (.int .i64 n)] [] (fun v R=>(n=0/\v=.d .bm/\R=[])\/(0<n/\v=.cl 4 0 n 0 0/\∃es:List (List V),es.length=n/\R=[.live 4 es])):=by
 have hmL:=dx;refine cc180.gi ac180 rfl ?_;simp only[vq,seval,ac180];by_cases h:(0:Int)<n
 ·simp only[vq,seval,df (show¬(n:Int)<0 by omega),dt h];rw[Pm,Int.sub_zero,a8 om om];simp only[vq,seval,dt h];refine⟨om,by simp only[bM];omega,?_⟩;exact⟨sm,om,.inr ⟨om,_,sm,rfl⟩⟩
 ·simp only[vq,seval,df (show¬(n:Int)<0 by omega),df h];rw[Pm,Int.sub_zero,a8 om om];simp only[vq,seval,df h];exact .inl om
theorem t129(a b:List Ex)(ha:a.length<=65536)(hb:b.length<=65536):CallP Tryz.prog 129 [.d (.sl 1 [[.sl 4 (a.map Ex.d)],[.sl 4 (b.map Ex.d)]])] (.d (.sl 4 ((a++b).map Ex.d))):=by
 have hmL:=dx;refine cc129.go (AC.at AC.wk [1,1,1,1,0,0] (AC.at (AC.look [false,true]) [1,1,1,0] ac129)) rfl ?_;simp only[vq,seval,ac129,AC.at,AC.look];refine bb (fun i:Nat=>⟨cC 36 [(0,.d (.sl 1 [[.sl 4 (a.map Ex.d)],[.sl 4 (b.map Ex.d)]])),(2,.d .bm),(3,.d (.int .i64 (if i=0 then 0 else if i=1 then a.length else a.length+b.length))),(9,.d (.sl 1 [[.sl 4 (a.map Ex.d)],[.sl 4 (b.map Ex.d)]])),(10,.d (.int .i64 2)),(11,.d (.int .i64 i))],[]⟩) (fun i=>i<=2) (fun i=>2-i) 0 (a9 vt) om ?_;intro i hi;have:i=0\/i=1\/i=2:=om;rcases this with rfl|rfl|rfl
 ·simp only[vq,seval];rw[a8 om om];simp only[vq,seval,df (show¬(0:Int)+a.length<0 by omega)];refine bL 1 om (a9 ?_) om;simp only[vq,seval,Int.zero_add];rfl
 ·simp only[vq,seval];rw[a8 om om];simp only[vq,seval,df (show¬(a.length:Int)+b.length<0 by omega)];refine bL 2 om (a9 ?_) om;simp only[vq,seval];rfl
 ·simp only[vq,seval];have hc:((a.length:Int)+b.length)=((a.length+b.length:Nat):Int):=om;rw[hc];refine dh (b6 (t180 _ om) ?_);have W:∀v R,(a.length+b.length=0/\v=V.d .bm/\R=[])\/(0<a.length+b.length/\v=.cl 4 0 (a.length+b.length) 0 0/\∃es:List (List V),es.length=a.length+b.length/\R=[.live 4 es])->fb 0 ⟨cC 36 [(0,.d (.sl 1 [[.sl 4 (a.map Ex.d)],[.sl 4 (b.map Ex.d)]])),(2,.d .bm),(6,v)],R⟩ ⟨cC 36 [(0,.d (.sl 1 [[.sl 4 (a.map Ex.d)],[.sl 4 (b.map Ex.d)]])),(2,.d .bm),(6,.cl 4 0 0 0 0)],[.live 4 []]⟩:=by
   rintro v R (⟨h1,rfl,rfl⟩|⟨h1,rfl,es,h2,rfl⟩)
   ·exact eJ 6 4 rfl
   ·refine s4 h2 ?_
    repeat(first|exact trivial|refine⟨by first|exact .inl rfl|exact .inr (.inl ⟨_,rfl,rfl⟩)|exact .inr (.inr ⟨rfl,rfl⟩),?_⟩)
  intro v R hvR;have W:=W v R hvR;simp only[vq,seval];refine fu _ ((a9 ?_).trans W) ?_
  ·clear W;rcases hvR with⟨_,rfl,_⟩|⟨_,rfl,_⟩<;>simp only[vq,seval]
  simp only[vq,seval];refine bb (fun t:Nat×List Ex=>⟨cC 36 [(6,.cl 4 0 t.2.length 0 t.2.length),(25,.d (.sl 1 [[.sl 4 (a.map Ex.d)],[.sl 4 (b.map Ex.d)]])),(26,.d (.int .i64 2)),(27,.d (.int .i64 t.1))],[.live 4 ((t.2.map Ex.d).map (·.map .d))]⟩) (fun t=>t.1<=2/\t.2=(if t.1=0 then[]else if t.1=1 then a else a++b)) (fun t=>2-t.1) (0,[]) (a9 vt) ⟨sm,rfl⟩ ?_;rintro⟨k,l⟩ ⟨h1,h2⟩;dsimp only at h1 h2;have:k=0\/k=1\/k=2:=om;rcases this with rfl|rfl|rfl
  ·obtain rfl:l=[]:=h2;simp only[vq,seval];refine⟨by simp only[bM];omega,bL (1,a) sm (bz 1 om rfl rfl ⟨nY,trivial⟩ ?_) ⟨sm,rfl⟩⟩;simp only[vq,seval];rfl
  ·obtain rfl:l=a:=h2;simp only[vq,seval];refine⟨by simp only[bM];omega,bL (2,l++b) sm (bz 1 om sm rfl ⟨nY,trivial⟩ ?_) ⟨sm,rfl⟩⟩;simp only[vq,seval,az];rfl
  ·obtain rfl:l=a++b:=h2;simp only[vq,seval];exact da (es:=(a++b).map Ex.d) rfl sm om (fun e he=>by obtain⟨t,_,rfl⟩:=aw.1 he;exact t.cN) (by rw[List.drop_zero,al sm])
theorem BB(ops:List Int)(s:B)(l:List Ex)(a:List B):s∈l.foldl (l0 ops) a↔s∈a\/∃y∈l,ops.contains y.op=true/\y.nm=s:=by
 induction l generalizing a with
 |nil=>simp
 |cons x l ih=>
  rw[List.foldl_cons,ih];have:s∈l0 ops a x↔s∈a\/(ops.contains x.op=true/\x.nm=s):=by
   unfold l0;split
   ·rename_i h;rw[aU,List.mem_singleton];exact⟨fun h'=>h'.imp id (fun e=>⟨h.1,e.symm⟩),fun h'=>h'.imp id (fun e=>e.2.symm)⟩
   ·rename_i h;refine⟨.inl,fun h'=>h'.elim id fun h'=>?_⟩;by_cases hc:a.contains x.nm=true
    ·rw[<-h'.2];exact List.contains_iff_mem.1 hc
    ·exact(h ⟨h'.1,by simpa using hc⟩).elim
  rw[this];simp only[aP];constructor
  ·rintro((h|h)|⟨y,h1,h2⟩)
   ·exact .inl h
   ·exact .inr ⟨x,.inl rfl,h⟩
   ·exact .inr ⟨y,.inr h1,h2⟩
  ·rintro(h|⟨y,rfl|h1,h2⟩)
   ·exact .inl (.inl h)
   ·exact .inl (.inr h2)
   ·exact .inr ⟨y,h1,h2⟩
theorem mg(ops:List Int)(e:Ex)(s:B):s∈dT ops e↔∃y∈e.nodes,ops.contains y.op=true/\y.nm=s:=by rw[dT,BB];simp
theorem oV(e:Ex):decide (0<((dT [3,24] e).length:Int))=e.nodes.any fN:=by
 rw[Bool.eq_iff_iff,aj,List.any_eq_true];constructor
 ·intro h;obtain⟨s,hs⟩:=List.exists_mem_of_length_pos (l:=dT [3,24] e) om;obtain⟨y,h1,h2,_⟩:=(mg _ _ _).1 hs;exact⟨y,h1,by simpa[fN]using h2⟩
 ·rintro⟨y,h1,h2⟩;have:=List.length_pos_of_mem ((mg [3,24] e y.nm).2 ⟨y,h1,by simpa[fN]using h2,rfl⟩);omega
theorem xr(l:List Vr)(e:Ex):((dT [2] e).any fun s=>decide (kr l s<0))=e.nodes.any (gf l):=by
 rw[Bool.eq_iff_iff,List.any_eq_true,List.any_eq_true];constructor
 ·rintro⟨s,hs,h⟩;obtain⟨y,h1,h2,rfl⟩:=(mg _ _ _).1 hs;exact⟨y,h1,by simp[gf]at h2 h|-;exact⟨h2,h⟩⟩
 ·rintro⟨y,h1,h2⟩;simp[gf]at h2;exact⟨y.nm,(mg _ _ _).2 ⟨y,h1,by simp[h2.1],rfl⟩,by simp[h2.2]⟩
theorem t133(p:Pr)(hl:p.vars.length<=maxLen)(s:B):CallP Tryz.prog 133 [.d (.str s),.d (.ptr p.d)] (.d (.bool (decide (kr p.vars s<0)))):=by refine cc133.go ac133 rfl ?_;simp only[vq,seval,ac133,Pr.d];refine aW rfl (t125 p.vars s hl) ?_;simp only[vq,seval]
theorem t182(l:List B)(q:B->Bool){f:Nat}(first cap:List V)(hl:l.length<=maxLen)(hno:∀x:B,(first++[V.d (.str x)]++cap).all kv=true)(hp:∀x∈l,CallP Tryz.prog f (first++[.d (.str x)]++cap) (.d (.bool (q x)))):CallP Tryz.prog 182 [.d (.sl 1 (l.map sD)),.fn (.func f) first cap] (.d (.int .i64 (nq q l 0))):=by
 have hm:=hm;refine cc182.go ac182 rfl ?_;simp only[vq,seval,ac182];refine bb (fun i:Nat=>⟨cC 19 [(0,.d (.sl 1 (l.map sD))),(1,.fn (.func f) first cap),(7,.d (.int .i64 l.length)),(8,.d (.int .i64 i))],[]⟩) (fun i=>i<=l.length/\nq q l 0=nq q (l.drop i) i) (fun i=>l.length-i) 0 (a9 vt) sm (fun i hi=>?_);obtain⟨h1,h2⟩:=hi;simp only[vq,seval];refine aZ (fun hc=>?_) (fun hc=>?_)
 ·simp only[aj]at hc;obtain⟨x,hx⟩:=bh (l:=l) (i:=i) om;have hmem:=af hx;rw[bt hx,nq]at h2;simp only[vq,seval];refine⟨om,om,bg hx ?_⟩;simp only[vq,seval];simp only[vq,seval,sD];refine aW (hno x) ((hp x hmem)) ?_;simp only[vq,seval];cases hpx:q x with
  |true=>rw[hpx,if_pos rfl]at h2;simp only[vq,seval,h2]
  |false=>rw[hpx,if_neg sm]at h2;simp only[vq,seval];refine bL (i+1) om (a9 ?_) ⟨om,h2⟩;simp only[vq,seval];rw[a8 om om];trivial
 ·simp only[ak]at hc;rw[b4 om,nq]at h2;simp only[vq,seval,h2]
theorem t131(l:List B)(q:B->Bool){f:Nat}(first cap:List V)(hl:l.length<=maxLen)(hno:∀x:B,(first++[V.d (.str x)]++cap).all kv=true)(hno2:([.d (.sl 1 (l.map sD)),V.fn (.func f) first cap]:List V).all kv=true)(hp:∀x∈l,CallP Tryz.prog f (first++[.d (.str x)]++cap) (.d (.bool (q x)))):CallP Tryz.prog 131 [.d (.sl 1 (l.map sD)),.fn (.func f) first cap] (.d (.bool (l.any q))):=by refine cc131.go ac131 rfl ?_;simp only[vq,seval,ac131];refine aW hno2 ((t182 l q first cap hl hno hp)) ?_;simp only[vq,seval];exact qT q l 0
theorem kL(ops:List Int)(e:Ex):(dT ops e).length<=e.nodes.length:=by
 have:∀(l:List Ex) (a:List B),(l.foldl (l0 ops) a).length<=a.length+l.length:=fun l=>by
  induction l with
  |nil=>intro a;exact aq _
  |cons x l ih=>intro a;have h1:=ih (l0 ops a x);have h2:=xa ops a x;rw[List.foldl_cons,List.length_cons];omega
 have:=this e.nodes [];rw[dT];simpa using this
theorem t73(p:Pr)(ok:g8 p):CallP Tryz.prog 73 [.agg (p.d.map .d)] (.d (.int .i64 (fE (lg p.vars) (p.cj++p.soft)))):=by
 have hm:=hm;have hmL:=dx;have hl:=ok.vars.1;obtain⟨k1,k2,k3,k4⟩:=ok.lens;have hok:∀e∈p.cj++p.soft,nA e:=fun e he=>(aU.1 he).elim (ok.cj e) (ok.soft e);obtain⟨L,hL⟩:∃L,p.cj++p.soft=L:=⟨_,rfl⟩;have hLl:L.length<=131072:=by rw[<-hL,az];omega
 have C:=t129 p.cj p.soft k1 k2;rw[hL]at hok C|-;rw[bj];refine cc73.go ac73 rfl ?_;simp only[vq,seval,ac73];refine uP (v:=.d (.sl 4 (L.map Ex.d))) (by simp[dN,eu,Go.Vx.rowAt,wD,kv,gn]) (by simpa[dJ,eR,sP]using C) ?_;simp only[vq,seval];refine bb (fun i:Nat=>⟨cC 31 [(1,.aY 5 0 1 0 0),(11,.d (.sl 4 (L.map Ex.d))),(12,.d (.int .i64 L.length)),(13,.d (.int .i64 i))],[.live 5 [p.d.map .d]]⟩) (fun i=>i<=L.length/\fE (lg p.vars) L=fE (lg p.vars) (L.drop i)) (fun i=>L.length-i) 0 (bz 1 om (by rw[bj];rfl) rfl ⟨eE (e:=p.d),trivial⟩ vt) sm ?_;rintro i ⟨h1,h2⟩;simp only[vq,seval,bj];refine aZ (fun hc=>?_) (fun hc=>?_)
 ·simp only[aj]at hc;obtain⟨e,hx⟩:=bh (l:=L) (i:=i) om;have he:=hok e (af hx);rw[bt hx,fE]at h2;simp only[vq,seval];refine⟨om,om,bg hx ?_⟩;simp only[vq,seval];simp only[vq,seval,dI];refine aW (p9 _) (t97 e he) ?_;simp only[vq,seval];by_cases hv:lE e=0
  ·have hE:lg p.vars e=lC p.vars e:=by rw[lg,if_neg (fun h=>h hv)]
   rw[hE]at h2;obtain⟨E,hp⟩:∃E,lC p.vars e=E:=⟨_,rfl⟩;rw[hp]at h2;rw[lC]at hp;simp only[vq,seval,ah,bS,dt hv,dI];refine aW (p9 _) (t130 e he) ?_;simp only[vq,seval];simp only[vq,seval,an,oV];cases ha:e.nodes.any fN with
   |true=>rw[ha,if_pos rfl]at hp;subst hp;rw[if_neg dc]at h2;simp only[vq,seval,ah,bS,h2]
   |false=>
    rw[ha,if_neg Bool.false_ne_true]at hp;simp only[vq,seval,ah,bS,dI];refine aW (p9 _) (t132 e he) ?_;simp only[vq,seval];have h131:=t131 (dT [2] e) (fun s=>decide (kr p.vars s<0)) (f:=133) [] [.d (.ptr p.d)] (by have:=kL [2] e;have:=he.1;omega) (fun _=>rfl) rfl (fun s _=>t133 p hl s);rw[xr]at h131;refine fw (v:=.d (.bool (e.nodes.any (gf p.vars)))) (by simp[dN,eu,Go.Vx.rowAt,wD,kv,gn]) rfl (by simpa[dJ,eR,sP,Pr.d]using h131) ?_;cases hf:e.nodes.any (gf p.vars)with
    |true=>rw[hf,if_pos rfl]at hp;subst hp;rw[if_neg dc]at h2;simp only[vq,seval,ah,bS,h2]
    |false=>rw[hf,if_neg Bool.false_ne_true]at hp;subst hp;rw[if_pos rfl]at h2;simp only[vq,seval,ah,bS];refine bL (i+1) om (bz 1 om rfl rfl ⟨eE (e:=p.d),trivial⟩ ?_) ⟨om,h2⟩;simp only[vq,seval];rw[a8 om om];trivial
  ·have hE:lg p.vars e=lE e:=by rw[lg,if_pos hv]
   rw[hE,if_neg hv]at h2;simp only[vq,seval,ah,bS,df hv,h2]
 ·simp only[ak]at hc;rw[b4 om,fE]at h2;rw[h2];simp only[vq,seval]
theorem Kr{α:Type}(f:α->Int)(a b:List α):fE f (a++b)=if fE f a≠0 then fE f a else fE f b:=by
 induction a with
 |nil=>rfl
 |cons x a ih=>
  rw[List.cons_append,fE,fE];split
  ·exact ih
  ·rfl
theorem t70(p:Pr)(ok:g8 p):CallP Tryz.prog 70 [.d (.ptr p.d)] (.d (.int .i64 (ou p.vars))):=by refine cc70.go ac70 rfl ?_;simp only[vq,seval,ac70,Pr.d];refine aW rfl (t71 p.vars ok.vars) ?_;simp only[vq,seval]
theorem t72(p:Pr)(ok:g8 p):CallP Tryz.prog 72 [.d (.ptr p.d)] (.d (.int .i64 (fE (lg p.vars) (p.cj++p.soft)))):=by refine cc72.go ac72 rfl ?_;simp only[vq,seval,ac72];refine⟨by rw[Pr.cN];exact aq _,?_⟩;rw[al (by rw[Pr.cN];exact aq _)];refine aW (qG p) (t73 p ok) ?_;simp only[vq,seval]
theorem t74(p:Pr)(ok:g8 p):CallP Tryz.prog 74 [.d (.ptr p.d)] (.d (.int .i64 (gI p.vars [] p.bZ))):=by refine cc74.go ac74 rfl ?_;simp only[vq,seval,ac74];refine⟨by rw[Pr.cN];exact aq _,?_⟩;rw[al (by rw[Pr.cN];exact aq _)];refine aW (qG p) (t75 p ok) ?_;simp only[vq,seval]
theorem t76(p:Pr)(ok:g8 p)(h16:p.vars.length<=16):CallP Tryz.prog 76 [.d (.ptr p.d)] (.d (.int .i64 (sT p.vars p.br))):=by refine cc76.go ac76 rfl ?_;simp only[vq,seval,ac76];refine⟨by rw[Pr.cN];exact aq _,?_⟩;rw[al (by rw[Pr.cN];exact aq _)];refine aW (qG p) (t77 p ok h16) ?_;simp only[vq,seval]
theorem L9{p:Pr}(h1:ou p.vars=0)(h:¬(if fE (lg p.vars) p.cj≠0 then fE (lg p.vars) p.cj else fE (lg p.vars) p.soft)=0):cE p=(if fE (lg p.vars) p.cj≠0 then fE (lg p.vars) p.cj else fE (lg p.vars) p.soft):=by
 unfold cE;rw[if_neg (fun x=>x h1)];by_cases q:fE (lg p.vars) p.cj=0
 ·rw[if_neg (fun x=>x q)]at h;rw[if_neg (fun x=>x q),if_pos h,if_neg (fun x=>x q)]
 ·rw[if_pos q,if_pos q]
abbrev Jd(n:Nat):List V:=[.fn (.func n) [] [.aY 5 0 1 0 0]]
theorem qM{p:Pr}{f:FuncId}{R:Go.Vx.Rows}{n:Int}{κ:KV}(h:CallP Tryz.prog f [.d (.ptr p.d)] (.d (.int .i64 n)))(hk:κ (.d (.int .i64 n)) []):nB Tryz.prog (.fn (.func f) [] [.aY 5 0 1 0 0]) [] (.live 5 [p.d.map .d]::R) κ:=by
 refine fw (v:=.d (.int .i64 n)) (fun v hv=>?_) rfl ?_ hk
 ·simp only[List.nil_append,List.append_nil,aP,List.not_mem_nil,or_false]at hv;subst hv;exact⟨_,_,rfl,rfl,rfl,Nat.zero_le _,fun v hv=>by obtain⟨d,_,rfl⟩:=aw.1 hv;rfl⟩
 ·simpa[dJ,eR,sP,Function.comp_def]using h
theorem t69(p:Pr)(ok:g8 p):dn Tryz.prog 69 [.cl 1 1 4 0 4] [.live 5 [p.d.map .d],.live 1 [Jd 70,Jd 72,Jd 74,Jd 76]] (fun v _=>v=.d (.int .i64 (cE p))):=by
 refine cc69.gi ac69 rfl ?_;simp only[vq,seval,ac69];have a1:=t70 p ok;have a2:=t72 p ok;have a3:=t74 p ok;rw[Kr]at a2;refine bb (fun i:Nat=>⟨cC 18 [(6,.cl 1 1 4 0 4),(7,.d (.int .i64 4)),(8,.d (.int .i64 i))],[.live 5 [p.d.map .d],.live 1 [Jd 70,Jd 72,Jd 74,Jd 76]]⟩) (fun i=>i<=4/\(1<=i->ou p.vars=0)/\(2<=i->fE (lg p.vars) p.cj=0/\fE (lg p.vars) p.soft=0)/\(3<=i->gI p.vars [] p.bZ=0)/\(4<=i->sT p.vars p.br=0)) (fun i=>4-i) 0 (a9 vt) sm ?_;rintro i ⟨h0,h1,h2,h3,h4⟩;have:i=0\/i=1\/i=2\/i=3\/i=4:=om;rcases this with rfl|rfl|rfl|rfl|rfl
 ·simp only[vq,seval];refine qM a1 ?_;by_cases h:ou p.vars=0
  ·simp only[vq,seval,ah,bS,dt h];refine bL 1 om (a9 ?_) ⟨om,fun _=>h,fun _=>om,fun _=>om,fun _=>om⟩;simp only[vq,seval];rfl
  ·rw[show cE p=ou p.vars from by unfold cE;rw[if_pos h]];simp only[vq,seval,ah,bS,df h]
 ·simp only[vq,seval];refine qM a2 ?_;by_cases h:(if fE (lg p.vars) p.cj≠0 then fE (lg p.vars) p.cj else fE (lg p.vars) p.soft)=0
  ·simp only[vq,seval,ah,bS,dt h];refine bL 2 om (a9 ?_) ⟨om,fun _=>h1 om,fun _=>(by
    by_cases q:fE (lg p.vars) p.cj=0
    ·rw[if_neg (fun x=>x q)]at h;exact⟨q,h⟩
    ·rw[if_pos q]at h;exact absurd h q),fun _=>om,fun _=>om⟩
   simp only[vq,seval];rfl
  ·rw[L9 (h1 om) h];simp only[vq,seval,ah,bS,df h]
 ·simp only[vq,seval];refine qM a3 ?_;by_cases h:gI p.vars [] p.bZ=0
  ·simp only[vq,seval,ah,bS,dt h];refine bL 3 om (a9 ?_) ⟨om,fun _=>h1 om,fun _=>h2 om,fun _=>h,fun _=>om⟩;simp only[vq,seval];rfl
  ·rw[show cE p=gI p.vars [] p.bZ from by unfold cE;rw[if_neg (fun x=>x (h1 om)),if_neg (fun x=>x (h2 om).1),if_neg (fun x=>x (h2 om).2),if_pos h]];simp only[vq,seval,ah,bS,df h]
 ·simp only[vq,seval];refine qM (t76 p ok (gK (h1 om))) ?_;by_cases h:sT p.vars p.br=0
  ·simp only[vq,seval,ah,bS,dt h];refine bL 4 om (a9 ?_) ⟨om,fun _=>h1 om,fun _=>h2 om,fun _=>h3 om,fun _=>h⟩;simp only[vq,seval];rfl
  ·rw[show cE p=sT p.vars p.br from by unfold cE;rw[if_neg (fun x=>x (h1 om)),if_neg (fun x=>x (h2 om).1),if_neg (fun x=>x (h2 om).2),if_neg (fun x=>x (h3 om))]];simp only[vq,seval,ah,bS,df h]
 ·simp only[vq,seval];rw[show cE p=0 from by unfold cE;rw[if_neg (fun x=>x (h1 om)),if_neg (fun x=>x (h2 om).1),if_neg (fun x=>x (h2 om).2),if_neg (fun x=>x (h3 om)),h4 om]]
theorem t34(p:Pr)(ok:g8 p):CallP Tryz.prog 34 [.agg (p.d.map .d)] (.d (.int .i64 (cE p))):=by refine cc34.go (AC.at (AC.look [false,false,false,false,false,true]) [1,0] ac34) rfl ?_;simp only[vq,seval,ac34,AC.at,AC.look];refine⟨p.cN,by simp[fh],?_⟩;refine dh (b6 (t69 p ok) ?_);rintro _ R rfl;simp only[vq,seval]
theorem t29(p:Pr)(ok:g8 p):CallP Tryz.prog 29 [.agg (p.d.map .d)] (.d (.sl 1 ((ku p).map iD))):=by
 have hm:=hm;have hl:=ok.vars.1;have hmL:=dx;refine cc29.go (AC.at AC.wk [1,1,1,0,0] ac29) rfl ?_;have C:=t34 p ok;have C2:=t63 p ok;rw[bj]at C C2|-;simp only[vq,seval,ac29,AC.at];refine aW (qG p) (C) ?_;simp only[vq,seval];unfold ku;by_cases h:cE p=0
 ·have h16:p.vars.length<=16:=gK (ec h);rw[if_pos h];simp only[vq,seval,ah,bS,dt h];refine fu _ (eJ 3 1 rfl) ?_;simp only[vq,seval,cz];refine bb (fun i:Nat=>⟨cC 23 [(1,.aY 5 0 1 0 0),(3,.cl 1 1 (fT (p.vars.take i) 0).length 0 (fT (p.vars.take i) 0).length),(10,.d (.int .i64 p.vars.length)),(11,.d (.int .i64 i))],[.live 5 [p.d.map .d],rI (fT (p.vars.take i) 0)]⟩) (fun i=>i<=p.vars.length) (fun i=>p.vars.length-i) 0 (a9 (by simp only[vq,seval,bj];try trivial)) om ?_;rintro i h1;simp only[vq,seval,bj];refine aZ (fun hc=>?_) (fun hc=>?_)
  ·simp only[aj]at hc;obtain⟨x,hx⟩:=bh (l:=p.vars) (i:=i) om;have hln:=rz (p.vars.take i) 0;rw[List.length_take]at hln;have hs:=th (p.vars.take i) x 0;rw[<-bQ hx,List.length_take,Nat.min_eq_left h1,Nat.zero_add]at hs;have hr:gj p.vars i= !decide (x.m=0):=by unfold gj;rw[Int.toNat_natCast,hx,dt (show(0:Int)<=(i:Int) by omega)];rfl
   simp only[vq,seval,bj];refine aW (Cs p.d _) (C2 i) ?_;simp only[vq,seval];rw[hr];by_cases h0:x.m=0
   ·rw[if_pos h0,List.append_nil]at hs;simp only[vq,seval,ah,bS,dt h0];refine bL (i+1) om (bk (by rw[hs]) ?_) om;rw[hs];simp only[vq,seval];rw[a8 om om];trivial
   ·rw[if_neg h0]at hs;simp only[vq,seval,ah,bS,df h0,rI];refine⟨by simp only[bM];omega,?_⟩;refine bL (i+1) om (bz 2 om (by rw[hs];simp[iD]) rfl ⟨eE (e:=p.d),nY (l:=(fT (p.vars.take (i+1)) 0).map iD),trivial⟩ ?_) om;rw[hs];simp only[vq,seval,az];rw[a8 om om];trivial
  ·simp only[ak]at hc;rw[al om];simp only[vq,seval];exact da (es:=(fT p.vars 0).map iD) rfl sm om Ge (by rw[List.drop_zero,al sm])
 ·rw[if_neg h];simp only[vq,seval,ah,bS,df h]
theorem t11(p:Pr)(ok:g8 p):CallP Tryz.prog 11 [.agg (p.d.map .d)] (.d (.int .i64 (dE p))):=by
 have hm:=hm;have hl:=ok.vars.1;have C:=t29 p ok;have hln:=wZ p;rw[bj]at C|-;refine cc11.go ac11 rfl ?_;simp only[vq,seval,ac11];refine aW (qG p) (C) ?_;simp only[vq,seval];refine bb (fun t:Nat×Int=>⟨cC 23 [(1,.aY 5 0 1 0 0),(3,.d (.int .i64 t.2)),(7,.d (.sl 1 ((ku p).map iD))),(8,.d (.int .i64 (ku p).length)),(9,.d (.int .i64 t.1))],[.live 5 [p.d.map .d]]⟩) (fun t=>t.1<=(ku p).length/\t.2+(((ku p).drop t.1).map (n8 p.vars)).sum=dE p/\0<=t.2/\t.2<=8*t.1) (fun t=>(ku p).length-t.1) (0,0) (a9 (by simp only[vq,seval,bj];try trivial)) ⟨Nat.zero_le _,by rw[List.drop_zero,zr];simp,sm,sm⟩ ?_;rintro⟨i,n⟩ ⟨h1,h2,h3,h4⟩;dsimp only at h1 h2 h3 h4;simp only[vq,seval,bj];refine aZ (fun hc=>?_) (fun hc=>?_)
 ·simp only[aj]at hc;obtain⟨v,hx⟩:=bh (l:=ku p) (i:=i) om;rw[bt hx,List.map_cons,List.sum_cons]at h2;obtain⟨g1,g2,x,g3,g4,g5,g6⟩:=Jx (af hx);simp only[vq,seval,cz];refine⟨om,om,bg hx ?_⟩;simp only[vq,seval];simp only[vq,seval,iD,cz];refine⟨om,om,bg g3 ?_⟩;simp only[vq,seval,Vr.d];refine bL (i+1,n+x.w) (by dsimp only;omega) (a9 ?_) ⟨by dsimp only;omega,by dsimp only;rw[g4]at h2;omega,by dsimp only;omega,by dsimp only;omega⟩;simp only[vq,seval,cz];rw[a8 om om,a8 om om];trivial
 ·simp only[ak]at hc;rw[b4 om,List.map_nil,List.sum_nil,Int.add_zero]at h2;rw[<-h2];simp only[vq,seval]
end Go.Proofs.Tp
