/- Proved: contracts of functions that the laws of Top reach, and plain facts for them. Conditions: those that each lemma states. -/
import Derived.Test.YtmhkppbollghoaaGreatDoorL1
import Derived.Test.YtmhkppbollghoaaGreatDoorXk
import Derived.Test.YtmhkppbollghoaaGreatDoorXj
import Derived.LaidMore
import Derived.MakeChecks
import Derived.FnData
import Derived.Deep.Slices
set_option linter.unusedSectionVars false
set_option linter.unusedSimpArgs false
set_option linter.unusedVariables false
namespace Go.Proofs.Tp
open Go.Vx
theorem NF:reachBytes=140737488351232:=rfl
theorem QA:maxLen=9223372036854775807:=rfl
theorem O9:Tryz.prog.bytesOf 48=56:=by kernel_rfl
theorem I0:Tryz.prog.cellsOf 48=4:=by kernel_rfl
theorem Ni:Tryz.prog.cellsOf 70=4:=by kernel_rfl
theorem Pg:Tryz.prog.cellsOf 82=2:=by kernel_rfl
theorem MC:Tryz.prog.cellsOf 125=4:=by kernel_rfl
theorem OH:Tryz.prog.cellsOf 44=1:=by kernel_rfl
theorem PV:Tryz.prog.cellsOf 3=1:=by kernel_rfl
theorem zO{α:Type}{f:α->List D}{ok:α->Prop}:∀{es:List (List D)},(∀x∈es,∃a,x=f a/\ok a)->∃l:List α,es=l.map f/\∀a∈l,ok a
 |[],_=>⟨[],rfl,sm⟩
 |x::es,h=>by obtain⟨a,rfl,ha⟩:=h x sm;obtain⟨l,rfl,hl⟩:=zO (es:=es) fun y hy=>h y (by simp[hy]);exact⟨a::l,rfl,fun b hb=>by rcases aP.1 hb with rfl|hb;exact ha;exact hl b hb⟩
theorem BL{l:List Ex}(h:∀e∈l,sr e):∀x∈Ex.bX l,CD x:=by
 induction l with
 |nil=>intro x hx;cases hx
 |cons e l ih=>
  intro x hx;rw[Ex.bX]at hx;rcases aU.1 hx with hx|hx
  ·exact h e sm x hx
  ·exact ih (fun y hy=>h y (by simp[hy])) x hx
theorem KQ{P:Program}{n:Nat}{t e:TypeId}{xs:List D}(ht:P.underlying t=some (.slice e))(h:TyR P (n+1) t xs):∃es,xs=[.sl (P.cellsOf e) es]/\es.length*P.bytesOf e<=reachBytes/\∀x∈es,TyR P n e x:=by simp only[TyR,ht]at h;obtain⟨es,rfl,hl,hes⟩:=h;exact⟨es,rfl,hl,fun x hx=>(hes x hx).2⟩
set_option maxRecDepth 100000 in
theorem IY:∀(n:Nat) (xs:List D),TyR Tryz.prog n 48 xs->∃e:Ex,xs=e.d/\sr e:=by
 intro n;induction n using Nat.strongRecOn with
 |_ n ih=>
  intro xs h;cases n with
  |zero=>exact h.elim
  |succ n=>
   simp only[TyR,Tryz.underlying48]at h;obtain⟨yss,h1,h2,rfl⟩:=h;obtain⟨a,b,c,d,rfl⟩:∃a b c d,yss=[a,b,c,d]:=by
    match yss,h1 with
    |[a,b,c,d],_=>exact⟨a,b,c,d,rfl⟩
   obtain⟨op,rfl,_⟩:=tr_int Tryz.underlying3 (h2 0 _ a rfl rfl).2;obtain⟨k,rfl,_⟩:=tr_int Tryz.underlying3 (h2 1 _ b rfl rfl).2;obtain⟨s,rfl,hs⟩:=DA Tryz.underlying9 (h2 2 _ c rfl rfl).2;have hd:=(h2 3 _ d rfl rfl).2;clear h1 h2;cases n with
   |zero=>exact hd.elim
   |succ m=>
    have hd:=KQ Tryz.underlying23 hd;rw[O9,I0]at hd;obtain⟨es,rfl,hl,hes⟩:=hd;obtain⟨l,rfl,hl2⟩:=zO (es:=es) (f:=Ex.d) (ok:=sr) fun x hx=>ih m om x (hes x hx);rw[an]at hl;have hr:=NF;have hx:=QA;rw[hr]at hl hs;refine⟨.mk op k s l,by rw[Ex.jB];rfl,fun x hx=>?_⟩;rw[Ex.bT]at hx;rcases aP.1 hx with rfl|hx
    ·exact⟨by simp only[Ex.args];omega,by simp only[Ex.nm];omega⟩
    ·exact BL hl2 x hx
theorem Nl{n:Nat}{ys:List D}(h:TyR Tryz.prog n 70 ys):∃x:Vr,ys=x.d/\x.nm.length+3<=maxLen:=by obtain⟨m,a,b,c,d,rfl,h1,h2,h3,h4⟩:=sg Tryz.underlying70 h;obtain⟨s,rfl,hs⟩:=DA Tryz.underlying9 h1;obtain⟨w,rfl,_⟩:=tr_int Tryz.underlying3 h2;obtain⟨k,rfl,_⟩:=tr_int Tryz.underlying3 h3;obtain⟨v,rfl,_⟩:=tr_int Tryz.underlying3 h4;have hr:=NF;have hx:=QA;rw[hr]at hs;exact⟨⟨s,w,k,v⟩,rfl,by simp only;omega⟩
theorem NH{n:Nat}{ys:List D}(h:TyR Tryz.prog n 125 ys):∃x:Wt,ys=x.d/\True:=by obtain⟨m,a,b,c,d,rfl,h1,h2,h3,h4⟩:=sg Tryz.underlying125 h;obtain⟨s,rfl,_⟩:=tr_int Tryz.underlying3 h1;obtain⟨w,rfl,_⟩:=tr_int Tryz.underlying3 h2;obtain⟨k,rfl,_⟩:=tr_int Tryz.underlying3 h3;obtain⟨v,rfl⟩:=tr_bool Tryz.underlying4 h4;exact⟨⟨s,w,k,v⟩,rfl,trivial⟩
theorem OW{n:Nat}{ys:List D}(h:TyR Tryz.prog n 82 ys):∃x:Ds,ys=x.d/\True:=by obtain⟨m,a,b,rfl,h1,h2⟩:=yk Tryz.underlying82 h;obtain⟨s,rfl,_⟩:=tr_int Tryz.underlying3 h1;obtain⟨l,rfl,_,_⟩:=sC (f:=Wt.d) (ok:=fun _=>True) Tryz.underlying80 (fun n ys hy=>NH hy) h2;exact⟨⟨s,l⟩,by rw[MC];rfl,trivial⟩
theorem PK{n:Nat}{ys:List D}(h:TyR Tryz.prog n 44 ys):∃x:List Int,ys=gD x/\True:=by obtain⟨l,rfl,_,_⟩:=sC (f:=iD) (ok:=fun _=>True) Tryz.underlying44 (fun n ys hy=>by obtain⟨s,rfl,_⟩:=tr_int Tryz.underlying3 hy;exact⟨s,rfl,trivial⟩) h;exact⟨l,by rw[PV];rfl,trivial⟩
theorem yg{P:Program}{n:Nat}{t:TypeId}{xs:List D}{f0 f1 f2 f3 f4:Field}(ht:P.underlying t=some (.struct #[f0,f1,f2,f3,f4]))(h:TyR P n t xs):∃m a b c d e,xs=a++b++c++d++e/\TyR P m f0.type a/\TyR P m f1.type b/\TyR P m f2.type c/\TyR P m f3.type d/\TyR P m f4.type e:=by
 obtain⟨m,yss,h1,h2,rfl⟩:=pA ht h
 match yss,h1 with
 |[a,b,c,d,e],_=>exact⟨m,a,b,c,d,e,sm,(h2 0 f0 a rfl rfl).2,(h2 1 f1 b rfl rfl).2,(h2 2 f2 c rfl rfl).2,(h2 3 f3 d rfl rfl).2,(h2 4 f4 e rfl rfl).2⟩
theorem tr_pr{n:Nat}{ys:List D}(h:TyR Tryz.prog n 27 ys):∃p:Pr,ys=p.d/\Jb p:=by
 obtain⟨m,a,b,c,d,e,rfl,h1,h2,h3,h4,h5⟩:=yg Tryz.underlying27 h;obtain⟨vs,rfl,_,k1⟩:=sC (f:=Vr.d) (ok:=fun x=>x.nm.length+3<=maxLen) Tryz.underlying22 (fun n ys hy=>Nl hy) h1;obtain⟨hs,rfl,_,k2⟩:=sC (f:=Ex.d) (ok:=sr) Tryz.underlying23 (fun n ys hy=>IY n ys hy) h2;obtain⟨ss,rfl,_,k3⟩:=sC (f:=Ex.d) (ok:=sr) Tryz.underlying23 (fun n ys hy=>IY n ys hy) h3;obtain⟨ds,rfl,_,_⟩:=sC (f:=Ds.d) (ok:=fun _=>True) Tryz.underlying24 (fun n ys hy=>OW hy) h4;obtain⟨gs,rfl,_,_⟩:=sC (f:=gD) (ok:=fun _=>True) Tryz.underlying25 (fun n ys hy=>PK hy) h5;refine⟨⟨vs,hs,ss,ds,gs⟩,by rw[Ni,I0,Pg,OH];rfl,k1,fun e he=>?_⟩;rcases aU.1 he with h|h
 ·exact k2 e h
 ·exact k3 e h
theorem w3(p:Pr)(h:Jb p):CallP Tryz.prog 3 [.agg (p.d.map .d)] (.d (.bool true)):=t3 p h
theorem w4(p:Pr)(k:Int)(h:Jb p)(hk:(Lit.int .u8 k).wf=true):CallP Tryz.prog 4 [.agg (p.d.map .d),.d (.int .u8 k)] (.d (.bool true)):=by
 have:0<=k/\k<=255:=by simp only[Lit.wf,av,aj]at hk;have h1:IntKind.u8.min=0:=rfl;have h2:IntKind.u8.max=255:=rfl;omega
 obtain⟨n,rfl⟩:=Int.eq_ofNat_of_zero_le this.1;exact t4 p h n om
end Go.Proofs.Tp
namespace Go.Vx
open Go.ChangeShapes Go.WideShapes Go.ChangeAt Go.RowKit Go.WideElems Go.Deep
theorem gw_laid4{P:Program}{W:World}{n1 n2 n3 nm:String}{t s:TypeId}{d1 d2 d3:DataW Unit}(hh:([(n1,d1),(n2,d2),(n3,d3),(nm,.slice (xy.map fun b=>.lit (.string b)) [])].all fun x:String×DataW Unit=>x.2.handleName?.isNone)=true)(hl:laidMetH P [(n1,d1),(n2,d2),(n3,d3),(nm,.slice (xy.map fun b=>.lit (.string b)) [])] W)(hg:P.globalNamed nm=some 0) (ht:(P.globals[0]?).map (·.type)=some t) (hu:P.underlying t=some (.slice s)) (hs:P.underlying s=some .string) (hc:P.cellsOf s=1):GW (fun b=>b<W.heap.size) W:=by
 rw[MakeChecks.laidMetH_plain _ _ _ hh]at hl;obtain⟨_,⟨_,_,_,_,_,_,_,_,_,_,⟨_,_,_,_,_,_,_,_,_,_,⟨_,_,_,_,_,_,_,_,_,_,⟨g,t',cs,fuel,p,q,hg',ht',hv,hd,_,_⟩,_⟩,_⟩,_⟩,_,_⟩:=hl;obtain rfl:=Option.some.inj (hg.symm.trans hg');obtain rfl:=Option.some.inj (ht.symm.trans ht');rcases open_slice1 hu hc hd with⟨_,hx⟩|⟨a,len,cap,m,n,V,Dd,Pl,hcs,_,hle,_,hm,hx,hel⟩
 ·simp at hx
 have hcell:W.cell? ⟨0,0,none⟩=some (.slice (some a) len cap):=by
  have:=World.var?_cell hg hv 0;rw[this];have:cs= #[.slice (some a) len cap]:=by obtain⟨l⟩:=cs;simp at hcs;subst hcs;rfl
  rw[this];rfl
 simp only[Prod.mk.injEq,DataW.slice.injEq]at hx;have hD:=hx.1.1;have hlen:len=xy.length:=by have:=congrArg List.length hD;simpa using this.symm
 have hml:len<=m:=by rw[hm];split<;>omega
 have key:∀(i:Nat) (b:List UInt8),xy[i]? =some b->W.cell? (a.add i)=some (.string ⟨b.toArray⟩):=fun i b hb=>by
  have hi:i<len:=by rw[hlen];exact(ad.1 hb).1
  obtain⟨h1,h2⟩:=hel i om;obtain⟨x,hx1,hx2,_⟩:=DataW.trod_string hs h2;simp at hx1;rw[h1,hx1];have h3:=congrArg (fun l=>l[i]?) hD;simp only[ar,List.getElem?_range hi,hb,Option.map_some,Option.some.injEq]at h3;have h4:=(Prod.mk.inj hx2).1;rw[<-h3]at h4;injection h4 with h4;injection h4 with h4
  rw[h4]
 have h0:=key 0 _ rfl;obtain⟨hb,hsp⟩:=lu h0;have hb':a.block<W.heap.size/\a.spot=none:=by
  unfold Addr.add at hb hsp;split at hb
  ·rename_i hh;simp_all
  ·simp_all
 have hadd:=DS hb'.2;have ha:a=⟨a.block,a.off,none⟩:=by cases a;simp_all
 have hel2:∀(i:Nat) (e:List D) (j:Nat) (v:D),(xy.map fun s=>[D.str s])[i]? =some e->e[j]? =some v->∃b,xy[i]? =some b/\j=0/\v=.str b:=fun i e j v h1 h2=>by
  rw[ar]at h1;obtain⟨b,h3,rfl⟩:=aa.1 h1;cases j with
  |zero=>simp at h2;exact⟨b,h3,rfl,h2.symm⟩
  |succ j=>simp at h2
 refine dV.ptr [M0] 0 0 (fun _=>.slice (some a) len cap) (lu hcell).1 (fun j v h=>?_) (fun j v h=>?_)
 ·cases j with
  |zero=>exact hcell
  |succ j=>simp at h
 ·cases j with
  |succ j=>simp at h
  |zero=>
   simp at h;subst h;have hh:=dV.sl (I:=fun b=>b<W.heap.size) (w:=W) 1 (xy.map fun s=>[D.str s]) a.block a.off cap (fun i _=>match xy[i]? with|some b=>.string ⟨b.toArray⟩|none=>.nilIface) (by simp only[an];omega) hb'.1 (fun e he=>by obtain⟨b,_,rfl⟩:=aw.1 he;rfl) (fun i e j v h1 h2=>by obtain⟨b,h3,rfl,rfl⟩:=hel2 i e j v h1 h2;have:=key i b h3;rw[hadd]at this;simp only[Nat.mul_one,Nat.add_zero,h3];exact this)
    (fun i e j v h1 h2=>by obtain⟨b,h3,rfl,rfl⟩:=hel2 i e j v h1 h2;simp only[h3];exact .str b)
   rw[an,<-hlen,<-ha]at hh;exact hh
end Go.Vx
