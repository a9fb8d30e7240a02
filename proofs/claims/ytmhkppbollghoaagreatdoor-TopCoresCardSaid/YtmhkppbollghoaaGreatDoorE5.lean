/- Proved: contracts of functions that the laws of Top reach, and plain facts for them. Conditions: those that each lemma states. -/
import Derived.Test.YtmhkppbollghoaaGreatDoorE1
set_option linter.unusedSectionVars false
set_option linter.unusedSimpArgs false
set_option linter.unusedVariables false
namespace Go.Proofs.Tp
open Go.Vx
theorem t238(op:Int):CallP Tryz.prog 238 [.d (.int .i64 op)] (.d (.bool (l7 op))):=by refine cc238.go ac238 rfl ?_;unfold l7;simp only[vq,seval,ac238];rcases CR op with⟨e1,e2,e3,e4⟩|⟨e1,e2,e3,e4⟩|⟨e1,e2,e3,e4⟩|⟨e1,e2,e3,e4⟩|⟨e1,e2,e3,e4⟩<;>(simp only[vq,seval,e1,e2,e3,e4];try rfl)
set_option maxHeartbeats 1000000 in
theorem t213(x:Ex)(hx:CD x):CallP Tryz.prog 213 [.agg (x.d.map .d)] (.d (.int .i64 (ei x))):=by
 have hm:=hm;have hl:=hx.1;rw[x.jB];refine cc213.go ac213 rfl ?_;simp only[vq,seval,ah,bS,ac213,List.map_cons,List.map_nil];by_cases h1:x.op<1
 ·have e:ei x=1:=by unfold ei;rw[if_pos om]
  simp only[vq,seval,ah,bS,dt h1,e]
 by_cases h2:25<x.op
 ·have e:ei x=1:=by unfold ei;rw[if_pos om]
  simp only[vq,seval,ah,bS,df h1,dt h2,e]
 have e0:ei x=if sZ x=true then 1 else if sG x=true then 1 else if vg x=true then 7 else 0:=by unfold ei;rw[if_neg om]
 simp only[sZ,sG,vg]at e0;rcases CR x.op with⟨e1,e2,e3,e4⟩|⟨e1,e2,e3,e4⟩|⟨e1,e2,e3,e4⟩|⟨e1,e2,e3,e4⟩|⟨e1,e2,e3,e4⟩
 ·simp only[e1,e2,e3,e4,bS]at e0;have nS:l7 x.op=false:=by rw[l7,e2,e3,e4];rfl
  simp only[nS,bS]at e0;simp only[vq,seval,ah,bS,e1,e2,e3,e4,df h1,df h2];by_cases h3:x.n<0
  ·simp only[dt h3,bS]at e0;simp only[vq,seval,ah,bS,e1,e2,e3,e4,dt h3,e0]
  by_cases h4:65535<x.n
  ·simp only[df h3,dt h4,bS]at e0;simp only[vq,seval,ah,bS,e1,e2,e3,e4,df h3,dt h4,e0]
  simp only[vq,seval,ah,bS,e1,e2,e3,e4,df h3,df h4];simp only[df h3,df h4,bS]at e0;by_cases h5:x.n=0
  ·simp only[vq,seval,ah,bS,e1,e2,e3,e4,dt h5];by_cases h5:x.nm=[]
   ·simp only[dt h5,bS]at e0;simp only[vq,seval,ah,bS,e1,e2,e3,e4,dt h5];have h23:¬x.op=23:=by simp only[aj]at e1;omega
    rw[iH,if_neg h23]at e0;simp only[vq,seval,ah,bS,e1,e2,e3,e4,df h23];refine aW rfl (t239 x.op) ?_;simp only[vq,seval];by_cases h6:(x.args.length:Int)=qE x.op
    ·simp only[dt h6,bS]at e0;simp only[vq,seval,ah,bS,e1,e2,e3,e4,df h23,dt h6];refine aW rfl (t238 x.op) ?_;simp only[vq,seval];simp only[vq,seval,ah,bS,e1,e2,e3,e4,df h23,nS,e0]
    ·simp only[df h6,bS]at e0;simp only[vq,seval,ah,bS,e1,e2,e3,e4,df h23,df h6,e0]
   ·simp only[df h5,bS]at e0;simp only[vq,seval,ah,bS,e1,e2,e3,e4,df h5];refine aW rfl (t238 x.op) ?_;simp only[vq,seval];simp only[vq,seval,ah,bS,e1,e2,e3,e4,nS,e0]
  ·simp only[vq,seval,ah,bS,e1,e2,e3,e4,df h5];by_cases h5:x.nm=[]
   ·simp only[dt h5,bS]at e0;simp only[vq,seval,ah,bS,e1,e2,e3,e4,dt h5];have h23:¬x.op=23:=by simp only[aj]at e1;omega
    rw[iH,if_neg h23]at e0;simp only[vq,seval,ah,bS,e1,e2,e3,e4,df h23];refine aW rfl (t239 x.op) ?_;simp only[vq,seval];by_cases h6:(x.args.length:Int)=qE x.op
    ·simp only[dt h6,bS]at e0;simp only[vq,seval,ah,bS,e1,e2,e3,e4,df h23,dt h6];refine aW rfl (t238 x.op) ?_;simp only[vq,seval];simp only[vq,seval,ah,bS,e1,e2,e3,e4,df h23,nS,e0]
    ·simp only[df h6,bS]at e0;simp only[vq,seval,ah,bS,e1,e2,e3,e4,df h23,df h6,e0]
   ·simp only[df h5,bS]at e0;simp only[vq,seval,ah,bS,e1,e2,e3,e4,df h5];refine aW rfl (t238 x.op) ?_;simp only[vq,seval];simp only[vq,seval,ah,bS,e1,e2,e3,e4,nS,e0]
 ·simp only[e1,e2,e3,e4,bS]at e0;have nS:l7 x.op=true:=by rw[l7,e2,e3,e4];rfl
  simp only[nS,bS]at e0;simp only[vq,seval,ah,bS,e1,e2,e3,e4,df h1,df h2];by_cases h3:x.n<0
  ·simp only[df (show¬x.n=0 by omega),bS]at e0;simp only[vq,seval,ah,bS,e1,e2,e3,e4,dt h3,e0]
  by_cases h4:65535<x.n
  ·simp only[df (show¬x.n=0 by omega),bS]at e0;simp only[vq,seval,ah,bS,e1,e2,e3,e4,df h3,dt h4,e0]
  simp only[vq,seval,ah,bS,e1,e2,e3,e4,df h3,df h4];by_cases h50:x.n=0
  ·simp only[dt h50,bS]at e0;simp only[vq,seval,ah,bS,e1,e2,e3,e4,dt h50];by_cases h5:x.nm=[]
   ·skip
    simp only[vq,seval,ah,bS,e1,e2,e3,e4,dt h5];have h23:¬x.op=23:=by simp only[aj]at e2;omega
    rw[iH,if_neg h23]at e0;simp only[vq,seval,ah,bS,e1,e2,e3,e4,df h23];refine aW rfl (t239 x.op) ?_;simp only[vq,seval];by_cases h6:(x.args.length:Int)=qE x.op
    ·simp only[dt h6,bS]at e0;simp only[vq,seval,ah,bS,e1,e2,e3,e4,df h23,dt h6];refine aW rfl (t240 x.nm (by have:=hx.2;omega)) ?_;simp only[vq,seval];cases h7:ef x.nm with
     |false=>simp only[h7,bS]at e0;simp only[vq,seval,ah,bS,e1,e2,e3,e4,df h23,e0]
     |true=>simp only[h7,bS]at e0;simp only[vq,seval,ah,bS,e1,e2,e3,e4,df h23];refine aW rfl (t238 x.op) ?_;simp only[vq,seval];simp only[vq,seval,ah,bS,e1,e2,e3,e4,df h23,nS,e0]
    ·simp only[df h6,bS]at e0;simp only[vq,seval,ah,bS,e1,e2,e3,e4,df h23,df h6,e0]
   ·simp only[vq,seval,ah,bS,e1,e2,e3,e4,df h5];refine aW rfl (t238 x.op) ?_;simp only[vq,seval];simp only[vq,seval,ah,bS,e1,e2,e3,e4,nS];have h23:¬x.op=23:=by simp only[aj]at e2;omega
    rw[iH,if_neg h23]at e0;simp only[vq,seval,ah,bS,e1,e2,e3,e4,df h23];refine aW rfl (t239 x.op) ?_;simp only[vq,seval];by_cases h6:(x.args.length:Int)=qE x.op
    ·simp only[dt h6,bS]at e0;simp only[vq,seval,ah,bS,e1,e2,e3,e4,df h23,dt h6];refine aW rfl (t240 x.nm (by have:=hx.2;omega)) ?_;simp only[vq,seval];cases h7:ef x.nm with
     |false=>simp only[h7,bS]at e0;simp only[vq,seval,ah,bS,e1,e2,e3,e4,df h23,e0]
     |true=>simp only[h7,bS]at e0;simp only[vq,seval,ah,bS,e1,e2,e3,e4,df h23];refine aW rfl (t238 x.op) ?_;simp only[vq,seval];simp only[vq,seval,ah,bS,e1,e2,e3,e4,df h23,nS,e0]
    ·simp only[df h6,bS]at e0;simp only[vq,seval,ah,bS,e1,e2,e3,e4,df h23,df h6,e0]
  ·simp only[df h50,bS]at e0;simp only[vq,seval,ah,bS,e1,e2,e3,e4,df h50,e0]
 ·simp only[e1,e2,e3,e4,bS]at e0;have nS:l7 x.op=true:=by rw[l7,e2,e3,e4];rfl
  simp only[nS,bS]at e0;simp only[vq,seval,ah,bS,e1,e2,e3,e4,df h1,df h2];by_cases h3:x.n<0
  ·simp only[df (show¬x.n=0 by omega),bS]at e0;simp only[vq,seval,ah,bS,e1,e2,e3,e4,dt h3,e0]
  by_cases h4:65535<x.n
  ·simp only[df (show¬x.n=0 by omega),bS]at e0;simp only[vq,seval,ah,bS,e1,e2,e3,e4,df h3,dt h4,e0]
  simp only[vq,seval,ah,bS,e1,e2,e3,e4,df h3,df h4];by_cases h50:x.n=0
  ·simp only[dt h50,bS]at e0;simp only[vq,seval,ah,bS,e1,e2,e3,e4,dt h50];by_cases h5:x.nm=[]
   ·skip
    simp only[vq,seval,ah,bS,e1,e2,e3,e4,dt h5];have h23:¬x.op=23:=by simp only[aj]at e3;omega
    rw[iH,if_neg h23]at e0;simp only[vq,seval,ah,bS,e1,e2,e3,e4,df h23];refine aW rfl (t239 x.op) ?_;simp only[vq,seval];by_cases h6:(x.args.length:Int)=qE x.op
    ·simp only[dt h6,bS]at e0;simp only[vq,seval,ah,bS,e1,e2,e3,e4,df h23,dt h6];refine aW rfl (t238 x.op) ?_;simp only[vq,seval];simp only[vq,seval,ah,bS,e1,e2,e3,e4,df h23,nS];refine aW rfl (t172 x.nm (by have:=hx.2;omega)) ?_;simp only[vq,seval];cases h7:k6 x.nm with
     |false=>simp only[h7,bS]at e0;simp only[vq,seval,ah,bS,e1,e2,e3,e4,df h23,e0]
     |true=>simp only[h7,bS]at e0;simp only[vq,seval,ah,bS,e1,e2,e3,e4,df h23,e0]
    ·simp only[df h6,bS]at e0;simp only[vq,seval,ah,bS,e1,e2,e3,e4,df h23,df h6,e0]
   ·simp only[vq,seval,ah,bS,e1,e2,e3,e4,df h5];refine aW rfl (t238 x.op) ?_;simp only[vq,seval];simp only[vq,seval,ah,bS,e1,e2,e3,e4,nS];have h23:¬x.op=23:=by simp only[aj]at e3;omega
    rw[iH,if_neg h23]at e0;simp only[vq,seval,ah,bS,e1,e2,e3,e4,df h23];refine aW rfl (t239 x.op) ?_;simp only[vq,seval];by_cases h6:(x.args.length:Int)=qE x.op
    ·simp only[dt h6,bS]at e0;simp only[vq,seval,ah,bS,e1,e2,e3,e4,df h23,dt h6];refine aW rfl (t238 x.op) ?_;simp only[vq,seval];simp only[vq,seval,ah,bS,e1,e2,e3,e4,df h23,nS];refine aW rfl (t172 x.nm (by have:=hx.2;omega)) ?_;simp only[vq,seval];cases h7:k6 x.nm with
     |false=>simp only[h7,bS]at e0;simp only[vq,seval,ah,bS,e1,e2,e3,e4,df h23,e0]
     |true=>simp only[h7,bS]at e0;simp only[vq,seval,ah,bS,e1,e2,e3,e4,df h23,e0]
    ·simp only[df h6,bS]at e0;simp only[vq,seval,ah,bS,e1,e2,e3,e4,df h23,df h6,e0]
  ·simp only[df h50,bS]at e0;simp only[vq,seval,ah,bS,e1,e2,e3,e4,df h50,e0]
 ·simp only[e1,e2,e3,e4,bS]at e0;have nS:l7 x.op=true:=by rw[l7,e2,e3,e4];rfl
  simp only[nS,bS]at e0;simp only[vq,seval,ah,bS,e1,e2,e3,e4,df h1,df h2];by_cases h3:x.n<0
  ·simp only[df (show¬x.n=0 by omega),bS]at e0;simp only[vq,seval,ah,bS,e1,e2,e3,e4,dt h3,e0]
  by_cases h4:65535<x.n
  ·simp only[df (show¬x.n=0 by omega),bS]at e0;simp only[vq,seval,ah,bS,e1,e2,e3,e4,df h3,dt h4,e0]
  simp only[vq,seval,ah,bS,e1,e2,e3,e4,df h3,df h4];by_cases h50:x.n=0
  ·simp only[dt h50,bS]at e0;simp only[vq,seval,ah,bS,e1,e2,e3,e4,dt h50];by_cases h5:x.nm=[]
   ·skip
    simp only[vq,seval,ah,bS,e1,e2,e3,e4,dt h5];have h23:¬x.op=23:=by simp only[aj]at e4;omega
    rw[iH,if_neg h23]at e0;simp only[vq,seval,ah,bS,e1,e2,e3,e4,df h23];refine aW rfl (t239 x.op) ?_;simp only[vq,seval];by_cases h6:(x.args.length:Int)=qE x.op
    ·simp only[dt h6,bS]at e0;simp only[vq,seval,ah,bS,e1,e2,e3,e4,df h23,dt h6];refine aW rfl (t238 x.op) ?_;simp only[vq,seval];simp only[vq,seval,ah,bS,e1,e2,e3,e4,df h23,nS];refine aW rfl (t172 x.nm (by have:=hx.2;omega)) ?_;simp only[vq,seval];cases h7:k6 x.nm with
     |false=>simp only[h7,bS]at e0;simp only[vq,seval,ah,bS,e1,e2,e3,e4,df h23,e0]
     |true=>simp only[h7,bS]at e0;simp only[vq,seval,ah,bS,e1,e2,e3,e4,df h23,e0]
    ·simp only[df h6,bS]at e0;simp only[vq,seval,ah,bS,e1,e2,e3,e4,df h23,df h6,e0]
   ·simp only[vq,seval,ah,bS,e1,e2,e3,e4,df h5];refine aW rfl (t238 x.op) ?_;simp only[vq,seval];simp only[vq,seval,ah,bS,e1,e2,e3,e4,nS];have h23:¬x.op=23:=by simp only[aj]at e4;omega
    rw[iH,if_neg h23]at e0;simp only[vq,seval,ah,bS,e1,e2,e3,e4,df h23];refine aW rfl (t239 x.op) ?_;simp only[vq,seval];by_cases h6:(x.args.length:Int)=qE x.op
    ·simp only[dt h6,bS]at e0;simp only[vq,seval,ah,bS,e1,e2,e3,e4,df h23,dt h6];refine aW rfl (t238 x.op) ?_;simp only[vq,seval];simp only[vq,seval,ah,bS,e1,e2,e3,e4,df h23,nS];refine aW rfl (t172 x.nm (by have:=hx.2;omega)) ?_;simp only[vq,seval];cases h7:k6 x.nm with
     |false=>simp only[h7,bS]at e0;simp only[vq,seval,ah,bS,e1,e2,e3,e4,df h23,e0]
     |true=>simp only[h7,bS]at e0;simp only[vq,seval,ah,bS,e1,e2,e3,e4,df h23,e0]
    ·simp only[df h6,bS]at e0;simp only[vq,seval,ah,bS,e1,e2,e3,e4,df h23,df h6,e0]
  ·simp only[df h50,bS]at e0;simp only[vq,seval,ah,bS,e1,e2,e3,e4,df h50,e0]
 ·simp only[e1,e2,e3,e4,bS]at e0;have nS:l7 x.op=false:=by rw[l7,e2,e3,e4];rfl
  simp only[nS,bS]at e0;simp only[vq,seval,ah,bS,e1,e2,e3,e4,df h1,df h2];by_cases h3:x.n<0
  ·simp only[df (show¬x.n=0 by omega),bS]at e0;simp only[vq,seval,ah,bS,e1,e2,e3,e4,dt h3,e0]
  by_cases h4:65535<x.n
  ·simp only[df (show¬x.n=0 by omega),bS]at e0;simp only[vq,seval,ah,bS,e1,e2,e3,e4,df h3,dt h4,e0]
  simp only[vq,seval,ah,bS,e1,e2,e3,e4,df h3,df h4];by_cases h50:x.n=0
  ·simp only[dt h50,bS]at e0;simp only[vq,seval,ah,bS,e1,e2,e3,e4,dt h50];by_cases h5:x.nm=[]
   ·simp only[dt h5,bS]at e0;simp only[vq,seval,ah,bS,e1,e2,e3,e4,dt h5];by_cases h23:x.op=23
    ·rw[iH,if_pos h23]at e0;simp only[vq,seval,ah,bS,e1,e2,e3,e4,dt h23,lD];by_cases h8:(x.args.length:Int)<3
     ·simp only[df (show¬3<=(x.args.length:Int) by omega),bS]at e0;simp only[vq,seval,ah,bS,e1,e2,e3,e4,dt h23,lD,dt h8,e0]
     by_cases h9:33<(x.args.length:Int)
     ·simp only[df (show¬(x.args.length:Int)<=33 by omega),bS]at e0;simp only[vq,seval,ah,bS,e1,e2,e3,e4,dt h23,lD,df h8,dt h9,e0]
     simp only[dt (show 3<=(x.args.length:Int) by omega),dt (show(x.args.length:Int)<=33 by omega),bS]at e0;by_cases h10:((x.args.length%2:Nat):Int)=0
     ·simp only[df (show¬((x.args.length%2:Nat):Int)=1 by omega),bS]at e0;simp only[vq,seval,ah,bS,e1,e2,e3,e4,dt h23,lD,df h8,df h9,dt h10,e0]
     simp only[dt (show((x.args.length%2:Nat):Int)=1 by omega),bS]at e0;simp only[vq,seval,ah,bS,e1,e2,e3,e4,dt h23,lD,df h8,df h9,df h10];refine aW rfl (t238 x.op) ?_;simp only[vq,seval];simp only[vq,seval,ah,bS,e1,e2,e3,e4,dt h23,lD,nS,e0]
    ·simp only[vq,seval,ah,bS,e1,e2,e3,e4,df h23];rw[iH,if_neg h23]at e0;refine aW rfl (t239 x.op) ?_;simp only[vq,seval];by_cases h6:(x.args.length:Int)=qE x.op
     ·simp only[dt h6,bS]at e0;simp only[vq,seval,ah,bS,e1,e2,e3,e4,df h23,dt h6];refine aW rfl (t238 x.op) ?_;simp only[vq,seval];simp only[vq,seval,ah,bS,e1,e2,e3,e4,df h23,nS,e0]
     ·simp only[df h6,bS]at e0;simp only[vq,seval,ah,bS,e1,e2,e3,e4,df h23,df h6,e0]
   ·simp only[df h5,bS]at e0;simp only[vq,seval,ah,bS,e1,e2,e3,e4,df h5];refine aW rfl (t238 x.op) ?_;simp only[vq,seval];simp only[vq,seval,ah,bS,e1,e2,e3,e4,nS,e0]
  ·simp only[df h50,bS]at e0;simp only[vq,seval,ah,bS,e1,e2,e3,e4,df h50,e0]
theorem PG(x:Ex):List.take 4 (List.map V.d x.d)=List.map V.d x.d:=al (by rw[an,x.cN];exact aq _)
theorem Qi(x:Ex):List.take 4 x.d=x.d:=al (by rw[x.cN];exact aq _)
theorem Pt(l:List D):(List.map V.d l).all fh=true:=by simp[fh]
theorem p9(l:List D):([V.agg (l.map .d)]:List V).all kv=true:=by simp[kv,lY,gn]
theorem dI:(∀x:Ex,x.d.length=4)/\(∀x:Ex,List.take 4 (List.map V.d x.d)=List.map V.d x.d)/\(∀x:Ex,List.take 4 x.d=x.d)/\(∀l:List D,(List.map V.d l).all fh=true):=⟨Ex.cN,PG,Qi,Pt⟩
theorem t152(s:Int)(x:Ex)(hx:CD x)(r0:bd)(T:Go.Vx.Rows):dn Tryz.prog 152 [.agg (x.d.map .d),.aY 1 1 1 0 0] (r0:: .live 1 [[.d (.int .i64 s)]]::T) (fun v R'=>v=.d (.bool (decide (ei x=0)))/\R'=r0:: .live 1 [[.d (.int .i64 (ei x))]]::(T++[.live 4 [x.d.map .d]])):=by have q0:∀B:Go.Vx.Rows,Go.Vx.rowAt (T++B) T.length=Go.Vx.rowAt B 0:=fun B=>cd om;have q1:∀(B:Go.Vx.Rows) (r:bd),setAt (T++B) T.length r=T++setAt B 0 r:=fun B r=>cf om;refine cc152.gi ac152 rfl ?_;simp only[vq,seval,ac152,q0,q1,dI];refine aW (p9 _) (t153 x hx) ?_;simp only[vq,seval]
theorem t202(s:Int)(x:Ex)(r0:bd)(T:Go.Vx.Rows):dn Tryz.prog 202 [.agg (x.d.map .d),.aY 1 1 1 0 0] (r0:: .live 1 [[.d (.int .i64 s)]]::T) (fun v R'=>v=.d (.bool true)/\R'=r0:: .live 1 [[.d (.int .i64 (IntKind.i64.wrap (s+1)))]]::(T++[.live 4 [x.d.map .d]])):=by have q0:∀B:Go.Vx.Rows,Go.Vx.rowAt (T++B) T.length=Go.Vx.rowAt B 0:=fun B=>cd om;have q1:∀(B:Go.Vx.Rows) (r:bd),setAt (T++B) T.length r=T++setAt B 0 r:=fun B r=>cf om;refine cc202.gi ac202 rfl ?_;simp only[vq,seval,ac202,q0,q1,dI]
theorem JJ{r0 r1 r1':bd}{T B:Go.Vx.Rows}(h:¬tI r1):kE (r0::r1::T) (r0::r1'::(T++B)):=fun g r hr hb=>by
 match g with
 |0=>exact hr
 |1=>simp at hr;subst hr;exact(h hb).elim
 |g+2=>exact iy hr
def Ap(l:List Ex)(s:Nat):Bool×Nat:=gU (fun s _=>(true,s+1)) l s
theorem CL(l:List Ex)(s:Nat):Ap l s=(true,s+l.length):=by
 induction l generalizing s with
 |nil=>simp[Ap,gU]
 |cons x l ih=>rw[Ap,gU,if_pos rfl];exact(ih _).trans (by rw[List.length_cons];congr 1;omega)
def nA(e:Ex):Prop:=e.nodes.length<=4294967296/\∀x∈e.nodes,CD x
theorem t155(e:Ex)(he:nA e):CallP Tryz.prog 155 [.agg (e.d.map .d)] (.d (.int .i64 e.nodes.length)):=by have hn:=he.1;refine cc155.go (AC.at (AC.look [false,false,true]) [1,1,0] ac155) rfl ?_;simp only[vq,seval,ac155,AC.at,AC.look,dI];refine dh (b6 (yN (fun k s R=>(0:Nat)<=s/\s+k<=4294967296/\∃T,R=.live 4 [e.d.map .d]:: .live 1 [[.d (.int .i64 s)]]::T) (fun s _=>(true,s+1)) CD 202 [] [.aY 1 1 1 0 0] (fun k s R B h=>⟨h.1,h.2.1,by obtain⟨T,rfl⟩:=h.2.2;exact⟨T++B,rfl⟩⟩) (fun k s R h=>⟨h.1,by have:=h.2.1;omega,h.2.2⟩) (fun k s x R h hx=>by obtain⟨h0,h1,T,rfl⟩:=h;refine b6 (t202 s x _ T) ?_;rintro v R' ⟨rfl,rfl⟩;rw[a8 om om];exact⟨rfl,⟨om,by simp only;omega,_,rfl⟩,JJ (by simp[tI])⟩) (fun x hx=>hx.1) e he.2 0 0 _ ⟨om,om,_,rfl⟩) ?_);rintro _ R' ⟨⟨h0,h1,T,rfl⟩,-⟩;simp only[vq,seval];rw[show gU (fun(s:Nat) (_:Ex)=>(true,s+1)) e.nodes 0=Ap e.nodes 0 from rfl,CL,Nat.zero_add]
mutual
def Ex.dep:Ex->Nat
 | .mk _ _ _ l=>Ex.gS l+1
def Ex.gS:List Ex->Nat
 |[]=>0
 |x::l=>max x.dep (Ex.gS l)
end
theorem Ex.jL(x:Ex):x.dep=Ex.gS x.args+1:=by cases x;rfl
theorem yO:∀(m:Nat) (e:Ex),e.nodes.length<=m->e.dep<=e.nodes.length
 |0,e,h=>by have:=cZ e;omega
 |m+1,e,h=>by
  rw[Ex.bT,List.length_cons]at h|-;have:∀l:List Ex,(Ex.bX l).length<=m->Ex.gS l<=(Ex.bX l).length:=fun l=>by
   induction l with
   |nil=>intro _;exact aq _
   |cons x l ih=>intro h;rw[Ex.bX,az]at h|-;have h1:=yO m x om;have h2:=ih om;rw[Ex.gS];omega
  have:=this e.args om;rw[Ex.jL];omega
theorem t154:∀(m:Nat) (e:Ex),e.nodes.length<=m->nA e->CallP Tryz.prog 154 [.agg (e.d.map .d)] (.d (.int .i64 e.dep))
 |0,e,h,_=>by have:=cZ e;omega
 |m+1,e,hle,he=>by
  have hn:=he.1;have hm:=hm;have hA:=(he.2 e (by rw[Ex.bT];simp)).1;have hd:=yO _ e (aq _);have hsub:∀x∈e.args,x.nodes.length<=m/\nA x:=fun x hx=>by have:=eU hx;rw[Ex.bT,List.length_cons]at hle hn;exact⟨om,om,fun y hy=>he.2 y (by rw[Ex.bT];exact List.mem_cons_of_mem _ (eV hx hy))⟩
  refine cc154.go ac154 rfl ?_;simp only[vq,seval,ac154,dI];rw[e.jB];simp only[vq,seval,List.map_cons,List.map_nil];refine bb (fun t:Nat×Nat=>⟨cC 20 [(3,.d (.int .i64 t.2)),(7,.d (.sl 4 (e.args.map Ex.d))),(8,.d (.int .i64 e.args.length)),(9,.d (.int .i64 t.1))],[]⟩) (fun t=>t.1<=e.args.length/\max t.2 (Ex.gS (e.args.drop t.1))+1=e.dep) (fun t=>e.args.length-t.1) (0,0) (eN 0 om (by simp only[vq,seval]) rfl trivial) ⟨om,by simp[Ex.jL]⟩ ?_;rintro⟨i,d⟩ ⟨h1,h2⟩;dsimp only at h1 h2;simp only[vq,seval];refine aZ (fun hc=>?_) (fun hc=>?_)
  ·simp only[aj]at hc;obtain⟨x,hx⟩:=bh (l:=e.args) (i:=i) om;have hmem:=af hx;rw[bt hx,Ex.gS]at h2;simp only[vq,seval];refine⟨om,om,bg hx ?_⟩;simp only[vq,seval];simp only[vq,seval,dI];refine aW (p9 _) (t154 m x (hsub x hmem).1 (hsub x hmem).2) ?_;simp only[vq,seval];have:(if(d:Int)<(x.dep:Int)then(x.dep:Int)else(d:Int))=((max d x.dep:Nat):Int):=by split<;>omega
   rw[this];refine bL (i+1,max d x.dep) (by simp only;omega) (eN 0 om (by simp only[vq,seval];rw[a8 om om];trivial) rfl trivial) ⟨by simp only;omega,by simp only;omega⟩
  ·simp only[ak]at hc;rw[b4 om,Ex.gS]at h2;simp only[vq,seval];rw[a8 om om,show((d:Int)+1)=((e.dep:Nat):Int) by omega]
def vw(e:Ex):Int:=(gU (fun _ x=>(decide (ei x=0),ei x)) e.nodes 0).2
def lE(e:Ex):Int:=if vw e=0/\(24<e.dep\/400<e.nodes.length)then 2 else vw e
theorem t97(e:Ex)(he:nA e):CallP Tryz.prog 97 [.agg (e.d.map .d)] (.d (.int .i64 (lE e))):=by
 have hn:=he.1;refine cc97.go (AC.at (AC.look [false,false,true]) [1,1,0] ac97) rfl ?_;simp only[vq,seval,ac97,AC.at,AC.look,dI];refine dh (b6 (yN (fun _ s R=>∃T,R=.live 4 [e.d.map .d]:: .live 1 [[.d (.int .i64 s)]]::T) (fun _ x=>(decide (ei x=0),ei x)) CD 152 [] [.aY 1 1 1 0 0] (fun k s R B h=>by obtain⟨T,rfl⟩:=h;exact⟨T++B,rfl⟩) (fun k s R h=>h) (fun k s x R h hx=>by obtain⟨T,rfl⟩:=h;refine b6 (t152 s x hx _ T) ?_;rintro v R' ⟨rfl,rfl⟩;exact⟨rfl,⟨_,rfl⟩,JJ (by simp[tI])⟩) (fun x hx=>hx.1) e he.2 0 0 _ ⟨_,rfl⟩) ?_);rintro _ R' ⟨⟨T,rfl⟩,-⟩;rw[show(gU (fun(_:Int) x=>(decide (ei x=0),ei x)) e.nodes 0).2=vw e from rfl];simp only[vq,seval];unfold lE;by_cases h:vw e=0
 ·simp only[vq,seval,dt h,dI];refine aW (p9 _) (t154 _ e (aq _) he) ?_;simp only[vq,seval];by_cases h2:(24:Int)<e.dep
  ·rw[if_pos ⟨h,om⟩];simp only[vq,seval,dt h2]
  ·simp only[vq,seval,df h2,dI];refine aW (p9 _) (t155 e he) ?_;simp only[vq,seval];by_cases h3:(400:Int)<e.nodes.length
   ·rw[if_pos ⟨h,om⟩];simp only[vq,seval,dt h3]
   ·rw[if_neg om];simp only[vq,seval,df h3]
 ·rw[if_neg (fun x=>h x.1)];simp only[vq,seval,df h]
def Jq:List Int->Int->Nat->Int
 |[],_,_=> -1
 |x::l,n,k=>if n=x then k else Jq l n (k+1)
theorem JR(l:List Int)(n:Int)(k:Nat):decide (0<=Jq l n k)=l.contains n:=by
 induction l generalizing k with
 |nil=>rfl
 |cons x l ih=>
  rw[Jq,List.contains_cons];by_cases h:n=x
  ·rw[if_pos h];subst h;simp
  ·rw[if_neg h,ih];simp[h]
theorem t245(l:List Int)(n:Int)(hl:l.length<=maxLen):CallP Tryz.prog 245 [.d (.sl 1 (l.map iD)),.d (.int .i64 n)] (.d (.int .i64 (Jq l n 0))):=by
 have hm:=hm;refine cc245.go ac245 rfl ?_;simp only[vq,seval,ac245];refine bb (fun i:Nat=>⟨cC 19 [(0,.d (.sl 1 (l.map iD))),(1,.d (.int .i64 n)),(7,.d (.int .i64 l.length)),(8,.d (.int .i64 i))],[]⟩) (fun i=>i<=l.length/\Jq l n 0=Jq (l.drop i) n i) (fun i=>l.length-i) 0 (a9 vt) sm (fun i hi=>?_);obtain⟨h1,h2⟩:=hi;simp only[vq,seval];refine aZ (fun hc=>?_) (fun hc=>?_)
 ·simp only[aj]at hc;obtain⟨x,hx⟩:=bh (l:=l) (i:=i) om;rw[bt hx,Jq]at h2;simp only[vq,seval];refine⟨om,om,bg hx ?_⟩;simp only[vq,seval];simp only[vq,seval,iD];by_cases he:n=x
  ·rw[if_pos he]at h2;simp only[vq,seval,dt he,h2]
  ·rw[if_neg he]at h2;simp only[vq,seval,df he];refine bL (i+1) om (a9 ?_) ⟨om,h2⟩;simp only[vq,seval];rw[a8 om om];trivial
 ·simp only[ak]at hc;rw[b4 om,Jq]at h2;simp only[vq,seval,h2]
theorem t220(l:List Int)(n:Int)(hl:l.length<=maxLen):CallP Tryz.prog 220 [.d (.sl 1 (l.map iD)),.d (.int .i64 n)] (.d (.bool (l.contains n))):=by refine cc220.go ac220 rfl ?_;simp only[vq,seval,ac220];refine aW rfl (t245 l n hl) ?_;simp only[vq,seval];exact JR l n 0
def rS(l:List B):bd:=.live 1 ((l.map sD).map (·.map .d))
theorem QJ{R:Go.Vx.Rows}{h:Nat}{l:List B}(hr:R[h]? =some (rS l)):dN R (.cl 1 h l.length 0 l.length)/\dJ R (.cl 1 h l.length 0 l.length)=.d (.sl 1 (l.map sD)):=by
 refine⟨⟨om,_,hr,sm,fun e he v hv=>?_⟩,?_⟩
 ·obtain⟨y,hy,rfl⟩:=aw.1 he;obtain⟨s,_,rfl⟩:=aw.1 hy;simp[sD]at hv;subst hv;rfl
 ·simp only[dJ,eR,hr,rS,List.drop_zero];rw[al sm];simp[sD,sP]
def l0(ops:List Int)(l:List B)(x:Ex):List B:=if ops.contains x.op=true/\l.contains x.nm=false then l++[x.nm]else l
abbrev OE(r0:bd)(ops:List Int)(l:List B)(T:Go.Vx.Rows):Go.Vx.Rows:=r0:: .live 1 [[.d (.sl 1 (ops.map iD))]]:: .live 1 [[.cl 1 3 l.length 0 l.length]]::rS l::T
theorem t219(ops:List Int)(ho:ops.length<=maxLen)(l:List B)(hl:l.length<=4294967296)(x:Ex)(r0:bd)(T:Go.Vx.Rows):dn Tryz.prog 219 [.agg (x.d.map .d),.aY 1 1 1 0 0,.aY 1 2 1 0 0] (OE r0 ops l T) (fun v R'=>v=.d (.bool true)/\∃T',R'=OE r0 ops (l0 ops l x) (T++T')):=by
 have hm:=hm;have hmL:=dx;have q0:∀B:Go.Vx.Rows,Go.Vx.rowAt (T++B) T.length=Go.Vx.rowAt B 0:=fun B=>cd om;have q1:∀(B:Go.Vx.Rows) (r:bd),setAt (T++B) T.length r=T++setAt B 0 r:=fun B r=>cf om;refine cc219.gi ac219 rfl ?_;simp only[vq,seval,ac219,q0,q1,dI];rw[x.jB];simp only[vq,seval,q0,q1,List.map_cons,List.map_nil];refine aW rfl (t220 ops x.op ho) ?_;simp only[vq,seval];cases hc:ops.contains x.op with
 |false=>
  have ha:l0 ops l x=l:=by unfold l0;rw[hc,if_neg sm]
  simp only[vq,seval];rw[ha];exact⟨_,rfl⟩
 |true=>
  simp only[vq,seval,q0,q1];have hs:=QJ (R:=OE r0 ops l (T++[bd.live 4 [[V.d (D.int IntKind.i64 x.op),V.d (D.int IntKind.i64 x.n),V.d (D.str x.nm),V.d (D.sl 4 (List.map Ex.d x.args))]]])) (h:=3) (l:=l) rfl;refine fw (v:=.d (.bool (l.contains x.nm))) (fun v hv=>?_) rfl ?_ ?_
  ·simp only[List.nil_append,List.append_nil,aP,List.not_mem_nil,or_false]at hv;rcases hv with rfl|rfl
   ·exact hs.1
   ·rfl
  ·simp only[List.nil_append,List.append_nil,List.map_cons,List.map_nil,hs.2];exact t221 l x.nm om
  cases hn:l.contains x.nm with
  |true=>
   have ha:l0 ops l x=l:=by unfold l0;rw[hn,if_neg sm]
   simp only[vq,seval];rw[ha];exact⟨_,rfl⟩
  |false=>
   have ha:l0 ops l x=l++[x.nm]:=by unfold l0;rw[hc,hn,if_pos ⟨rfl,rfl⟩]
   rw[ha];have ap:∀B C:Go.Vx.Rows,T++B++C=T++(B++C):=fun B C=>List.append_assoc _ _ _;have q2:∀B:Go.Vx.Rows,Go.Vx.rowAt (T++B) (T.length+1)=Go.Vx.rowAt B 1:=fun B=>cd om;have q3:∀(B:Go.Vx.Rows) (r:bd),setAt (T++B) (T.length+1) r=T++setAt B 1 r:=fun B r=>cf om;have q4:∀B:Go.Vx.Rows,Go.Vx.rowAt (T++B) (T.length+2)=Go.Vx.rowAt B 2:=fun B=>cd om;have q5:∀(B:Go.Vx.Rows) (r:bd),setAt (T++B) (T.length+2) r=T++setAt B 2 r:=fun B r=>cf om;simp only[vq,seval,rS,ap,q0,q1,q2,q3,q4,q5];refine⟨by simp only[bM];omega,[.live 4 [[V.d (D.int IntKind.i64 x.op),V.d (D.int IntKind.i64 x.n),V.d (D.str x.nm),V.d (D.sl 4 (List.map Ex.d x.args))]],.live 1 [[.d (.str x.nm)]],.un],?_⟩;simp[OE,rS,sD]
def dT(ops:List Int)(e:Ex):List B:=e.nodes.foldl (l0 ops) []
theorem runN(ops:List Int)(l:List Ex)(s:List B):gU (fun s x=>(true,l0 ops s x)) l s=(true,l.foldl (l0 ops) s):=by
 induction l generalizing s with
 |nil=>rfl
 |cons x l ih=>rw[gU,if_pos rfl];exact ih _
theorem xa(ops:List Int)(l:List B)(x:Ex):(l0 ops l x).length<=l.length+1:=by unfold l0;split<;>simp
theorem t181(ops:List Int)(ho:ops.length<=maxLen)(e:Ex)(he:nA e):CallP Tryz.prog 181 [.agg (e.d.map .d),.d (.sl 1 (ops.map iD))] (.d (.sl 1 ((dT ops e).map sD))):=by
 have hn:=he.1;refine cc181.go (AC.at AC.wk [1,1,0] (AC.at (AC.look [false,false,true]) [1,1,0] ac181)) rfl ?_;simp only[vq,seval,ac181,AC.at,AC.look,dI];refine fu _ (yK 2 1 rfl) ?_;simp only[vq,seval,dI];refine dh (b6 (yN (fun k l R=>l.length+k<=4294967296/\∃T,R=OE (.live 4 [e.d.map .d]) ops l T) (fun s x=>(true,l0 ops s x)) CD 219 [] [.aY 1 1 1 0 0,.aY 1 2 1 0 0] (fun k s R B h=>⟨h.1,by obtain⟨T,rfl⟩:=h.2;exact⟨T++B,rfl⟩⟩) (fun k s R h=>⟨by have:=h.1;omega,h.2⟩) (fun k s x R h hx=>by
   obtain⟨h1,T,rfl⟩:=h;refine b6 (t219 ops ho s om x _ T) ?_;rintro v R' ⟨rfl,T',rfl⟩;have:=xa ops s x;refine⟨rfl,⟨by simp only;omega,_,rfl⟩,fun g r hr hb=>?_⟩
   match g with
   |0=>exact hr
   |1=>exact hr
   |2=>simp at hr;subst hr;exact hb.elim
   |3=>simp[rS]at hr;subst hr;unfold tI at hb;split at hb<;>simp_all
   |g+4=>exact iy (R:=T) hr) (fun x hx=>hx.1) e he.2 0 [] _ ⟨by simp;omega,[],rfl⟩) ?_)
 rintro _ R' ⟨⟨h0,T,rfl⟩,-⟩;rw[runN];simp only[vq,seval];exact da (es:=(dT ops e).map sD) rfl (by simp[dT]) om Rc (by rw[List.drop_zero,al (by simp[dT])])
theorem Ng(R:Go.Vx.Rows):eR R∘V.d=V.d:=funext fun _=>rfl
theorem t130(e:Ex)(he:nA e):CallP Tryz.prog 130 [.agg (e.d.map .d)] (.d (.sl 1 ((dT [3,24] e).map sD))):=by
 refine cc130.go ac130 rfl ?_;simp only[vq,seval,ac130,dI];refine uP (v:=.d (.sl 1 ((dT [3,24] e).map sD))) (fun v hv=>?_) ?_ ?_
 ·simp only[List.nil_append,List.append_nil,aP,List.not_mem_nil,or_false]at hv;rcases hv with rfl|rfl
  ·intro v hv;obtain⟨d,_,rfl⟩:=aw.1 hv;rfl
  ·exact⟨om,_,rfl,rfl,by simp[wD]⟩
 ·have:=t181 [3,24] dc e he;simpa[dJ,eR,sP,iD,Ng]using this
 simp only[vq,seval];exact .d _
theorem t132(e:Ex)(he:nA e):CallP Tryz.prog 132 [.agg (e.d.map .d)] (.d (.sl 1 ((dT [2] e).map sD))):=by
 refine cc132.go ac132 rfl ?_;simp only[vq,seval,ac132,dI];refine uP (v:=.d (.sl 1 ((dT [2] e).map sD))) (fun v hv=>?_) ?_ ?_
 ·simp only[List.nil_append,List.append_nil,aP,List.not_mem_nil,or_false]at hv;rcases hv with rfl|rfl
  ·intro v hv;obtain⟨d,_,rfl⟩:=aw.1 hv;rfl
  ·exact⟨om,_,rfl,rfl,by simp[wD]⟩
 ·have:=t181 [2] dc e he;simpa[dJ,eR,sP,iD,Ng]using this
 simp only[vq,seval];exact .d _
end Go.Proofs.Tp
