import Derived.Test.YtnahenbiipdlkaaGreatDoorCk2
import Derived.Test.YtnahenbiipdlkaaGreatDoorSv3
import Derived.Test.YtnahenbiipdlkaaGreatDoorTab2
section
namespace Go.Proofs
open Go Go.bg Go.cz
set_option maxRecDepth 100000
def oA:List (ar×aW)→Int
 |[]=>0
 |p::r=>if cu p.1=true∧p.2.kind≤3∧b1 p.2=0 then oA r else 3
noncomputable def k0 (l:List (ar×au)):Nat→Int→Int
 |0,_=>0
 |n+1,i=>if cu (I l i).1=true∧(0<i→Op.bytesLess (I l (i- 1)).1 (I l i).1=true) then (if ew (I l i).2=0 then k0 l n (i+1) else ew (I l i).2) else 3
noncomputable def lF (l:List (ar×au)):Int:=k0 l l.length 0
noncomputable def mZ:List eU→Int
 |[]=>0
 |x::r=>if cu x.kind=true∧cu x.name=true then (if 6<(x.parts.length:Int) then 2 else if lF x.parts=0 then mZ r else lF x.parts) else 3
noncomputable def na:List (ar×au)→Int
 |[]=>0
 |p::r=>if cu p.1=true then (if ew p.2=0 then na r else ew p.2) else 3
noncomputable def sn (s:dm) (b:Int):Int:=if b≠0 then b else na s.outs
noncomputable def so (s:dm) (a:Int):Int:=if a≠0 then a else sn s (mZ s.res)
noncomputable def e6 (s:dm):Int:=if cu s.name=false then 3 else if 8<(s.ins.length:Int)∨8<(s.res.length:Int)∨8<(s.outs.length:Int) then 2 else so s (oA s.ins)
theorem Bt {l:List (ar×aW)} {i:Int} (aJ:0≤i) (ad:i<l.length):oA (l.drop i.toNat)=if cu (I l i).1=true∧(I l i).2.kind≤3∧b1 (I l i).2=0 then oA (l.drop (i+1).toNat) else 3:=by rw [jQ aJ ad,oA]
theorem p5 {l:List eU} {i:Int} (aJ:0≤i) (ad:i<l.length):mZ (l.drop i.toNat)=if cu (I l i).kind=true∧cu (I l i).name=true then (if 6<((I l i).parts.length:Int) then 2 else if lF (I l i).parts=0 then mZ (l.drop (i+1).toNat) else lF (I l i).parts) else 3:=by rw [jQ aJ ad,mZ]
theorem wG {l:List (ar×au)} {i:Int} (aJ:0≤i) (ad:i<l.length):na (l.drop i.toNat)=if cu (I l i).1=true then (if ew (I l i).2=0 then na (l.drop (i+1).toNat) else ew (I l i).2) else 3:=by rw [jQ aJ ad,na]
theorem wH {l:List (ar×au)} {i:Int} (ad:i<l.length):k0 l ((l.length:Int)- i).toNat i=if cu (I l i).1=true∧(0<i→Op.bytesLess (I l (i- 1)).1 (I l i).1=true) then (if ew (I l i).2=0 then k0 l ((l.length:Int)- (i+1)).toNat (i+1) else ew (I l i).2) else 3:=by
 have e:((l.length:Int)- i).toNat=((l.length:Int)- (i+1)).toNat+1:=by omega
 rw [e,k0]
theorem Lu {l:List (ar×au)} {i:Int} (ad:(l.length:Int)≤i):k0 l ((l.length:Int)- i).toNat i=0:=by
 rw [show ((l.length:Int)- i).toNat=0 by omega,k0]
theorem Lv (l:List (ar×au)):lF l=k0 l ((l.length:Int)- 0).toNat 0:=by rw [lF];congr 1
theorem Lw {s:dm} {a:Int} (h:a≠0):so s a=a:=by rw [so,if_pos h]
theorem sq {s:dm} {a:Int} (h:a≠0):sn s a=a:=by rw [sn,if_pos h]
set_option maxHeartbeats 2000000 in
theorem wI (s:ar) (m:ae) (K:ab→ae→Prop) (U:K (.bool (cu s)) m):bh Tryz.prog 77 [.str s] m K:=by
 refine enter (c:=cT [] [0] [5,8] [] [] []) (vs:=[.aI (.str s)]) (L:=[]) (m:=m) false b2 Tryz.mixed Tryz.func77 rfl (k:=1) (by show cO [] _ _ _=true;decide+kernel) rfl (Good.nil m) ?_
 refine ⟨fun bJ=>?_⟩
 have o7:s.length≤140737488355328:=bJ 0
 refine aB ?_
 refine cH (σ:=Int) [] [0,6,7] 0 (fun i=>([(0,ay s),(6,ax (s.length:Int)),(7,ax i)],[],m)) (fun i=>0≤i∧i≤s.length∧mF s true=mF (s.drop i.toNat) (i==0)) (fun i=>s.length- i.toNat) (0) ⟨rfl,rfl⟩ ?_ ?_
 · try dsimp only
   exact ⟨by omega,by omega,by simp⟩
 rintro i aE
 refine aB ?_
 refine ag (fun J=>?_) (fun J=>?_)
 · refine aB ?_
   refine ag (by omega) ?_
   refine cf [0,6,7] 30 (((decide (((I s i).toNat:Int)<97))||(decide (122<((I s i).toNat:Int))))&&(((i==0)||(decide (((I s i).toNat:Int)<48)))||(decide (57<((I s i).toNat:Int))))) ?_ ?_
   · repeat' first
      |exact ⟨⟨_,rfl,by grind [bD.val]⟩,rfl⟩
      |refine ag (fun _=>?_) (fun _=>?_)
   refine ag (fun aa=>?_) (fun aa=>?_)
   · replace aa:((((I s i).toNat:Int)<97)∨(122<((I s i).toNat:Int)))∧(((i=0)∨(((I s i).toNat:Int)<48))∨(57<((I s i).toNat:Int))):=⟨((dq (dH aa)).imp (fun q=>(of_decide_eq_true q)) (fun q=>(of_decide_eq_true q))),((dq (eA aa)).imp (fun q=>((dq q).imp (fun q=>(eq_of_beq q)) (fun q=>(of_decide_eq_true q)))) (fun q=>(of_decide_eq_true q)))⟩
     refine bn rfl fun _=>cL U ?_
     show ab.bool (cu s)=ab.bool false
     refine congrArg ab.bool ?_
     have ah:(mD (I s i)||(!(i==0)&&mE (I s i)))=false:=by
      rw [Bool.eq_false_iff];intro aC;simp [mD,mE] at aC;omega
     rw [cu,aE.2.2,vt aE.1 J,ah];rfl
   replace aa:((97≤((I s i).toNat:Int))∧(((I s i).toNat:Int)≤122))∨(((i≠0)∧(48≤((I s i).toNat:Int)))∧(((I s i).toNat:Int)≤57)):=((eB aa).imp (fun q=>⟨(Int.not_lt.1 (of_decide_eq_false (cb q))),(Int.not_lt.1 (of_decide_eq_false (dp q)))⟩) (fun q=>⟨⟨(ne_of_beq_false (cb (cb q))),(Int.not_lt.1 (of_decide_eq_false (dp (cb q))))⟩,(Int.not_lt.1 (of_decide_eq_false (dp q)))⟩))
   refine ag (by omega) ?_
   refine ⟨(i+1),⟨rfl,rfl⟩,?_,?_⟩
   · try dsimp only
     have ah:(mD (I s i)||(!(i==0)&&mE (I s i)))=true:=by simp [mD,mE];omega
     exact ⟨by omega,by omega,by rw [aE.2.2,vt aE.1 J,ah];rfl⟩
   try dsimp only
   omega
 refine cf [] 2 ((!(s==([])))&&(decide ((s.length:Int)≤12))) ?_ ?_
 · repeat' first
    |exact ⟨⟨_,rfl,by grind [bD.val]⟩,rfl⟩
    |refine ag (fun _=>?_) (fun _=>?_)
 refine bn rfl fun _=>cL U ?_
 show ab.bool (cu s)=ab.bool ((!(s==([])))&&(decide ((s.length:Int)≤12)))
 refine congrArg ab.bool ?_
 have aT:mF s true=true:=by rw [aE.2.2,List.drop_eq_nil_of_le (by omega)];rfl
 rw [cu,aT];cases s<;>simp
set_option maxHeartbeats 4000000 in
theorem Lx (s:dm) (m:ae) (K:ab→ae→Prop) (U:K (.err 115 (e6 s)) m):bh Tryz.prog 25 [ey s] m K:=by
 refine enter (c:=cT [] [0] [3,8,14,21] [] [] []) (vs:=[.aI (ey s)]) (L:=[]) (m:=m) true b2 Tryz.mixed Tryz.func25 rfl (k:=1) (by show cO [] _ _ _=true;decide+kernel) rfl (Good.nil m) ?_
 refine ⟨fun bJ=>?_⟩
 have o7:s.name.length≤140737488355328:=(bJ 0 0 (Nat.le_of_ble_eq_true rfl))
 have Fx:s.ins.length≤140737488355328:=dr (bJ 0 1 (Nat.le_of_ble_eq_true rfl))
 have o6:s.res.length≤140737488355328:=dr (bJ 0 2 (Nat.le_of_ble_eq_true rfl))
 have kq:s.outs.length≤140737488355328:=dr (bJ 0 3 (Nat.le_of_ble_eq_true rfl))
 refine aB ?_
 refine cG (fun _=>wI s.name) rfl ?_
 refine ag (fun J=>?_) (fun J=>?_)
 · refine aB ?_
   refine cf [1] 33 (((decide (8<(s.ins.length:Int)))||(decide (8<(s.res.length:Int))))||(decide (8<(s.outs.length:Int)))) ?_ ?_
   · repeat' first
      |exact ⟨⟨_,rfl,by grind [bD.val]⟩,rfl⟩
      |refine ag (fun _=>?_) (fun _=>?_)
      |refine bN ?_
   refine ag (fun aa=>?_) (fun aa=>?_)
   · replace aa:((8<(s.ins.length:Int))∨(8<(s.res.length:Int)))∨(8<(s.outs.length:Int)):=((dq aa).imp (fun q=>((dq q).imp (fun q=>(of_decide_eq_true q)) (fun q=>(of_decide_eq_true q)))) (fun q=>(of_decide_eq_true q)))
     have bM:e6 s=(2:Int):=by
      rw [e6,if_neg (by rw [J];simp),if_pos (by omega)]
     rw [bM] at U
     exact bn rfl fun _=>U
   replace aa:(((s.ins.length:Int)≤8)∧((s.res.length:Int)≤8))∧((s.outs.length:Int)≤8):=⟨⟨(Int.not_lt.1 (of_decide_eq_false (cb (cb aa)))),(Int.not_lt.1 (of_decide_eq_false (dp (cb aa))))⟩,(Int.not_lt.1 (of_decide_eq_false (dp aa)))⟩
   refine aB ?_
   refine bN ?_
   refine cH (σ:=Int) [] [1,36,37,38] 1 (fun i=>([(1, .loc 0 0),(36,aH (s.ins.map dD)),(37,ax (s.ins.length:Int)),(38,ax i)],[.cells [ay s.name,aH (s.ins.map dD),aH (s.res.map dG),aH (s.outs.map cQ)]],m)) (fun i=>0≤i∧i≤s.ins.length∧e6 s=so s (oA (s.ins.drop i.toNat))) (fun i=>s.ins.length- i.toNat) (0) ⟨rfl,rfl⟩ ?_ ?_
   · try dsimp only
     exact ⟨by omega,by omega,by rw [e6,if_neg (by rw [J];simp),if_neg (by omega)];rfl⟩
   rintro i aE
   refine aB ?_
   refine ag (fun aj=>?_) (fun aj=>?_)
   · refine aB ?_
     refine cX (by omega) ?_
     refine cf [1,36,37,38] 51 ((!(cu ((I s.ins i).1)))||(!(decide (((I s.ins i).2).kind≤3)&&(b1 ((I s.ins i).2)==0)))) ?_ ?_
     · repeat' first
        |exact ⟨⟨_,rfl,by grind [bD.val]⟩,rfl⟩
        |refine ag (fun _=>?_) (fun _=>?_)
        |refine cG (fun _=>wI ((I s.ins i).1)) rfl ?_
        |refine cG (fun _=>Fb ((I s.ins i).2)) rfl ?_
     refine ag (fun aG=>?_) (fun aG=>?_)
     · replace aG:(cu ((I s.ins i).1)=false)∨((decide (((I s.ins i).2).kind≤3)&&(b1 ((I s.ins i).2)==0))=false):=((dq aG).imp (fun q=>(dz q)) (fun q=>(dz q)))
       have bM:e6 s=(3:Int):=by
        rw [aE.2.2,Bt aE.1 aj,if_neg (fun q=>by rcases aG with h|h<;>simp_all),Lw (by decide)]
       rw [bM] at U
       exact bn rfl fun _=>U
     replace aG:(cu ((I s.ins i).1)=true)∧((decide (((I s.ins i).2).kind≤3)&&(b1 ((I s.ins i).2)==0))=true):=⟨(du (cb aG)),(du (dp aG))⟩
     refine ag (by omega) ?_
     refine ⟨(i+1),⟨rfl,rfl⟩,?_,?_⟩
     · try dsimp only
       exact ⟨by omega,by omega,by rw [aE.2.2,Bt aE.1 aj,if_pos ⟨aG.1,by have:=aG.2;simp at this;exact this⟩]⟩
     try dsimp only
     omega
   refine aB ?_
   refine bN ?_
   refine cH (σ:=Int) [] [1,55,56,57] 1 (fun i2=>([(1, .loc 0 0),(55,aH (s.res.map dG)),(56,ax (s.res.length:Int)),(57,ax i2)],[.cells [ay s.name,aH (s.ins.map dD),aH (s.res.map dG),aH (s.outs.map cQ)]],m)) (fun i2=>0≤i2∧i2≤s.res.length∧e6 s=sn s (mZ (s.res.drop i2.toNat))) (fun i2=>s.res.length- i2.toNat) (0) ⟨rfl,rfl⟩ ?_ ?_
   · try dsimp only
     exact ⟨by omega,by omega,by rw [aE.2.2,List.drop_eq_nil_of_le (by omega)];rfl⟩
   rintro i2 bK
   refine aB ?_
   refine ag (fun aR=>?_) (fun aR=>?_)
   · refine aB ?_
     refine cX (by omega) ?_
     refine aB ?_
     refine cf [1,6,55,56,57] 70 ((!(cu ((I s.res i2).kind)))||(!(cu ((I s.res i2).name)))) ?_ ?_
     · repeat' first
        |exact ⟨⟨_,rfl,by grind [bD.val]⟩,rfl⟩
        |refine ag (fun _=>?_) (fun _=>?_)
        |refine cG (fun _=>wI ((I s.res i2).kind)) rfl ?_
        |refine cG (fun _=>wI ((I s.res i2).name)) rfl ?_
     refine ag (fun bu=>?_) (fun bu=>?_)
     · replace bu:(cu ((I s.res i2).kind)=false)∨(cu ((I s.res i2).name)=false):=((dq bu).imp (fun q=>(dz q)) (fun q=>(dz q)))
       have bM:e6 s=(3:Int):=by
        rw [bK.2.2,p5 bK.1 aR,if_neg (fun q=>by rcases bu with h|h<;>simp_all),sq (by decide)]
       rw [bM] at U
       exact bn rfl fun _=>U
     replace bu:(cu ((I s.res i2).kind)=true)∧(cu ((I s.res i2).name)=true):=⟨(du (cb bu)),(du (dp bu))⟩
     refine aB ?_
     refine bN ?_
     refine ag (fun cD=>?_) (fun cD=>?_)
     · have bM:e6 s=(2:Int):=by
        rw [bK.2.2,p5 bK.1 aR,if_pos bu,if_pos cD,sq (by decide)]
       rw [bM] at U
       exact bn rfl fun _=>U
     refine bN ?_
     refine cH (σ:=Int) [] [1,6,55,56,57,78,79,80] 2 (fun k=>([(1, .loc 0 0),(6, .loc 1 0),(55,aH (s.res.map dG)),(56,ax (s.res.length:Int)),(57,ax i2),(78,aH (((I s.res i2).parts).map cQ)),(79,ax (((I s.res i2).parts).length:Int)),(80,ax k)],[.cells [ay s.name,aH (s.ins.map dD),aH (s.res.map dG),aH (s.outs.map cQ)], .cells [ay ((I s.res i2).kind),ay ((I s.res i2).name),aH (((I s.res i2).parts).map cQ)]],m)) (fun k=>0≤k∧k≤(I s.res i2).parts.length∧lF (I s.res i2).parts=k0 (I s.res i2).parts (((I s.res i2).parts.length:Int)- k).toNat k) (fun k=>(I s.res i2).parts.length- k.toNat) (0) ⟨rfl,rfl⟩ ?_ ?_
     · try dsimp only
       exact ⟨by omega,by omega,Lv _⟩
     rintro k ek
     refine aB ?_
     refine ag (fun cK=>?_) (fun cK=>?_)
     · refine aB ?_
       refine cX (by omega) ?_
       refine aB ?_
       refine cf [1,6,8,55,56,57,78,79,80] 104 ((!(cu ((I ((I s.res i2).parts) k).1)))||((decide (0<k))&&(!(Op.bytesLess ((I ((I s.res i2).parts) (k- 1)).1) ((I ((I s.res i2).parts) k).1))))) ?_ ?_
       · repeat' first
          |exact ⟨⟨_,rfl,by grind [bD.val]⟩,rfl⟩
          |refine ag (fun _=>?_) (fun _=>?_)
          |refine gN (fun _=>wI ((I ((I s.res i2).parts) k).1)) ?_
          |refine ag (by omega) ?_
          |refine cX (by omega) ?_
       refine ag (fun cC=>?_) (fun cC=>?_)
       · replace cC:(cu ((I ((I s.res i2).parts) k).1)=false)∨((0<k)∧(Op.bytesLess ((I ((I s.res i2).parts) (k- 1)).1) ((I ((I s.res i2).parts) k).1)=false)):=((dq cC).imp (fun q=>(dz q)) (fun q=>⟨(of_decide_eq_true (dH q)),(dz (eA q))⟩))
         have bM:e6 s=(3:Int):=by
          have q:lF (I s.res i2).parts=3:=by
           rw [ek.2.2,wH cK,if_neg (fun q=>by rcases cC with h|h;(· rw [h] at q;cases q.1);(· have:=q.2 h.1;rw [h.2] at this;cases this))]
          rw [bK.2.2,p5 bK.1 aR,if_pos bu,if_neg (by omega),if_neg (by omega),q,sq (by decide)]
         rw [bM] at U
         exact bn rfl fun _=>U
       replace cC:(cu ((I ((I s.res i2).parts) k).1)=true)∧((k≤0)∨(Op.bytesLess ((I ((I s.res i2).parts) (k- 1)).1) ((I ((I s.res i2).parts) k).1)=true)):=⟨(du (cb cC)),((eB (dp cC)).imp (fun q=>(Int.not_lt.1 (of_decide_eq_false q))) (fun q=>(du q)))⟩
       refine cG (fun _=>yG ((I ((I s.res i2).parts) k).2)) rfl ?_
       refine ag (fun eg=>?_) (fun eg=>?_)
       · refine ag (by omega) ?_
         refine ⟨(k+1),⟨rfl,rfl⟩,?_,?_⟩
         · try dsimp only
           exact ⟨by omega,by omega,by rw [ek.2.2,wH cK,if_pos ⟨cC.1,fun q=>cC.2.resolve_left (by omega)⟩,if_pos eg]⟩
         try dsimp only
         omega
       have bM:e6 s=(ew ((I ((I s.res i2).parts) k).2):Int):=by
        have q:lF (I s.res i2).parts=ew (I (I s.res i2).parts k).2:=by
         rw [ek.2.2,wH cK,if_pos ⟨cC.1,fun q=>cC.2.resolve_left (by omega)⟩,if_neg eg]
        rw [bK.2.2,p5 bK.1 aR,if_pos bu,if_neg (by omega),if_neg (by rw [q];exact eg),q,sq eg]
       rw [bM] at U
       exact bn rfl fun _=>U
     refine ag (by omega) ?_
     refine ⟨(i2+1),⟨rfl,rfl⟩,?_,?_⟩
     · try dsimp only
       have q:lF (I s.res i2).parts=0:=by rw [ek.2.2,Lu (by omega)]
       exact ⟨by omega,by omega,by rw [bK.2.2,p5 bK.1 aR,if_pos bu,if_neg (by omega),if_pos q]⟩
     try dsimp only
     omega
   refine aB ?_
   refine bN ?_
   refine cH (σ:=Int) [] [115,116,117] 1 (fun i3=>([(115,aH (s.outs.map cQ)),(116,ax (s.outs.length:Int)),(117,ax i3)],[.cells [ay s.name,aH (s.ins.map dD),aH (s.res.map dG),aH (s.outs.map cQ)]],m)) (fun i3=>0≤i3∧i3≤s.outs.length∧e6 s=na (s.outs.drop i3.toNat)) (fun i3=>s.outs.length- i3.toNat) (0) ⟨rfl,rfl⟩ ?_ ?_
   · try dsimp only
     exact ⟨by omega,by omega,by rw [bK.2.2,List.drop_eq_nil_of_le (by omega)];rfl⟩
   rintro i3 ek
   refine aB ?_
   refine ag (fun fJ=>?_) (fun fJ=>?_)
   · refine aB ?_
     refine cX (by omega) ?_
     refine aB ?_
     refine cG (fun _=>wI ((I s.outs i3).1)) rfl ?_
     refine ag (fun fL=>?_) (fun fL=>?_)
     · refine cG (fun _=>yG ((I s.outs i3).2)) rfl ?_
       refine ag (fun hs=>?_) (fun hs=>?_)
       · refine ag (by omega) ?_
         refine ⟨(i3+1),⟨rfl,rfl⟩,?_,?_⟩
         · try dsimp only
           exact ⟨by omega,by omega,by rw [ek.2.2,wG ek.1 fJ,if_pos fL,if_pos hs]⟩
         try dsimp only
         omega
       have bM:e6 s=(ew ((I s.outs i3).2):Int):=by
        rw [ek.2.2,wG ek.1 fJ,if_pos fL,if_neg hs]
       rw [bM] at U
       exact bn rfl fun _=>U
     have bM:e6 s=(3:Int):=by
      rw [ek.2.2,wG ek.1 fJ,if_neg (by rw [fL];simp)]
     rw [bM] at U
     exact bn rfl fun _=>U
   have bM:e6 s=(0:Int):=by
    rw [ek.2.2,List.drop_eq_nil_of_le (by omega)];rfl
   rw [bM] at U
   exact bn rfl fun _=>U
 have bM:e6 s=(3:Int):=by
  rw [e6,if_pos J]
 rw [bM] at U
 exact bn rfl fun _=>U
end Go.Proofs
end
section
namespace Go.Proofs
open Go Go.bg Go.cz
set_option maxRecDepth 100000
section
variable (l:List Tok) (n:Int)
def q6 (v:aW):Bool:=decide (v.kind≤3)&&(b1 v==0)
noncomputable def sr (a:Int):bP aW:=(gD l n a).bind fun x b=>if x.kind=1∧q6 x.v=true then .ok x.v b else .bad 5 (cp l n a)
variable {eT:Type} [Inhabited eT]
noncomputable def Ly (k:Int→List (ar×aW)→bP eT) (a:Int) (xs:List (ar×aW)):bP eT:=
 (b8 l n 1 [] a).bind fun m a=>(b8 l n 4 [61] a).bind fun _ a=>(sr l n a).bind fun v a=>k a (xs++[(m,v)])
noncomputable def oB (T:List (ar×aW)→Int→bP eT):Nat→Int→List (ar×aW)→bP eT
 |0,a,_=> .bad 5 (cp l n a)
 |k+1,a,xs=>if bq l 1 [105,110,112,117,116] a=true then (if (xs.length:Int)=8 then .bad 2 (cp l n a) else Ly l n (oB T k) (a+1) xs) else T xs a
noncomputable def yQ (k:Int→List (ar×au)→bP eT) (xs:List (ar×au)) (m:ar) (a:Int):bP eT:=
 (b8 l n 4 [58] a).bind fun _ a=>(gD l n a).bind fun x a=>k a (xs++[(m,x)])
def Bu (xs:List (ar×au)) (m:ar):Prop:=0<(xs.length:Int)∧Op.bytesLess (I xs ((xs.length:Int)- 1)).1 m=false
instance (xs:List (ar×au)) (m:ar):Decidable (Bu xs m):=by unfold Bu;infer_instance
noncomputable def Bv (k:Int→List (ar×au)→bP eT) (xs:List (ar×au)) (m:ar) (a:Int):bP eT:=if Bu xs m then .bad 3 (cp l n a) else yQ l n k xs m a
noncomputable def wJ (k:Int→List (ar×au)→bP eT) (xs:List (ar×au)) (a:Int):bP eT:=
 if (xs.length:Int)=6 then .bad 2 (cp l n a) else (b8 l n 1 [] a).bind fun m a=>Bv l n k xs m a
noncomputable def kC (T:List (ar×au)→Int→bP eT):Nat→Int→List (ar×au)→bP eT
 |0,a,_=> .bad 5 (cp l n a)
 |k+1,a,xs=>if bq l 4 [125] a=true then T xs (a+1) else nI l n xs a fun a=>wJ l n (kC T k) xs a
noncomputable def l9 (a:Int):bP eU:=(b8 l n 1 [] a).bind fun k a=>(b8 l n 1 [] a).bind fun m a=>(b8 l n 4 [123] a).bind fun _ a=>kC l n (fun ps a=> .ok ⟨k,m,ps⟩ a) (l.length+1) a []
noncomputable def oC (T:List eU→Int→bP eT):Nat→Int→List eU→bP eT
 |0,a,_=> .bad 5 (cp l n a)
 |k+1,a,xs=>if bq l 1 [114,101,115,111,117,114,99,101] a=true then (if (xs.length:Int)=8 then .bad 2 (cp l n a) else (l9 l n (a+1)).bind fun x a=>oC T k a (xs++[x])) else T xs a
noncomputable def Lz (k:Int→List (ar×au)→bP eT) (a:Int) (xs:List (ar×au)):bP eT:=
 (b8 l n 1 [] a).bind fun m a=>(b8 l n 4 [61] a).bind fun _ a=>(gD l n a).bind fun v a=>k a (xs++[(m,v)])
noncomputable def oD (T:List (ar×au)→Int→bP eT):Nat→Int→List (ar×au)→bP eT
 |0,a,_=> .bad 5 (cp l n a)
 |k+1,a,xs=>if bq l 1 [111,117,116,112,117,116] a=true then (if (xs.length:Int)=8 then .bad 2 (cp l n a) else Lz l n (oD T k) (a+1) xs) else T xs a
noncomputable def k1 (a:Int):bP dm:=(b8 l n 1 [115,116,97,99,107] a).bind fun _ a=>(b8 l n 1 [] a).bind fun m a=>
 oB l n (fun i a=>oC l n (fun r a=>oD l n (fun o a=> .ok ⟨m,i,r,o⟩ a) (l.length+1) a []) (l.length+1) a []) (l.length+1) a []
noncomputable def jT:Nat→Int→List dm→bP (List dm)
 |0,a,_=> .bad 5 (cp l n a)
 |k+1,a,xs=>if a<l.length then (if (xs.length:Int)=8 then .bad 2 (cp l n a) else (k1 l n a).bind fun s a=>jT k a (xs++[s])) else .ok xs a
end
structure gq {eT:Type} (P:bP eT) (a e q a2 az bl:Int) (Q:bP eT):Prop where
 y:e=0→dV P az bl Q
 z:e≠0→a2=a∧az=e∧bl=q
structure lG (l:List Tok) (n c a e q az bl:Int) (b:Prop):Prop where
 z:b→e=0→az=c∧bl=cp l n a
 y:¬b→az=e∧bl=q
 x:e≠0→az=e∧bl=q
section
variable {l:List Tok} {n a e q ct a2 aF cq az bl c:Int} {eT:Type} [Inhabited eT] {P R:bP eT}
theorem gq.start {lH:Type} {P:bP lH}:gq P a e q a e q P:=⟨fun h=>⟨fun _=>rfl,fun z=>absurd h z⟩,fun _=>⟨rfl,rfl,rfl⟩⟩
theorem gq.bM {lH:Type} {P R:bP lH} (h:gq P a e q a2 az bl R) (ak:az=0):e=0:=Classical.byContradiction fun c=>by have:=(h.z c).2.1;omega
theorem aX.bM {α:Type} {p:bP α} {x:α} (o:aX l p x a e q a2 az bl) (ak:az=0):e=0:=Classical.byContradiction fun c=>by have:=(o.st c).2.1;omega
theorem gq.step {α:Type} {p:bP α} {x:α} {g:α→Int→bP eT} (h:gq P a e q ct aF cq (p.bind g)) (o:aX l p x ct aF cq a2 az bl):gq P a e q a2 az bl (g x a2):=
 ⟨fun z=>(h.y z).step o,fun z=>by obtain ⟨rfl,rfl,rfl⟩:=h.z z;exact o.st z⟩
theorem gq.to {lH:Type} {P R Q:bP lH} (h:gq P a e q ct aF cq R) (aU:aF=0→R=Q):gq P a e q ct aF cq Q:=⟨fun z=>(h.y z).to aU,h.z⟩
theorem gq.fail {f s:Int} (h:gq P a e q ct aF cq (.bad f s)) (J:aF=0→az=f∧bl=s) (aa:aF≠0→az=aF∧bl=cq) (aj:0<az):gq P a e q ct az bl R:=
 ⟨fun z=>(h.y z).fail J aa aj,fun z=>by obtain ⟨rfl,rfl,rfl⟩:=h.z z;exact ⟨rfl,aa z⟩⟩
theorem gq.at {lH:Type} {P R:bP lH} (h:gq P a e q ct aF cq R) (ak:e=0):gq P a e q a2 aF cq R:=⟨h.y,fun z=>absurd ak z⟩
theorem dV.room {b:Prop} [Decidable b] (h:lG l n c a e q az bl b) (ao:0<c) (an:dV P e q (if b then .bad c (cp l n a) else R)):dV P az bl R:=by
 by_cases ah:b
 · rw [if_pos ah] at an
   by_cases he:e=0
   · obtain ⟨rfl,rfl⟩:=h.z ah he
     exact an.fail (fun _=>⟨rfl,rfl⟩) (fun q=>absurd he q) ao
   · obtain ⟨rfl,rfl⟩:=h.x he
     exact ⟨fun q=>absurd q he,an.z⟩
 · rw [if_neg ah] at an
   obtain ⟨rfl,rfl⟩:=h.y ah
   exact an
theorem gq.room {b:Prop} [Decidable b] (an:gq P a e q ct aF cq (if b then .bad c (cp l n ct) else R)) (h:lG l n c ct aF cq az bl b) (ao:0<c):gq P a e q ct az bl R:=
 ⟨fun z=>dV.room h ao (an.y z),fun z=>by obtain ⟨rfl,rfl,rfl⟩:=an.z z;exact ⟨rfl,h.x z⟩⟩
theorem lG.bB {b:Prop} (h:lG l n c a e q az bl b) (ao:0<c) (he:0≤e):0≤az:=by
 by_cases ah:b
 · by_cases ak:e=0
   · have:=(h.z ah ak).1;omega
   · have:=(h.x ak).1;omega
 · have:=(h.y ah).1;omega
theorem lG.no {b:Prop} (h:lG l n c a e q az bl b) (ao:0<c) (ak:az=0):¬b:=fun ah=>by
 by_cases he:e=0
 · have:=(h.z ah he).1;omega
 · have:=(h.x he).1;omega
theorem gq.done {lH:Type} {P:bP lH} {y:lH} (h:gq P a e q ct aF cq (.ok y (ct+1))) (ak:aF=0) (aT:a≤ct) (av:ct<l.length):aX l P y a e q (ct+1) aF cq:=(h.y (h.bM ak)).done ak (h.bM ak) aT av
theorem gq.ok {lH:Type} {P:bP lH} {y:lH} (h:gq P a e q ct aF cq (.ok y ct)) (ak:aF=0) (aT:a<ct) (av:ct≤l.length):aX l P y a e q ct aF cq:=by
 have:=(((h.to (Q:= .ok y (ct- 1+1)) fun _=>by rw [Int.sub_add_cancel]).at (a2:=ct- 1) (h.bM ak)).done (l:=l) ak (by omega) (by omega))
 rwa [Int.sub_add_cancel] at this
theorem gq.bad {lH:Type} {P R:bP lH} {y:lH} (h:gq P a e q ct aF cq R) (ak:aF≠0) (aT:a≤ct) (av:ct≤l.length) (aM:0≤aF):aX l P y a e q ct aF cq:=
 if he:e=0 then (h.y he).bad ak he aT av aM else by obtain ⟨rfl,rfl,rfl⟩:=h.z he;exact aX.stuck he aM av
theorem aX.LA {x:au} (o:aX l (gD l n a) x a e q ct aF cq) (ak:aF=0) (h:x.kind≠1∨q6 x.v=false):aX l (sr l n a) x.v a e q ct 5 (cp l n a):=by
 have he:=o.bM ak
 have J:=o.ok he
 obtain ⟨rfl,rfl⟩:=J.y ak
 refine ⟨fun _=>?_,fun z=>absurd he z,o.ba,o.ad,by decide,fun z=>by cases z⟩
 rw [sr,bP.bind,if_pos (by rw [←J.f];exact ak),if_neg fun q=>h.elim (fun z=>z q.1) fun z=>by rw [q.2] at z;cases z]
 exact ⟨rfl,fun z=>(by cases z),fun _=>rfl⟩
theorem aX.LB {x:au} (o:aX l (gD l n a) x a e q ct aF cq) (h:aF=0→x.kind=1∧q6 x.v=true):aX l (sr l n a) x.v a e q ct aF cq:=by
 refine ⟨fun he=>?_,o.st,o.ba,o.ad,o.bB,o.gt⟩
 have J:=o.ok he
 by_cases ak:aF=0
 · obtain ⟨rfl,rfl⟩:=J.y ak
   rw [sr,bP.bind,if_pos (by rw [←J.f];exact ak),if_pos (h ak)]
   exact ⟨ak,fun _=>⟨rfl,rfl⟩,fun h=>absurd ak h⟩
 · rw [sr,bP.bind,if_neg (by rw [←J.f];exact ak)]
   exact ⟨J.f,fun h=>absurd h ak,fun _=>J.z ak⟩
theorem LC {k m s:ar} {a3 cS gx:Int} (iZ:aX l (b8 l n 1 [] a) k a e q ct aF cq) (lT:aX l (b8 l n 1 [] ct) m ct aF cq a2 az bl) (pR:aX l (b8 l n 4 [123] a2) s a2 az bl a3 cS gx):gq (l9 l n a) a e q a3 cS gx (kC l n (fun ps a=> .ok ⟨k,m,ps⟩ a) (l.length+1) a3 []):=by
 have h:=gq.start (P:=l9 l n a) (a:=a) (e:=e) (q:=q)
 unfold l9 at h
 exact ((h.step iZ).step lT).step pR
theorem LD {k:Int→List (ar×au)→bP eT} {xs:List (ar×au)} {m:ar} (h:Bu xs m):Bv l n k xs m a= .bad 3 (cp l n a):=if_pos h
theorem LF {k:Int→List (ar×au)→bP eT} {xs:List (ar×au)} {m:ar} (h:(xs.length:Int)≤0∨Op.bytesLess (I xs ((xs.length:Int)- 1)).1 m=true):Bv l n k xs m a=yQ l n k xs m a:=
 if_neg fun ah=>by
  obtain ⟨hW,j1⟩:=ah
  rcases h with h|h
  · omega
  · rw [j1] at h;cases h
theorem LG {T:List (ar×au)→Int→bP eT} {k:Nat} {xs:List (ar×au)} (h:bq l 4 [125] a=false):kC l n T (k+1) a xs=nI l n xs a fun a=>wJ l n (kC l n T k) xs a:=by
 rw [kC,if_neg (cJ h)]
theorem LH {T:List (ar×au)→Int→bP eT} {k:Nat} {xs:List (ar×au)} (h:bq l 4 [125] a=true):kC l n T (k+1) a xs=T xs (a+1):=by
 rw [kC,if_pos h]
end
theorem Bw (l:List Tok) (n a e q:Int) (h k:Int) (r:Nat) (av:l.length≤5000) (aJ:0≤a) (aT:a≤l.length) (he:0≤e) (m:ae) (gd:eC [r] m) (K:ab→ae→Prop) (U:∀bR cj,lG l n 2 a e q bR cj (h=k)→K (.tuple []) (ae.aS m [(r, .cells [.slice false (l.map bm), .int .i64 a, .int .i64 n, .err 115 bR, .int .i64 cj])])):bh Tryz.prog 152 [.ptr ⟨r,0,none⟩, .int .i64 h, .int .i64 k] (ae.aS m [(r, .cells [.slice false (l.map bm), .int .i64 a, .int .i64 n, .err 115 e, .int .i64 q])]) K:=by
 refine enter (c:=cT [] [] [] [] [] [r]) (vs:=[.loc 0 0, .aI (.int .i64 h), .aI (.int .i64 k)]) (L:=[bA l n a e q]) (m:=m) false b2 Tryz.mixed Tryz.func152 rfl (k:=3) (by show cO [] _ _ _=true;decide+kernel) rfl (gd.gZ rfl) ?_
 refine ag (fun J=>?_) (fun J=>?_)
 · refine bx 115 [0] (σ:=Int×Int) (fun ⟨bb,bo⟩=>(e=0→bb=2∧bo=cp l n a)∧(e≠0→bb=e∧bo=q)∧0<bb) (fun ⟨bb,bo⟩=> .da []) (fun ⟨bb,bo⟩=>[bA l n a bb bo]) rfl (fun _=>rfl) (fun bs ai gd aq K U=>o9 l n a e q 2 (bs.getD 0 0) (by decide) av (by omega) (by omega) (by omega) ai gd K (fun z=>U (2,cp l n a) ⟨fun _=>⟨rfl,rfl⟩,fun y=>absurd z y,by decide⟩) (fun z=>U (e,q) ⟨fun y=>absurd y z,fun _=>⟨rfl,rfl⟩,by omega⟩)) ?_
   rintro ⟨bb,bo⟩ bp
   dsimp only at bp
   obtain ⟨ly,ku,mP⟩:=bp
   refine rt rfl fun _=>?_
   show K (.tuple []) (ae.aS m [(r, .cells [.slice false (l.map bm), .int .i64 a, .int .i64 n, .err 115 bb, .int .i64 bo])])
   exact U _ _ ⟨fun _ z=>ly z,fun z=>absurd J z,fun z=>ku z⟩
 refine rt rfl fun _=>?_
 show K (.tuple []) (ae.aS m [(r, .cells [.slice false (l.map bm), .int .i64 a, .int .i64 n, .err 115 e, .int .i64 q])])
 exact U _ _ ⟨fun z=>absurd z J,fun _=>⟨rfl,rfl⟩,fun _=>⟨rfl,rfl⟩⟩
set_option maxHeartbeats 4000000 in
theorem Vb (l:List Tok) (n a e q:Int) (r:Nat) (av:l.length≤5000) (aJ:0≤a) (aT:a≤l.length) (he:0≤e) (hw:lx l) (m:ae) (gd:eC [r] m) (K:ab→ae→Prop) (aP:cW m) (U:∀bH bZ bR cj,aX l (l9 l n a) bH a e q bZ bR cj→K (dG bH) (ae.aS m [(r, .cells [.slice false (l.map bm), .int .i64 bZ, .int .i64 n, .err 115 bR, .int .i64 cj])])):bh Tryz.prog 153 [.ptr ⟨r,0,none⟩] (ae.aS m [(r, .cells [.slice false (l.map bm), .int .i64 a, .int .i64 n, .err 115 e, .int .i64 q])]) K:=by
 refine enter (c:=cT [] [] [9] [12999] [12] [r]) (vs:=[.loc 0 0]) (L:=[bA l n a e q]) (m:=m) false b2 Tryz.mixed Tryz.func153 rfl (k:=1) (by show cO [12999] _ _ _=true;decide+kernel) rfl (gd.gZ rfl) ?_
 refine bx 115 [0] (σ:=ar×Int×Int×Int) (fun ⟨dA,bO,bb,bo⟩=>aX l (b8 l n 1 [] a) dA a e q bO bb bo) (fun ⟨dA,bO,bb,bo⟩=>ay dA) (fun ⟨dA,bO,bb,bo⟩=>[bA l n bO bb bo]) rfl (fun _=>rfl) (fun bs ai gd aq K U=>pb l n a e q (bs.getD 0 0) av (by omega) (by omega) (by omega) ai gd K (fun bQ a8 a1 a6 aC=>U (bQ,a8,a1,a6) aC)) ?_
 rintro ⟨dA,bO,bb,bo⟩ bp
 dsimp only at bp
 have pW:=bp.ba
 have mz:=bp.ad
 have pX:=bp.bB
 refine bx 115 [0] (σ:=ar×Int×Int×Int) (fun ⟨db,dj,b3,cg⟩=>aX l (b8 l n 1 [] bO) db bO bb bo dj b3 cg) (fun ⟨db,dj,b3,cg⟩=>ay db) (fun ⟨db,dj,b3,cg⟩=>[bA l n dj b3 cg]) rfl (fun _=>rfl) (fun bs ai gd aq K U=>pb l n bO bb bo (bs.getD 0 0) av (by omega) (by omega) (by omega) ai gd K (fun bQ a8 a1 a6 aC=>U (bQ,a8,a1,a6) aC)) ?_
 rintro ⟨db,dj,b3,cg⟩ cx
 dsimp only at cx
 have qV:=cx.ba
 have ig:=cx.ad
 have qW:=cx.bB
 refine bx 115 [0] (σ:=ar×Int×Int×Int) (fun ⟨h7,fs,dX,er⟩=>(aX l (b8 l n 4 ([123]:List UInt8) dj) h7 dj b3 cg fs dX er)∧(dX≠0→h7=[])) (fun ⟨h7,fs,dX,er⟩=>ay h7) (fun ⟨h7,fs,dX,er⟩=>[bA l n fs dX er]) rfl (fun _=>rfl) (fun bs ai gd aq K U=>jz l n dj b3 cg 4 ([123]:List UInt8) (bs.getD 0 0) av (by omega) (by omega) (by omega) ai gd K (fun bQ a8 a1 a6 aC ak=>U (bQ,a8,a1,a6) ⟨aC,ak⟩)) ?_
 rintro ⟨h7,fs,dX,er⟩ cP
 dsimp only at cP
 obtain ⟨cP,n3⟩:=cP
 have yu:=cP.ba
 have yv:=cP.ad
 have tx:=cP.bB
 refine aB ?_
 refine cH (σ:=Int×Int×Int×List (ar×au)) [] [0,2,3] 3 (fun ⟨a2,az,bl,xs⟩=>([(0, .loc 0 0),(2, .loc 1 0),(3, .loc 2 0)],[bA l n a2 az bl, .cells [ay ([]),ay ([]), .own []], .cells [ay dA,ay db, .own (xs.map cQ)]],m)) (fun ⟨a2,az,bl,xs⟩=>0≤a2∧a≤a2∧a2≤l.length∧0≤az∧(az=0→(xs.length:Int)≤6)∧xs.length≤7∧∃bV:Nat,(az=0→l.length- a2<bV)∧gq (l9 l n a) a e q a2 az bl (kC l n (fun ps a=> .ok (⟨dA,db,ps⟩:eU) a) bV a2 xs)) (fun ⟨a2,az,bl,xs⟩=>if az=0 then l.length- a2.toNat+1 else 0) (fs,dX,er,[]) ⟨rfl,rfl⟩ ?_ ?_
 · try dsimp only
   exact ⟨by omega,by omega,by omega,by omega,fun _=>by simp,by simp,l.length+1,fun _=>by omega,LC bp cx cP⟩
 rintro ⟨a2,az,bl,xs⟩ aE
 dsimp only at aE
 obtain ⟨i1,i2,i3,i4,i5,i6,bV,i8,i9⟩:=aE
 refine aB ?_
 refine bx 115 [0] (σ:=(Unit) ⊕ (Unit)) (Sum.elim (fun _=>az=0∧bq l 4 ([125]:List UInt8) a2=true) (fun _=>az=0→bq l 4 ([125]:List UInt8) a2=false)) (Sum.elim (fun _=> .b (.lit true)) (fun _=> .b (.lit false))) (Sum.elim (fun _=>[bA l n (a2+1) az bl]) (fun _=>[bA l n a2 az bl])) rfl (fun x=>by rcases x with _|_<;>rfl) (fun bs ai gd aq K U=>iC l n a2 az bl 4 ([125]:List UInt8) (bs.getD 0 0) av (by omega) (by omega) (by omega) ai gd K (fun z w=>U (.inl ()) ⟨z,w⟩) (fun z=>U (.inr ()) z)) ?_
 rintro (_|_) dd
 · try dsimp only [Sum.elim_inl,Sum.elim_inr] at dd
   dsimp only [Sum.elim_inl,Sum.elim_inr]
   have A3:=gm dd.2
   refine rt rfl fun _=>?_
   show K (.agg [.str dA, .str db, .slice false (xs.map cQ)]) (ae.aS m [(r, .cells [.slice false (l.map bm), .int .i64 (a2+1), .int .i64 n, .err 115 az, .int .i64 bl])])
   obtain ⟨bV,rfl⟩:∃k,bV=k+1:=⟨bV- 1,by have:=i8 dd.1;omega⟩
   exact U ⟨dA,db,xs⟩ _ _ _ ((i9.to fun _=>LH dd.2).done dd.1 (by omega) A3)
 try dsimp only [Sum.elim_inl,Sum.elim_inr] at dd
 dsimp only [Sum.elim_inl,Sum.elim_inr]
 refine ag (fun J=>?_) (fun J=>?_)
 · obtain ⟨bV,rfl⟩:∃k,bV=k+1:=⟨bV- 1,by have:=i8 J;omega⟩
   have i9:=i9.to fun _=>LG (dd J)
   have i10:=i8 J
   have i11:=i5 J
   refine rN (σ:=Int×Int×Int) [] [0,2,3] 3 (fun ⟨ia,f3,jc⟩=>([(0, .loc 0 0),(2, .loc 1 0),(3, .loc 2 0)],[bA l n ia f3 jc, .cells [ay ([]),ay ([]), .own []], .cells [ay dA,ay db, .own (xs.map cQ)]],m)) (fun ⟨ia,f3,jc⟩=>a2≤ia∧ia≤l.length∧0≤f3∧gq (l9 l n a) a e q ia f3 jc (wJ l n (kC l n (fun ps a=> .ok (⟨dA,db,ps⟩:eU) a) bV) xs ia)) ?_ ?_
   · rintro ⟨ia,f3,jc⟩ mG
     refine bN ?_
     refine bx 115 [0] (σ:=Int×Int) (fun ⟨dU,eD⟩=>lG l n 2 ia f3 jc dU eD ((xs.length:Int)=6)) (fun ⟨dU,eD⟩=> .da []) (fun ⟨dU,eD⟩=>[bA l n ia dU eD]) rfl (fun _=>rfl) (fun bs ai gd aq K U=>Bw l n ia f3 jc (xs.length:Int) 6 (bs.getD 0 0) av (by omega) (by omega) (by omega) ai gd K (fun a1 a6 aC=>U (a1,a6) aC)) ?_
     rintro ⟨dU,eD⟩ dE
     dsimp only at dE
     have yx:=dE.bB (by decide) (by omega)
     refine bx 115 [0] (σ:=ar×Int×Int×Int) (fun ⟨gh,dy,dt,dQ⟩=>aX l (b8 l n 1 [] ia) gh ia dU eD dy dt dQ) (fun ⟨gh,dy,dt,dQ⟩=>ay gh) (fun ⟨gh,dy,dt,dQ⟩=>[bA l n dy dt dQ]) rfl (fun _=>rfl) (fun bs ai gd aq K U=>pb l n ia dU eD (bs.getD 0 0) av (by omega) (by omega) (by omega) ai gd K (fun bQ a8 a1 a6 aC=>U (bQ,a8,a1,a6) aC)) ?_
     rintro ⟨gh,dy,dt,dQ⟩ ej
     dsimp only at ej
     have rY:=ej.ba
     have rZ:=ej.ad
     have r0:=ej.bB
     refine aB ?_
     refine bN ?_
     refine cf [0,2,3,4] 51 ((decide (0<(xs.length:Int)))&&(!(Op.bytesLess ((I xs ((xs.length:Int)- 1)).1) gh))) ?_ ?_
     · repeat' first
        |exact ⟨⟨_,rfl,by grind [bD.val]⟩,rfl⟩
        |refine ag (fun _=>?_) (fun _=>?_)
        |refine ag (by omega) ?_
        |refine cX (by omega) ?_
     refine ag (fun aa=>?_) (fun aa=>?_)
     · replace aa:(0<(xs.length:Int))∧(Op.bytesLess ((I xs ((xs.length:Int)- 1)).1) gh=false):=⟨(of_decide_eq_true (dH aa)),(dz (eA aa))⟩
       refine bx 115 [0] (σ:=Int×Int) (fun ⟨ev,eS⟩=>(dt=0→ev=3∧eS=cp l n dy)∧(dt≠0→ev=dt∧eS=dQ)∧0<ev) (fun ⟨ev,eS⟩=> .da []) (fun ⟨ev,eS⟩=>[bA l n dy ev eS]) rfl (fun _=>rfl) (fun bs ai gd aq K U=>o9 l n dy dt dQ 3 (bs.getD 0 0) (by decide) av (by omega) (by omega) (by omega) ai gd K (fun z=>U (3,cp l n dy) ⟨fun _=>⟨rfl,rfl⟩,fun y=>absurd z y,by decide⟩) (fun z=>U (dt,dQ) ⟨fun y=>absurd y z,fun _=>⟨rfl,rfl⟩,by omega⟩)) ?_
       rintro ⟨ev,eS⟩ dR
       dsimp only at dR
       obtain ⟨Vc,Vd,Ve⟩:=dR
       refine bx 115 [0] (σ:=ar×Int×Int×Int) (fun ⟨fI,fX,gi,gB⟩=>(aX l (b8 l n 4 ([58]:List UInt8) dy) fI dy ev eS fX gi gB)∧(gi≠0→fI=[])) (fun ⟨fI,fX,gi,gB⟩=>ay fI) (fun ⟨fI,fX,gi,gB⟩=>[bA l n fX gi gB]) rfl (fun _=>rfl) (fun bs ai gd aq K U=>jz l n dy ev eS 4 ([58]:List UInt8) (bs.getD 0 0) av (by omega) (by omega) (by omega) ai gd K (fun bQ a8 a1 a6 aC ak=>U (bQ,a8,a1,a6) ⟨aC,ak⟩)) ?_
       rintro ⟨fI,fX,gi,gB⟩ ed
       dsimp only at ed
       obtain ⟨ed,KF⟩:=ed
       have A7:=ed.ba
       have A8:=ed.ad
       have A9:=ed.bB
       refine hS b2 Tryz.mixed (σ:=Int×Int×Int×au) (.f 0 (.f 2 (.f 3 (.o 1 (.s 4 (.s 5 (.s 6 (.s 7 (.f 8 (.s 9 .d)))))) (.o 4 (.o 1 (.s 5 (.s 6 (.s 7 (.f 8 (.s 9 .d))))) (.o 5 (.o 1 (.s 6 (.s 7 (.f 8 (.s 9 .d)))) (.o 6 (.s 1 (.s 7 (.f 8 (.s 9 .d)))) .z)) .z)) .z))))) [] [0,2,3] 3 (fun ⟨a9,ee,ef,eE⟩=>([(0, .loc 0 0),(2, .loc 1 0),(3, .loc 2 0)],[bA l n a9 ee ef, .cells [ay ([]),ay ([]), .own []], .cells [ay dA,ay db, .own ((xs++([(⟨gh,eE⟩:(ar×au))]:List (ar×au))).map cQ)]],m)) (fun ⟨a9,ee,ef,eE⟩=>aX l (gD l n fX) eE fX gi gB a9 ee ef) (by decide+kernel) ?_ ?_
       · rintro ⟨a9,ee,ef,eE⟩ h9
         try dsimp only at h9
         have Ky:=h9.ba
         have Kz:=h9.ad
         have KA:=h9.bB
         refine ⟨(a9,ee,ef,xs++([(⟨gh,eE⟩:(ar×au))]:List (ar×au))),⟨rfl,rfl⟩,?_,?_⟩
         · try dsimp only
           have c:=(((((mG.2.2.2.room dE (by decide)).step ej).to fun _=>LD aa).fail (R:=yQ l n (kC l n (fun ps a=> .ok (⟨dA,db,ps⟩:eU) a) bV) xs gh dy) Vc Vd Ve).step ed).step h9
           have aM:=fun z=>dE.no (by decide) (absurd (ed.bM (h9.bM z)) (by omega))
           have bc:=h9.gt
           simp only [List.length_append,List.length_cons,List.length_nil]
           exact ⟨by omega,by omega,by omega,by omega,fun z=>by have:=aM z;omega,by omega,bV,fun z=>by have:=bc z;omega,c⟩
         try dsimp only
         rw [if_pos J]
         have bc:=h9.gt
         split<;>omega
       repeat' first
        |refine ⟨(fA,e5,ff,fZ),⟨rfl,rfl⟩,fi⟩
        |(refine bx 115 [0] (σ:=au×Int×Int×Int) (fun ⟨fZ,fA,e5,ff⟩=>aX l (gD l n fX) fZ fX gi gB fA e5 ff) (fun ⟨fZ,fA,e5,ff⟩=>fR fZ) (fun ⟨fZ,fA,e5,ff⟩=>[bA l n fA e5 ff]) rfl (fun _=>rfl) (fun bs ai gd aq K U=>yL l n fX gi gB 6 (bs.getD 0 0) (vO l n av hw 6 (by decide)) av (by omega) (by omega) (by omega) rfl ai gd K (cW.up aq aP) (fun c1 a8 a1 a6 aC=>U (c1,a8,a1,a6) aC)) ?_;rintro ⟨fZ,fA,e5,ff⟩ fi;dsimp only at fi;have yz:=fi.ba;have yA:=fi.ad;have vN:=fi.bB)
        |refine ap cQ xs ([(⟨gh,fZ⟩:(ar×au))]:List (ar×au)) rfl rfl (fun _=>⟨rfl,rfl⟩) (by (simp only [List.length_append,List.length_cons,List.length_nil];omega)) ?_
        |refine ⟨?_,?_,trivial⟩
     replace aa:((xs.length:Int)≤0)∨(Op.bytesLess ((I xs ((xs.length:Int)- 1)).1) gh=true):=((eB aa).imp (fun q=>(Int.not_lt.1 (of_decide_eq_false q))) (fun q=>(du q)))
     refine bx 115 [0] (σ:=ar×Int×Int×Int) (fun ⟨e4,eJ,eK,fa⟩=>(aX l (b8 l n 4 ([58]:List UInt8) dy) e4 dy dt dQ eJ eK fa)∧(eK≠0→e4=[])) (fun ⟨e4,eJ,eK,fa⟩=>ay e4) (fun ⟨e4,eJ,eK,fa⟩=>[bA l n eJ eK fa]) rfl (fun _=>rfl) (fun bs ai gd aq K U=>jz l n dy dt dQ 4 ([58]:List UInt8) (bs.getD 0 0) av (by omega) (by omega) (by omega) ai gd K (fun bQ a8 a1 a6 aC ak=>U (bQ,a8,a1,a6) ⟨aC,ak⟩)) ?_
     rintro ⟨e4,eJ,eK,fa⟩ et
     dsimp only at et
     obtain ⟨et,Ba⟩:=et
     have vG:=et.ba
     have vH:=et.ad
     have vI:=et.bB
     refine hS b2 Tryz.mixed (σ:=Int×Int×Int×au) (.f 0 (.f 2 (.f 3 (.o 1 (.s 4 (.s 5 (.s 6 (.s 7 (.f 8 (.s 9 .d)))))) (.o 4 (.o 1 (.s 5 (.s 6 (.s 7 (.f 8 (.s 9 .d))))) (.o 5 (.o 1 (.s 6 (.s 7 (.f 8 (.s 9 .d)))) (.o 6 (.s 1 (.s 7 (.f 8 (.s 9 .d)))) .z)) .z)) .z))))) [] [0,2,3] 3 (fun ⟨a9,ee,ef,eE⟩=>([(0, .loc 0 0),(2, .loc 1 0),(3, .loc 2 0)],[bA l n a9 ee ef, .cells [ay ([]),ay ([]), .own []], .cells [ay dA,ay db, .own ((xs++([(⟨gh,eE⟩:(ar×au))]:List (ar×au))).map cQ)]],m)) (fun ⟨a9,ee,ef,eE⟩=>aX l (gD l n eJ) eE eJ eK fa a9 ee ef) (by decide+kernel) ?_ ?_
     · rintro ⟨a9,ee,ef,eE⟩ h9
       try dsimp only at h9
       have Ky:=h9.ba
       have Kz:=h9.ad
       have KA:=h9.bB
       refine ⟨(a9,ee,ef,xs++([(⟨gh,eE⟩:(ar×au))]:List (ar×au))),⟨rfl,rfl⟩,?_,?_⟩
       · try dsimp only
         have c:=(((((mG.2.2.2.room dE (by decide)).step ej).to fun _=>LF aa)).step et).step h9
         have aM:=fun z=>dE.no (by decide) (ej.bM (et.bM (h9.bM z)))
         have bc:=h9.gt
         simp only [List.length_append,List.length_cons,List.length_nil]
         exact ⟨by omega,by omega,by omega,by omega,fun z=>by have:=aM z;omega,by omega,bV,fun z=>by have:=bc z;omega,c⟩
       try dsimp only
       rw [if_pos J]
       have bc:=h9.gt
       split<;>omega
     repeat' first
      |refine ⟨(gn,gC,gJ,fY),⟨rfl,rfl⟩,fb⟩
      |(refine bx 115 [0] (σ:=au×Int×Int×Int) (fun ⟨fY,gn,gC,gJ⟩=>aX l (gD l n eJ) fY eJ eK fa gn gC gJ) (fun ⟨fY,gn,gC,gJ⟩=>fR fY) (fun ⟨fY,gn,gC,gJ⟩=>[bA l n gn gC gJ]) rfl (fun _=>rfl) (fun bs ai gd aq K U=>yL l n eJ eK fa 6 (bs.getD 0 0) (vO l n av hw 6 (by decide)) av (by omega) (by omega) (by omega) rfl ai gd K (cW.up aq aP) (fun c1 a8 a1 a6 aC=>U (c1,a8,a1,a6) aC)) ?_;rintro ⟨fY,gn,gC,gJ⟩ fb;dsimp only at fb;have Bb:=fb.ba;have Bc:=fb.ad;have Bd:=fb.bB)
      |refine ap cQ xs ([(⟨gh,fY⟩:(ar×au))]:List (ar×au)) rfl rfl (fun _=>⟨rfl,rfl⟩) (by (simp only [List.length_append,List.length_cons,List.length_nil];omega)) ?_
      |refine ⟨?_,?_,trivial⟩
   refine bN ?_
   refine ag (fun aj=>?_) (fun aj=>?_)
   · refine bx 115 [0] (σ:=ar×Int×Int×Int) (fun ⟨gI,dN,dO,eu⟩=>(aX l (b8 l n 4 ([44]:List UInt8) a2) gI a2 az bl dN dO eu)∧(dO≠0→gI=[])) (fun ⟨gI,dN,dO,eu⟩=>ay gI) (fun ⟨gI,dN,dO,eu⟩=>[bA l n dN dO eu]) rfl (fun _=>rfl) (fun bs ai gd aq K U=>jz l n a2 az bl 4 ([44]:List UInt8) (bs.getD 0 0) av (by omega) (by omega) (by omega) ai gd K (fun bQ a8 a1 a6 aC ak=>U (bQ,a8,a1,a6) ⟨aC,ak⟩)) ?_
     rintro ⟨gI,dN,dO,eu⟩ eR
     dsimp only at eR
     obtain ⟨eR,EW⟩:=eR
     have tC:=eR.ba
     have tD:=eR.ad
     have tE:=eR.bB
     refine ⟨(dN,dO,eu),⟨rfl,rfl⟩,⟨by omega,by omega,by omega,(i9.to fun _=>tF aj).step eR⟩⟩
   refine ⟨(a2,az,bl),⟨rfl,rfl⟩,⟨by omega,by omega,by omega,i9.to fun _=>tG aj⟩⟩
 refine rt rfl fun _=>?_
 show K (.agg [.str dA, .str db, .slice false (xs.map cQ)]) (ae.aS m [(r, .cells [.slice false (l.map bm), .int .i64 a2, .int .i64 n, .err 115 az, .int .i64 bl])])
 exact U ⟨dA,db,xs⟩ _ _ _ (i9.bad J (by omega) (by omega) (by omega))
end Go.Proofs
end
section
namespace Go.Proofs
open Go Go.bg Go.cz
set_option maxRecDepth 100000
section
variable {l:List Tok} {n a:Int} {eT:Type} [Inhabited eT] {bV:Nat}
theorem Bx {T:List (ar×aW)→Int→bP eT} {xs:List (ar×aW)} (aZ:0<bV) (h:bq l 1 [105,110,112,117,116] a=true):oB l n T bV a xs=if (xs.length:Int)=8 then .bad 2 (cp l n a) else Ly l n (oB l n T (bV- 1)) (a+1) xs:=by
 obtain ⟨k,rfl⟩:∃k,bV=k+1:=⟨bV- 1,by omega⟩
 rw [oB,if_pos h];rfl
theorem LI {T:List (ar×aW)→Int→bP eT} {xs:List (ar×aW)} (aZ:0<bV) (h:bq l 1 [105,110,112,117,116] a=false):oB l n T bV a xs=T xs a:=by
 obtain ⟨k,rfl⟩:∃k,bV=k+1:=⟨bV- 1,by omega⟩
 rw [oB,if_neg (cJ h)]
theorem Fy {T:List eU→Int→bP eT} {xs:List eU} (aZ:0<bV) (h:bq l 1 [114,101,115,111,117,114,99,101] a=true):oC l n T bV a xs=if (xs.length:Int)=8 then .bad 2 (cp l n a) else (l9 l n (a+1)).bind fun x a=>oC l n T (bV- 1) a (xs++[x]):=by
 obtain ⟨k,rfl⟩:∃k,bV=k+1:=⟨bV- 1,by omega⟩
 rw [oC,if_pos h];rfl
theorem LJ {T:List eU→Int→bP eT} {xs:List eU} (aZ:0<bV) (h:bq l 1 [114,101,115,111,117,114,99,101] a=false):oC l n T bV a xs=T xs a:=by
 obtain ⟨k,rfl⟩:∃k,bV=k+1:=⟨bV- 1,by omega⟩
 rw [oC,if_neg (cJ h)]
theorem LK {T:List (ar×au)→Int→bP eT} {xs:List (ar×au)} (aZ:0<bV) (h:bq l 1 [111,117,116,112,117,116] a=true):oD l n T bV a xs=if (xs.length:Int)=8 then .bad 2 (cp l n a) else Lz l n (oD l n T (bV- 1)) (a+1) xs:=by
 obtain ⟨k,rfl⟩:∃k,bV=k+1:=⟨bV- 1,by omega⟩
 rw [oD,if_pos h];rfl
theorem LL {T:List (ar×au)→Int→bP eT} {xs:List (ar×au)} (aZ:0<bV) (h:bq l 1 [111,117,116,112,117,116] a=false):oD l n T bV a xs=T xs a:=by
 obtain ⟨k,rfl⟩:∃k,bV=k+1:=⟨bV- 1,by omega⟩
 rw [oD,if_neg (cJ h)]
end
section
variable (l:List Tok) (n:Int)
noncomputable def Fz (m:ar) (i:List (ar×aW)) (r:List eU) (o:List (ar×au)) (a:Int):bP dm:= .ok ⟨m,i,r,o⟩ a
noncomputable def FA (m:ar) (i:List (ar×aW)) (r:List eU) (a:Int):bP dm:=oD l n (Fz m i r) (l.length+1) a []
noncomputable def FB (m:ar) (i:List (ar×aW)) (a:Int):bP dm:=oC l n (FA l n m i) (l.length+1) a []
end
theorem LM {l:List Tok} {n a e q ct aF cq a2 az bl:Int} {s m:ar} (iZ:aX l (b8 l n 1 [115,116,97,99,107] a) s a e q ct aF cq) (lT:aX l (b8 l n 1 [] ct) m ct aF cq a2 az bl):gq (k1 l n a) a e q a2 az bl (oB l n (FB l n m) (l.length+1) a2 []):=by
 have h:=gq.start (P:=k1 l n a) (a:=a) (e:=e) (q:=q)
 unfold k1 at h
 exact (h.step iZ).step lT
set_option maxHeartbeats 8000000 in
theorem Vf (l:List Tok) (n a e q:Int) (r:Nat) (av:l.length≤5000) (aJ:0≤a) (aT:a≤l.length) (he:0≤e) (hw:lx l) (ak:e=0) (m:ae) (gd:eC [r] m) (K:ab→ae→Prop) (aP:cW m) (U:∀bH bZ bR cj,aX l (k1 l n a) bH a e q bZ bR cj→K (ey bH) (ae.aS m [(r, .cells [.slice false (l.map bm), .int .i64 bZ, .int .i64 n, .err 115 bR, .int .i64 cj])])):bh Tryz.prog 83 [.ptr ⟨r,0,none⟩] (ae.aS m [(r, .cells [.slice false (l.map bm), .int .i64 a, .int .i64 n, .err 115 e, .int .i64 q])]) K:=by
 refine enter (c:=cT [1000053] [] [11] [17999,23999] [17,23] [r]) (vs:=[.loc 0 0]) (L:=[bA l n a e q]) (m:=m) false b2 Tryz.mixed Tryz.func83 rfl (k:=1) (by show cO [17999,23999] _ _ _=true;decide+kernel) rfl (gd.gZ rfl) ?_
 refine bx 115 [0] (σ:=ar×Int×Int×Int) (fun ⟨dA,bO,bb,bo⟩=>(aX l (b8 l n 1 ([115,116,97,99,107]:List UInt8) a) dA a e q bO bb bo)∧(bb≠0→dA=[])) (fun ⟨dA,bO,bb,bo⟩=>ay dA) (fun ⟨dA,bO,bb,bo⟩=>[bA l n bO bb bo]) rfl (fun _=>rfl) (fun bs ai gd aq K U=>jz l n a e q 1 ([115,116,97,99,107]:List UInt8) (bs.getD 0 0) av (by omega) (by omega) (by omega) ai gd K (fun bQ a8 a1 a6 aC ak=>U (bQ,a8,a1,a6) ⟨aC,ak⟩)) ?_
 rintro ⟨dA,bO,bb,bo⟩ bp
 dsimp only at bp
 obtain ⟨bp,px⟩:=bp
 have pW:=bp.ba
 have mz:=bp.ad
 have pX:=bp.bB
 refine bx 115 [0] (σ:=ar×Int×Int×Int) (fun ⟨db,dj,b3,cg⟩=>aX l (b8 l n 1 [] bO) db bO bb bo dj b3 cg) (fun ⟨db,dj,b3,cg⟩=>ay db) (fun ⟨db,dj,b3,cg⟩=>[bA l n dj b3 cg]) rfl (fun _=>rfl) (fun bs ai gd aq K U=>pb l n bO bb bo (bs.getD 0 0) av (by omega) (by omega) (by omega) ai gd K (fun bQ a8 a1 a6 aC=>U (bQ,a8,a1,a6) aC)) ?_
 rintro ⟨db,dj,b3,cg⟩ cx
 dsimp only at cx
 have qV:=cx.ba
 have ig:=cx.ad
 have qW:=cx.bB
 refine aB ?_
 refine cH (σ:=Int×Int×Int×List (ar×aW)) [] [0,2,3] 3 (fun ⟨a2,az,bl,xs⟩=>([(0, .loc 0 0),(2, .loc 1 0),(3, .loc 2 0)],[bA l n a2 az bl, .cells [ay ([]), .own [], .own [], .own []], .cells [ay db, .own (xs.map dD), .own [], .own []]],m)) (fun ⟨a2,az,bl,xs⟩=>0≤a2∧a≤a2∧a2≤l.length∧0≤az∧(az=0→(xs.length:Int)≤8)∧xs.length≤9∧(az=0→a<a2)∧∃bV:Nat,(az=0→l.length- a2<bV)∧gq (k1 l n a) a e q a2 az bl (oB l n (FB l n db) bV a2 xs)) (fun ⟨a2,az,bl,xs⟩=>if az=0 then l.length- a2.toNat+1 else 0) (dj,b3,cg,[]) ⟨rfl,rfl⟩ ?_ ?_
 · try dsimp only
   exact ⟨by omega,by omega,by omega,by omega,fun _=>by simp,by simp,fun z=>by have:=bp.gt (cx.bM z);omega,l.length+1,fun _=>by omega,LM bp cx⟩
 rintro ⟨a2,az,bl,xs⟩ aE
 dsimp only at aE
 obtain ⟨FC,FD,FE,FF,q7,Vg,FG,yR,pf,uk⟩:=aE
 refine aB ?_
 refine dw [0] [bA l n a2 az bl] (jx (jb l 1 ([105,110,112,117,116]:List UInt8) a2 az)) rfl (fun bs ai gd=>vB l n a2 az bl 1 ([105,110,112,117,116]:List UInt8) (bs.getD 0 0) av (by omega) (by omega) (by omega) ai gd) ?_
 refine ag (fun J=>?_) (fun J=>?_)
 · obtain ⟨cU,v1⟩:=o8 J
   have jg:=gm v1
   refine bN ?_
   refine bx 115 [0] (σ:=Int×Int) (fun ⟨dX,er⟩=>lG l n 2 a2 az bl dX er ((xs.length:Int)=8)) (fun ⟨dX,er⟩=> .da []) (fun ⟨dX,er⟩=>[bA l n a2 dX er]) rfl (fun _=>rfl) (fun bs ai gd aq K U=>Bw l n a2 az bl (xs.length:Int) 8 (bs.getD 0 0) av (by omega) (by omega) (by omega) ai gd K (fun a1 a6 aC=>U (a1,a6) aC)) ?_
   rintro ⟨dX,er⟩ cP
   dsimp only at cP
   have tx:=cP.bB (by decide) (by omega)
   refine ag (by omega) ?_
   refine bx 115 [0] (σ:=ar×Int×Int×Int) (fun ⟨fH,c8,de,dM⟩=>aX l (b8 l n 1 [] (a2+1)) fH (a2+1) dX er c8 de dM) (fun ⟨fH,c8,de,dM⟩=>ay fH) (fun ⟨fH,c8,de,dM⟩=>[bA l n c8 de dM]) rfl (fun _=>rfl) (fun bs ai gd aq K U=>pb l n (a2+1) dX er (bs.getD 0 0) av (by omega) (by omega) (by omega) ai gd K (fun bQ a8 a1 a6 aC=>U (bQ,a8,a1,a6) aC)) ?_
   rintro ⟨fH,c8,de,dM⟩ dd
   dsimp only at dd
   have vD:=dd.ba
   have vE:=dd.ad
   have vF:=dd.bB
   refine bx 115 [0] (σ:=ar×Int×Int×Int) (fun ⟨gX,e3,dU,eD⟩=>(aX l (b8 l n 4 ([61]:List UInt8) c8) gX c8 de dM e3 dU eD)∧(dU≠0→gX=[])) (fun ⟨gX,e3,dU,eD⟩=>ay gX) (fun ⟨gX,e3,dU,eD⟩=>[bA l n e3 dU eD]) rfl (fun _=>rfl) (fun bs ai gd aq K U=>jz l n c8 de dM 4 ([61]:List UInt8) (bs.getD 0 0) av (by omega) (by omega) (by omega) ai gd K (fun bQ a8 a1 a6 aC ak=>U (bQ,a8,a1,a6) ⟨aC,ak⟩)) ?_
   rintro ⟨gX,e3,dU,eD⟩ dE
   dsimp only at dE
   obtain ⟨dE,A4⟩:=dE
   have A5:=dE.ba
   have A6:=dE.ad
   have yx:=dE.bB
   refine dw [0] [bA l n e3 dU eD] (ax (cp l n e3)) rfl (fun bs ai gd=>EI l n e3 dU eD (bs.getD 0 0) av (by omega) (by omega) ai gd) ?_
   refine bx 115 [0] (σ:=au×Int×Int×Int) (fun ⟨eY,dy,dt,dQ⟩=>aX l (gD l n e3) eY e3 dU eD dy dt dQ) (fun ⟨eY,dy,dt,dQ⟩=>fR eY) (fun ⟨eY,dy,dt,dQ⟩=>[bA l n dy dt dQ]) rfl (fun _=>rfl) (fun bs ai gd aq K U=>yL l n e3 dU eD 6 (bs.getD 0 0) (vO l n av hw 6 (by decide)) av (by omega) (by omega) (by omega) rfl ai gd K (cW.up aq aP) (fun c1 a8 a1 a6 aC=>U (c1,a8,a1,a6) aC)) ?_
   rintro ⟨eY,dy,dt,dQ⟩ ej
   dsimp only at ej
   have rY:=ej.ba
   have rZ:=ej.ad
   have r0:=ej.bB
   refine aB ?_
   refine cf [0,2,3,4,5,6] 50 ((dt==0)&&((!(eY.kind==1))||(!(q6 eY.v)))) ?_ ?_
   · repeat' first
      |exact ⟨⟨_,rfl,by grind [bD.val,q6]⟩,rfl⟩
      |refine ag (fun _=>?_) (fun _=>?_)
      |refine cG (fun _=>Fb eY.v) rfl ?_
   refine ag (fun aa=>?_) (fun aa=>?_)
   · replace aa:(dt=0)∧((eY.kind≠1)∨(q6 eY.v=false)):=⟨(eq_of_beq (dH aa)),((dq (eA aa)).imp (fun q=>(ne_of_beq_false (dz q))) (fun q=>(dz q)))⟩
     refine RE b2 115 rfl rfl ?_
     refine ap dD xs ([(⟨fH,eY.v⟩:(ar×aW))]:List (ar×aW)) rfl rfl (fun _=>⟨rfl,rfl⟩) (by (simp only [List.length_append,List.length_cons,List.length_nil];omega)) ?_
     refine ⟨(dy,5,cp l n e3,xs++([(⟨fH,eY.v⟩:(ar×aW))]:List (ar×aW))),⟨rfl,rfl⟩,?_,?_⟩
     · try dsimp only
       have c0:=ej.LA aa.1 aa.2
       have aM:=fun z=>cP.no (by decide) (dd.bM (dE.bM (c0.bM z)))
       simp only [List.length_append,List.length_cons,List.length_nil]
       exact ⟨by omega,by omega,by omega,by omega,fun z=>by have:=aM z;have:=q7 cU;omega,by have:=q7 cU;omega,fun z=>by omega,yR- 1,fun z=>by have:=pf cU;omega,((((uk.to fun _=>Bx (by have:=pf cU;omega) v1).room cP (by decide)).at ak).step dd |>.step dE).step c0⟩
     try dsimp only
     rw [if_pos cU]
     split<;>omega
   replace aa:(dt≠0)∨((eY.kind=1)∧(q6 eY.v=true)):=((eB aa).imp (fun q=>(ne_of_beq_false q)) (fun q=>⟨(eq_of_beq (du (cb q))),(du (dp q))⟩))
   refine ap dD xs ([(⟨fH,eY.v⟩:(ar×aW))]:List (ar×aW)) rfl rfl (fun _=>⟨rfl,rfl⟩) (by (simp only [List.length_append,List.length_cons,List.length_nil];omega)) ?_
   refine ⟨(dy,dt,dQ,xs++([(⟨fH,eY.v⟩:(ar×aW))]:List (ar×aW))),⟨rfl,rfl⟩,?_,?_⟩
   · try dsimp only
     have c0:=ej.LB fun z=>aa.resolve_left fun c=>c z
     have aM:=fun z=>cP.no (by decide) (dd.bM (dE.bM (c0.bM z)))
     simp only [List.length_append,List.length_cons,List.length_nil]
     exact ⟨by omega,by omega,by omega,by omega,fun z=>by have:=aM z;have:=q7 cU;omega,by have:=q7 cU;omega,fun z=>by omega,yR- 1,fun z=>by have:=pf cU;omega,((((uk.to fun _=>Bx (by have:=pf cU;omega) v1).room cP (by decide)).at ak).step dd |>.step dE).step c0⟩
   try dsimp only
   rw [if_pos cU]
   split<;>omega
 refine aB ?_
 refine cH (σ:=Int×Int×Int×List eU) [] [0,2,3] 3 (fun ⟨a3,cS,gx,dn⟩=>([(0, .loc 0 0),(2, .loc 1 0),(3, .loc 2 0)],[bA l n a3 cS gx, .cells [ay ([]), .own [], .own [], .own []], .cells [ay db, .own (xs.map dD), .own (dn.map dG), .own []]],m)) (fun ⟨a3,cS,gx,dn⟩=>0≤a3∧a≤a3∧a3≤l.length∧0≤cS∧(cS=0→(dn.length:Int)≤8)∧dn.length≤9∧(cS=0→a<a3)∧∃bV:Nat,(cS=0→l.length- a3<bV)∧gq (k1 l n a) a e q a3 cS gx (oC l n (FA l n db xs) bV a3 dn)) (fun ⟨a3,cS,gx,dn⟩=>if cS=0 then l.length- a3.toNat+1 else 0) (a2,az,bl,[]) ⟨rfl,rfl⟩ ?_ ?_
 · try dsimp only
   exact ⟨FC,FD,FE,FF,fun _=>by simp,by simp,FG,l.length+1,fun _=>by omega,uk.to fun z=>LI (by have:=pf z;omega) (pV J z)⟩
 rintro ⟨a3,cS,gx,dn⟩ bK
 dsimp only at bK
 obtain ⟨FH,FI,FJ,FK,um,Vh,FL,By,q8,wK⟩:=bK
 refine aB ?_
 refine dw [0] [bA l n a3 cS gx] (jx (jb l 1 ([114,101,115,111,117,114,99,101]:List UInt8) a3 cS)) rfl (fun bs ai gd=>vB l n a3 cS gx 1 ([114,101,115,111,117,114,99,101]:List UInt8) (bs.getD 0 0) av (by omega) (by omega) (by omega) ai gd) ?_
 refine ag (fun aj=>?_) (fun aj=>?_)
 · obtain ⟨eP,v2⟩:=o8 aj
   have iW:=gm v2
   refine bN ?_
   refine bx 115 [0] (σ:=Int×Int) (fun ⟨ev,eS⟩=>lG l n 2 a3 cS gx ev eS ((dn.length:Int)=8)) (fun ⟨ev,eS⟩=> .da []) (fun ⟨ev,eS⟩=>[bA l n a3 ev eS]) rfl (fun _=>rfl) (fun bs ai gd aq K U=>Bw l n a3 cS gx (dn.length:Int) 8 (bs.getD 0 0) av (by omega) (by omega) (by omega) ai gd K (fun a1 a6 aC=>U (a1,a6) aC)) ?_
   rintro ⟨ev,eS⟩ dR
   dsimp only at dR
   have yy:=dR.bB (by decide) (by omega)
   refine ag (by omega) ?_
   refine hS b2 Tryz.mixed (σ:=Int×Int×Int×eU) (.f 0 (.f 2 (.o 1 (.s 3 (.s 4 (.s 5 (.f 6 (.s 7 .d))))) (.o 3 (.o 1 (.s 4 (.s 5 (.f 6 (.s 7 .d)))) (.o 4 (.s 1 (.s 5 (.f 6 (.s 7 .d)))) .z)) .z)))) [] [0,2,3] 3 (fun ⟨nK,f9,ov,lZ⟩=>([(0, .loc 0 0),(2, .loc 1 0),(3, .loc 2 0)],[bA l n nK f9 ov, .cells [ay ([]), .own [], .own [], .own []], .cells [ay db, .own (xs.map dD), .own ((dn++([lZ]:List eU)).map dG), .own []]],m)) (fun ⟨nK,f9,ov,lZ⟩=>aX l (l9 l n (a3+1)) lZ (a3+1) ev eS nK f9 ov) (by decide+kernel) ?_ ?_
   · rintro ⟨nK,f9,ov,lZ⟩ wL
     try dsimp only at wL
     have Yg:=wL.ba
     have Yh:=wL.ad
     have Yi:=wL.bB
     refine ⟨(nK,f9,ov,dn++([lZ]:List eU)),⟨rfl,rfl⟩,?_,?_⟩
     · try dsimp only
       have aM:=fun z=>dR.no (by decide) (wL.bM z)
       simp only [List.length_append,List.length_cons,List.length_nil]
       exact ⟨by omega,by omega,by omega,by omega,fun z=>by have:=aM z;have:=um eP;omega,by have:=um eP;omega,fun z=>by omega,By- 1,fun z=>by have:=q8 eP;omega,(((wK.to fun _=>Fy (by have:=q8 eP;omega) v2).room dR (by decide)).at ak).step wL⟩
     try dsimp only
     rw [if_pos eP]
     split<;>omega
   repeat' first
    |refine ⟨(fX,gi,gB,q9),⟨rfl,rfl⟩,ed⟩
    |(refine bx 115 [0] (σ:=eU×Int×Int×Int) (fun ⟨q9,fX,gi,gB⟩=>aX l (l9 l n (a3+1)) q9 (a3+1) ev eS fX gi gB) (fun ⟨q9,fX,gi,gB⟩=> .agg [ay q9.kind,ay q9.name,aH (q9.parts.map cQ)]) (fun ⟨q9,fX,gi,gB⟩=>[bA l n fX gi gB]) rfl (fun _=>rfl) (fun bs ai gd aq K U=>Vb l n (a3+1) ev eS (bs.getD 0 0) av (by omega) (by omega) (by omega) hw ai gd K (cW.up aq aP) (fun c1 a8 a1 a6 aC=>U (c1,a8,a1,a6) aC)) ?_;rintro ⟨q9,fX,gi,gB⟩ ed;dsimp only at ed;have A7:=ed.ba;have A8:=ed.ad;have A9:=ed.bB)
    |refine ap dG dn ([q9]:List eU) rfl rfl (fun _=>⟨rfl,rfl⟩) (by (simp only [List.length_append,List.length_cons,List.length_nil];omega)) ?_
    |refine ⟨?_,?_,trivial⟩
 refine aB ?_
 refine cH (σ:=Int×Int×Int×List (ar×au)) [] [0,2,3] 3 (fun ⟨a4,eO,gG,dv⟩=>([(0, .loc 0 0),(2, .loc 1 0),(3, .loc 2 0)],[bA l n a4 eO gG, .cells [ay ([]), .own [], .own [], .own []], .cells [ay db, .own (xs.map dD), .own (dn.map dG), .own (dv.map cQ)]],m)) (fun ⟨a4,eO,gG,dv⟩=>0≤a4∧a≤a4∧a4≤l.length∧0≤eO∧(eO=0→(dv.length:Int)≤8)∧dv.length≤9∧(eO=0→a<a4)∧∃bV:Nat,(eO=0→l.length- a4<bV)∧gq (k1 l n a) a e q a4 eO gG (oD l n (Fz db xs dn) bV a4 dv)) (fun ⟨a4,eO,gG,dv⟩=>if eO=0 then l.length- a4.toNat+1 else 0) (a3,cS,gx,[]) ⟨rfl,rfl⟩ ?_ ?_
 · try dsimp only
   exact ⟨FH,FI,FJ,FK,fun _=>by simp,by simp,FL,l.length+1,fun _=>by omega,wK.to fun z=>LJ (by have:=q8 z;omega) (pV aj z)⟩
 rintro ⟨a4,eO,gG,dv⟩ ek
 dsimp only at ek
 obtain ⟨Vi,FM,yS,FN,yT,Vj,FO,FP,uo,uq⟩:=ek
 refine aB ?_
 refine dw [0] [bA l n a4 eO gG] (jx (jb l 1 ([111,117,116,112,117,116]:List UInt8) a4 eO)) rfl (fun bs ai gd=>vB l n a4 eO gG 1 ([111,117,116,112,117,116]:List UInt8) (bs.getD 0 0) av (by omega) (by omega) (by omega) ai gd) ?_
 refine ag (fun aG=>?_) (fun aG=>?_)
 · obtain ⟨eN,v3⟩:=o8 aG
   have oe:=gm v3
   refine bN ?_
   refine bx 115 [0] (σ:=Int×Int) (fun ⟨e5,ff⟩=>lG l n 2 a4 eO gG e5 ff ((dv.length:Int)=8)) (fun ⟨e5,ff⟩=> .da []) (fun ⟨e5,ff⟩=>[bA l n a4 e5 ff]) rfl (fun _=>rfl) (fun bs ai gd aq K U=>Bw l n a4 eO gG (dv.length:Int) 8 (bs.getD 0 0) av (by omega) (by omega) (by omega) ai gd K (fun a1 a6 aC=>U (a1,a6) aC)) ?_
   rintro ⟨e5,ff⟩ fi
   dsimp only at fi
   have vN:=fi.bB (by decide) (by omega)
   refine ag (by omega) ?_
   refine bx 115 [0] (σ:=ar×Int×Int×Int) (fun ⟨e4,eJ,eK,fa⟩=>aX l (b8 l n 1 [] (a4+1)) e4 (a4+1) e5 ff eJ eK fa) (fun ⟨e4,eJ,eK,fa⟩=>ay e4) (fun ⟨e4,eJ,eK,fa⟩=>[bA l n eJ eK fa]) rfl (fun _=>rfl) (fun bs ai gd aq K U=>pb l n (a4+1) e5 ff (bs.getD 0 0) av (by omega) (by omega) (by omega) ai gd K (fun bQ a8 a1 a6 aC=>U (bQ,a8,a1,a6) aC)) ?_
   rintro ⟨e4,eJ,eK,fa⟩ et
   dsimp only at et
   have vG:=et.ba
   have vH:=et.ad
   have vI:=et.bB
   refine bx 115 [0] (σ:=ar×Int×Int×Int) (fun ⟨wM,gn,gC,gJ⟩=>(aX l (b8 l n 4 ([61]:List UInt8) eJ) wM eJ eK fa gn gC gJ)∧(gC≠0→wM=[])) (fun ⟨wM,gn,gC,gJ⟩=>ay wM) (fun ⟨wM,gn,gC,gJ⟩=>[bA l n gn gC gJ]) rfl (fun _=>rfl) (fun bs ai gd aq K U=>jz l n eJ eK fa 4 ([61]:List UInt8) (bs.getD 0 0) av (by omega) (by omega) (by omega) ai gd K (fun bQ a8 a1 a6 aC ak=>U (bQ,a8,a1,a6) ⟨aC,ak⟩)) ?_
   rintro ⟨wM,gn,gC,gJ⟩ fb
   dsimp only at fb
   obtain ⟨fb,Yj⟩:=fb
   have Bb:=fb.ba
   have Bc:=fb.ad
   have Bd:=fb.bB
   refine hS b2 Tryz.mixed (σ:=Int×Int×Int×au) (.f 0 (.f 2 (.f 3 (.o 1 (.s 4 (.s 5 (.s 6 (.s 7 (.f 8 (.s 9 .d)))))) (.o 4 (.o 1 (.s 5 (.s 6 (.s 7 (.f 8 (.s 9 .d))))) (.o 5 (.o 1 (.s 6 (.s 7 (.f 8 (.s 9 .d)))) (.o 6 (.s 1 (.s 7 (.f 8 (.s 9 .d)))) .z)) .z)) .z))))) [] [0,2,3] 3 (fun ⟨c9,g9,yU,z9⟩=>([(0, .loc 0 0),(2, .loc 1 0),(3, .loc 2 0)],[bA l n c9 g9 yU, .cells [ay ([]), .own [], .own [], .own []], .cells [ay db, .own (xs.map dD), .own (dn.map dG), .own ((dv++([(⟨e4,z9⟩:(ar×au))]:List (ar×au))).map cQ)]],m)) (fun ⟨c9,g9,yU,z9⟩=>aX l (gD l n gn) z9 gn gC gJ c9 g9 yU) (by decide+kernel) ?_ ?_
   · rintro ⟨c9,g9,yU,z9⟩ wN
     try dsimp only at wN
     have Yk:=wN.ba
     have Yl:=wN.ad
     have Ym:=wN.bB
     refine ⟨(c9,g9,yU,dv++([(⟨e4,z9⟩:(ar×au))]:List (ar×au))),⟨rfl,rfl⟩,?_,?_⟩
     · try dsimp only
       have aM:=fun z=>fi.no (by decide) (et.bM (fb.bM (wN.bM z)))
       simp only [List.length_append,List.length_cons,List.length_nil]
       exact ⟨by omega,by omega,by omega,by omega,fun z=>by have:=aM z;have:=yT eN;omega,by have:=yT eN;omega,fun z=>by omega,FP- 1,fun z=>by have:=uo eN;omega,((((uq.to fun _=>LK (by have:=uo eN;omega) v3).room fi (by decide)).at ak).step et |>.step fb).step wN⟩
     try dsimp only
     rw [if_pos eN]
     split<;>omega
   repeat' first
    |refine ⟨(dN,dO,eu,dF),⟨rfl,rfl⟩,eR⟩
    |(refine bx 115 [0] (σ:=au×Int×Int×Int) (fun ⟨dF,dN,dO,eu⟩=>aX l (gD l n gn) dF gn gC gJ dN dO eu) (fun ⟨dF,dN,dO,eu⟩=>fR dF) (fun ⟨dF,dN,dO,eu⟩=>[bA l n dN dO eu]) rfl (fun _=>rfl) (fun bs ai gd aq K U=>yL l n gn gC gJ 6 (bs.getD 0 0) (vO l n av hw 6 (by decide)) av (by omega) (by omega) (by omega) rfl ai gd K (cW.up aq aP) (fun c1 a8 a1 a6 aC=>U (c1,a8,a1,a6) aC)) ?_;rintro ⟨dF,dN,dO,eu⟩ eR;dsimp only at eR;have tC:=eR.ba;have tD:=eR.ad;have tE:=eR.bB)
    |refine ap cQ dv ([(⟨e4,dF⟩:(ar×au))]:List (ar×au)) rfl rfl (fun _=>⟨rfl,rfl⟩) (by (simp only [List.length_append,List.length_cons,List.length_nil];omega)) ?_
    |refine ⟨?_,?_,trivial⟩
 refine rt rfl fun _=>?_
 show K (.agg [.str db, .slice false (xs.map dD), .slice false (dn.map dG), .slice false (dv.map cQ)]) (ae.aS m [(r, .cells [.slice false (l.map bm), .int .i64 a4, .int .i64 n, .err 115 eO, .int .i64 gG])])
 refine U ⟨db,xs,dn,dv⟩ _ _ _ ?_
 by_cases z:eO=0
 · exact (uq.to fun z=>LL (by have:=uo z;omega) (pV aG z)).ok z (FO z) yS
 · exact uq.bad z FM yS FN
end Go.Proofs
end
section
namespace Go.Proofs
open Go Go.bg Go.cz
set_option maxRecDepth 100000
theorem Bz {l:List Tok} {n a:Int} {bV:Nat} {xs:List dm} (aZ:0<bV) (h:a<l.length):jT l n bV a xs=if (xs.length:Int)=8 then .bad 2 (cp l n a) else (k1 l n a).bind fun s a=>jT l n (bV- 1) a (xs++[s]):=by
 obtain ⟨k,rfl⟩:∃k,bV=k+1:=⟨bV- 1,by omega⟩
 rw [jT,if_pos h];rfl
theorem LN {l:List Tok} {n a:Int} {bV:Nat} {xs:List dm} (aZ:0<bV) (h:(l.length:Int)≤a):jT l n bV a xs= .ok xs a:=by
 obtain ⟨k,rfl⟩:∃k,bV=k+1:=⟨bV- 1,by omega⟩
 rw [jT,if_neg (by omega)]
noncomputable def BA (s:ar):bP (List dm):=jT (c7 s).1 s.length ((c7 s).1.length+1) 0 []
noncomputable def hl (s:ar):List dm×Int×Int:=
 if (c7 s).2.2=0 then (if (BA s).f=0 then ((BA s).x,0,0) else ([],(BA s).p,(BA s).f)) else ([],(c7 s).2.1,(c7 s).2.2)
theorem LO {s:ar} {l:List Tok} {e q:Int} {xs:List dm} {b:Int} (hv:(c7 s).1=l) (aq:(c7 s).2.2=0) (h:dV (jT l s.length (l.length+1) 0 []) e q (.ok xs b)) (ak:e=0):hl s=(xs,0,0):=by
 subst hv
 have J:=h.y ak
 rw [hl,if_pos aq]
 show (if (jT _ _ _ _ _).f=0 then ((jT _ _ _ _ _).x,0,0) else _)=_
 rw [J];rfl
theorem BB {s:ar} {l:List Tok} {e q:Int} {R:bP (List dm)} (hv:(c7 s).1=l) (aq:(c7 s).2.2=0) (h:dV (jT l s.length (l.length+1) 0 []) e q R) (ak:e≠0):hl s=([],q,e):=by
 subst hv
 obtain ⟨J,aa⟩:=h.z ak
 rw [hl,if_pos aq]
 show (if (jT _ _ _ _ _).f=0 then _ else ([],(jT _ _ _ _ _).p,(jT _ _ _ _ _).f))=_
 rw [if_neg (by rw [J];exact ak),J,aa]
theorem LP {s:ar} (aq:(c7 s).2.2≠0):hl s=([],(c7 s).2.1,(c7 s).2.2):=by rw [hl,if_neg aq]
set_option maxHeartbeats 4000000 in
theorem Vk (s:ar) (l:List Tok) (aw:s.length≤16777216) (hv:(c7 s).1=l) (m:ae) (K:ab→ae→Prop) (aP:cW m) (U:K (.tuple [lj ey (hl s).1, .int .i64 (hl s).2.1, .err 115 (hl s).2.2]) m):bh Tryz.prog 31 [.str s] m K:=by
 refine bh.pl ?_
 have av:l.length≤5000:=by rw [←hv];have:=A0 s;omega
 have EF:=AZ s
 have hw:lx l:=by rw [←hv];exact E8 s
 refine enter (c:=cT [] [] [6] [11999] [5,11] []) (vs:=[.aI (.str s)]) (L:=[]) (m:=m) true b2 Tryz.mixed Tryz.func31 rfl (k:=1) (by show cO [11999] _ _ _=true;decide+kernel) rfl (Good.nil m) ?_
 refine cG (fun _=>fun m K U=>Km s aw m K (by rw [hv];exact U)) rfl ?_
 refine aB ?_
 refine ag (fun J=>?_) (fun J=>?_)
 · refine RF 115 (a:=0) (j:=3) rfl rfl ?_
   refine Rn ?_
   refine aB ?_
   refine cH (σ:=(List dm)×Int×Int×Int) [] [8,9] 1 (fun ⟨xs,a2,az,bl⟩=>([(8, .loc 0 0),(9, .own (xs.map ey))],[bA l (s.length:Int) a2 az bl],m)) (fun ⟨xs,a2,az,bl⟩=>0≤a2∧a2≤l.length∧0≤az∧xs.length≤8∧∃bV:Nat,(az=0→l.length- a2<bV)∧dV (jT l s.length (l.length+1) 0 []) az bl (jT l s.length bV a2 xs)) (fun ⟨xs,a2,az,bl⟩=>if az=0 then l.length- a2.toNat+1 else 0) ([],0,0,0) ⟨rfl,rfl⟩ ?_ ?_
   · try dsimp only
     exact ⟨by omega,by omega,by omega,by simp,l.length+1,fun _=>by omega,⟨fun _=>rfl,fun h=>absurd rfl h⟩⟩
   rintro ⟨xs,a2,az,bl⟩ aE
   dsimp only at aE
   obtain ⟨i1,i2,i3,i4,bV,i8,i9⟩:=aE
   refine aB ?_
   refine cf [8,9] 41 ((az==0)&&(decide (a2<(l.length:Int)))) ?_ ?_
   · repeat' first
      |exact ⟨⟨_,rfl,by grind [bD.val]⟩,rfl⟩
      |refine ag (fun _=>?_) (fun _=>?_)
      |refine bN ?_
   refine ag (fun aa=>?_) (fun aa=>?_)
   · replace aa:(az=0)∧(a2<(l.length:Int)):=⟨(eq_of_beq (dH aa)),(of_decide_eq_true (eA aa))⟩
     obtain ⟨cU,eP⟩:=aa
     refine aB ?_
     refine bN ?_
     refine ag (fun aj=>?_) (fun aj=>?_)
     · refine bx 115 [0] (σ:=Int×Int) (fun ⟨bb,bo⟩=>(az=0→bb=2∧bo=cp l (s.length:Int) a2)∧(az≠0→bb=az∧bo=bl)∧0<bb) (fun ⟨bb,bo⟩=> .da []) (fun ⟨bb,bo⟩=>[bA l (s.length:Int) a2 bb bo]) rfl (fun _=>rfl) (fun bs ai gd aq K U=>o9 l (s.length:Int) a2 az bl 2 (bs.getD 0 0) (by decide) av (by omega) (by omega) (by omega) ai gd K (fun z=>U (2,cp l (s.length:Int) a2) ⟨fun _=>⟨rfl,rfl⟩,fun y=>absurd z y,by decide⟩) (fun z=>U (az,bl) ⟨fun y=>absurd y z,fun _=>⟨rfl,rfl⟩,by omega⟩)) ?_
       rintro ⟨bb,bo⟩ bp
       dsimp only at bp
       obtain ⟨ly,ku,mP⟩:=bp
       refine aB ?_
       refine ag (fun aG=>?_) (fun aG=>?_)
       · refine bn rfl fun _=>?_
         show K (.tuple [.slice false (xs.map ey), .int .i64 0, .err 115 0]) m
         exact absurd aG (by omega)
       refine hS b2 Tryz.mixed (σ:=Unit) (.f 0 (.f 1 (.f 2 (.f 4 (.f 5 (.f 6 (.o 3 (.o 7 (.s 8 (.s 9 (.s 10 .d))) (.o 8 (.o 7 (.s 9 (.s 10 .d)) (.o 9 (.s 7 (.s 10 .d)) .z)) .z)) (.o 7 (.o 3 (.s 8 (.s 9 (.s 10 .d))) (.o 8 (.s 3 (.s 9 (.s 10 .d))) .z)) (.o 8 (.o 3 (.o 7 (.s 9 (.s 10 .d)) (.o 9 (.s 7 (.s 10 .d)) .z)) (.o 7 (.s 3 (.s 9 (.s 10 .d))) .z)) .z))))))))) [] [2,3,4] 1 (fun _=>([(2, .own []),(3,ax bo),(4, .aI (.err 115 bb))],[bA l (s.length:Int) a2 bb bo],m)) (fun _=>True) (by decide+kernel) ?_ ?_
       · rintro _ e9
         try dsimp only at e9
         refine bn rfl fun _=>?_
         show K (.tuple [.slice false [], .int .i64 bo, .err 115 bb]) m
         have aA:=BB hv J (dV.fail (R:= .bad 0 0) (i9.to fun _=>(Bz (by have:=i8 cU;omega) eP).trans (if_pos aj)) ly ku mP) (by omega)
         rw [aA] at U
         exact U
       repeat' first
        |refine ⟨(),⟨rfl,rfl⟩,trivial⟩
        |refine ⟨?_,?_,?_,trivial⟩
        |refine ⟨?_,?_,trivial⟩
     refine bx 115 [0] (σ:=dm×Int×Int×Int) (fun ⟨eZ,dj,b3,cg⟩=>aX l (k1 l (s.length:Int) a2) eZ a2 az bl dj b3 cg) (fun ⟨eZ,dj,b3,cg⟩=> .agg [ay eZ.name,aH (eZ.ins.map dD),aH (eZ.res.map dG),aH (eZ.outs.map cQ)]) (fun ⟨eZ,dj,b3,cg⟩=>[bA l (s.length:Int) dj b3 cg]) rfl (fun _=>rfl) (fun bs ai gd aq K U=>Vf l (s.length:Int) a2 az bl (bs.getD 0 0) av (by omega) (by omega) (by omega) hw cU ai gd K (cW.up aq aP) (fun c1 a8 a1 a6 aC=>U (c1,a8,a1,a6) aC)) ?_
     rintro ⟨eZ,dj,b3,cg⟩ cx
     dsimp only at cx
     have qV:=cx.ba
     have ig:=cx.ad
     have qW:=cx.bB
     refine ap ey xs ([eZ]:List dm) rfl rfl (fun _=>⟨rfl,rfl⟩) (by (simp only [List.length_append,List.length_cons,List.length_nil];omega)) ?_
     refine ⟨(xs++([eZ]:List dm),dj,b3,cg),⟨rfl,rfl⟩,?_,?_⟩
     · try dsimp only
       have bc:=cx.gt
       simp only [List.length_append,List.length_cons,List.length_nil]
       exact ⟨by omega,by omega,by omega,by omega,bV- 1,fun z=>by have:=bc z;have:=i8 cU;omega,(i9.to fun _=>(Bz (by have:=i8 cU;omega) eP).trans (if_neg aj)).step cx⟩
     try dsimp only
     rw [if_pos cU]
     have bc:=cx.gt
     split<;>omega
   replace aa:(az≠0)∨((l.length:Int)≤a2):=((eB aa).imp (fun q=>(ne_of_beq_false q)) (fun q=>(Int.not_lt.1 (of_decide_eq_false q))))
   refine aB ?_
   refine ag (fun aR=>?_) (fun aR=>?_)
   · refine bn rfl fun _=>?_
     show K (.tuple [.slice false (xs.map ey), .int .i64 0, .err 115 0]) m
     have aA:=LO hv J (i9.to fun z=>LN (by have:=i8 z;omega) (aa.resolve_left fun c=>c z)) aR
     rw [aA] at U
     exact U
   refine hS b2 Tryz.mixed (σ:=Unit) (.f 0 (.f 1 (.f 2 (.f 4 (.f 5 (.f 6 (.o 3 (.o 7 (.s 8 (.s 9 (.s 10 .d))) (.o 8 (.o 7 (.s 9 (.s 10 .d)) (.o 9 (.s 7 (.s 10 .d)) .z)) .z)) (.o 7 (.o 3 (.s 8 (.s 9 (.s 10 .d))) (.o 8 (.s 3 (.s 9 (.s 10 .d))) .z)) (.o 8 (.o 3 (.o 7 (.s 9 (.s 10 .d)) (.o 9 (.s 7 (.s 10 .d)) .z)) (.o 7 (.s 3 (.s 9 (.s 10 .d))) .z)) .z))))))))) [] [2,3,4] 1 (fun _=>([(2, .own []),(3,ax bl),(4, .aI (.err 115 az))],[bA l (s.length:Int) a2 az bl],m)) (fun _=>True) (by decide+kernel) ?_ ?_
   · rintro _ e9
     try dsimp only at e9
     refine bn rfl fun _=>?_
     show K (.tuple [.slice false [], .int .i64 bl, .err 115 az]) m
     have aA:=BB hv J i9 aR
     rw [aA] at U
     exact U
   repeat' first
    |refine ⟨(),⟨rfl,rfl⟩,trivial⟩
    |refine ⟨?_,?_,?_,trivial⟩
    |refine ⟨?_,?_,trivial⟩
 refine bn rfl fun _=>?_
 show K (.tuple [.slice false [], .int .i64 ((c7 s).2.1), .err 115 ((c7 s).2.2)]) m
 rw [LP J] at U
 exact U
theorem Vl (s:ar) (aw:s.length≤16777216) (m:ae) (aP:cW m) (K:ab→ae→Prop) (U:K (.tuple [lj ey (hl s).1, .int .i64 (hl s).2.1, .err 115 (hl s).2.2]) m):bh Tryz.prog 31 [.str s] m K:=Vk s _ aw rfl m K aP U
end Go.Proofs
end
section
namespace Go.Proofs
open Go Go.bg Go.cz
set_option maxRecDepth 100000
theorem BC:∀{l:List (ar×aW)},oA l=0→∀p∈l,cu p.1=true∧b1 p.2=0
 |[],_,p,aQ=>by cases aQ
 |x::r,h,p,aQ=>by
  rw [oA] at h
  split at h
  · rename_i c
    rcases List.mem_cons.1 aQ with rfl|aQ
    · exact ⟨c.1,c.2.2⟩
    · exact BC h p aQ
  · cases h
theorem LQ {l:List (ar×au)}:∀(n:Nat) (i:Int),0≤i→k0 l n i=0→∀j:Int,i≤j→j<i+n→ew (I l j).2=0
 |0,i,_,_,j,J,aa=>by omega
 |n+1,i,aJ,h,j,J,aa=>by
  rw [k0] at h
  split at h
  · split at h
    · rename_i c
      rcases Int.lt_or_le i j with q|q
      · exact LQ n (i+1) (by omega) h j (by omega) (by omega)
      · rw [show j=i by omega];exact c
    · rename_i c;exact absurd h c
  · cases h
theorem LR {l:List (ar×au)} (h:lF l=0):∀p∈l,ew p.2=0:=by
 intro p aQ
 obtain ⟨k,al,rfl⟩:=List.getElem_of_mem aQ
 have:=LQ l.length 0 (Int.le_refl _) h (k:Int) (by omega) (by omega)
 simpa [I,List.getD_eq_getElem?_getD,al] using this
theorem LS:∀{l:List eU},mZ l=0→∀x∈l,x.parts.length≤6∧∀p∈x.parts,ew p.2=0
 |[],_,p,aQ=>by cases aQ
 |y::r,h,x,an=>by
  rw [mZ] at h
  split at h
  · split at h
    · cases h
    · rename_i c
      split at h
      · rename_i c2
        rcases List.mem_cons.1 an with rfl|an
        · exact ⟨by omega,LR c2⟩
        · exact LS h x an
      · rename_i c2;exact absurd h c2
  · cases h
theorem LU:∀{l:List (ar×au)},na l=0→∀p∈l,ew p.2=0
 |[],_,p,aQ=>by cases aQ
 |x::r,h,p,aQ=>by
  rw [na] at h
  split at h
  · split at h
    · rename_i c
      rcases List.mem_cons.1 aQ with rfl|aQ
      · exact c
      · exact LU h p aQ
    · rename_i c;exact absurd h c
  · cases h
structure Vm (s:dm):Prop where
 li:s.ins.length≤8
 ur:s.res.length≤8
 ba:s.outs.length≤8
 i:∀p∈s.ins,cu p.1=true∧b1 p.2=0
 r:∀x∈s.res,x.parts.length≤6∧∀p∈x.parts,ew p.2=0
 o:∀p∈s.outs,ew p.2=0
theorem Vn {s:dm} (h:e6 s=0):Vm s:=by
 unfold e6 at h
 split at h
 · cases h
 · split at h
   · cases h
   · rename_i c
     unfold so at h
     split at h
     · rename_i c2;exact absurd h c2
     · rename_i c2
       unfold sn at h
       split at h
       · rename_i c3;exact absurd h c3
       · rename_i c3
         exact ⟨by omega,by omega,by omega,BC (by simpa using c2),LS (by simpa using c3),LU h⟩
end Go.Proofs
end
section
namespace Go.Proofs
open Go Go.bg Go.cz
set_option maxRecDepth 100000
def yV (l:List Int) (n:Int):List Int:=if n∈l then l else l++[n]
theorem LV (l:List Int) (n:Int):(yV l n).length≤l.length+1:=by unfold yV;split<;>simp
end Go.Proofs
end
section
namespace Go.Proofs
open Go Go.bg Go.cz
set_option maxRecDepth 100000
structure ra where
 lu:Int
 st:List Int
 dv:List (List Int)
def Vo (S:dm) (W:List dm) (e:au):Int:=
 if e.kind=2 then l8 (S.ins.map Prod.fst) e.s
 else if e.kind=3 then l8 (S.res.map eU.name) e.s
 else if e.kind=4 then (if 0≤l8 (W.map dm.name) e.s then (if l8 ((I W (l8 (W.map dm.name) e.s)).outs.map Prod.fst) e.t<0 then-1 else l8 (W.map dm.name) e.s) else l8 (W.map dm.name) e.s)
 else 0
def look (S:dm) (W:List dm) (kf:Int) (σ:ra) (e:au):ra:=
 ⟨if Vo S W e<0∧σ.lu=0 then 7 else σ.lu,
  if e.kind=4∧0≤l8 (W.map dm.name) e.s then yV σ.st (l8 (W.map dm.name) e.s) else σ.st,
  if e.kind=3∧0≤l8 (S.res.map eU.name) e.s∧0≤kf then σ.dv.set kf.toNat (yV (I σ.dv kf) (l8 (S.res.map eU.name) e.s)) else σ.dv⟩
structure nb (n:Int) (kB:Nat) (σ:ra):Prop where
 s:(σ.st.length:Int)≤n
 z:∀z∈σ.dv,(z.length:Int)≤n
 l:σ.dv.length=kB
theorem nb.mono {n rQ:Int} {kB:Nat} {σ:ra} (h:nb n kB σ) (aM:n≤rQ):nb rQ kB σ:=⟨by have:=h.s;omega,fun z ak=>by have:=h.z z ak;omega,h.l⟩
theorem nb.look {n:Int} {kB:Nat} {σ:ra} (h:nb n kB σ) (S:dm) (W:List dm) (kf:Int) (ad:kf<kB) (e:au):nb (n+1) kB (look S W kf σ e):=by
 have aw:=h.s
 refine ⟨?_,fun z ak=>?_,?_⟩
 · show ((if _ then _ else _:List Int).length:Int)≤_
   split
   · have:=LV σ.st (l8 (W.map dm.name) e.s);omega
   · omega
 · replace ak:z∈(if e.kind=3∧0≤l8 (S.res.map eU.name) e.s∧0≤kf then σ.dv.set kf.toNat (yV (I σ.dv kf) (l8 (S.res.map eU.name) e.s)) else σ.dv):=ak
   split at ak
   · rename_i c
     rcases List.mem_or_eq_of_mem_set ak with ak|rfl
     · have:=h.z z ak;omega
     · have J:=LV (I σ.dv kf) (l8 (S.res.map eU.name) e.s)
       have aa:=h.z _ (bF c.2.2 (by rw [h.l];exact ad))
       omega
   · have:=h.z z ak;omega
 · show (if _ then _ else _:List (List Int)).length=_
   split
   · rw [List.length_set];exact h.l
   · exact h.l
end Go.Proofs
end
section
namespace Go.Proofs
open Go Go.bg Go.cz
set_option maxRecDepth 100000
mutual
def yW:au→List au
 | .mk k v s t a n=> .mk k v s t a n::yX a
def yX:List au→List au
 |[]=>[]
 |e::r=>yW e++yX r
end
def Vp (S:dm) (W:List dm) (kf:Int) (σ:ra) (e:au):ra:=(yW e).foldl (look S W kf) σ
mutual
theorem LW:∀e:au,((yW e).length:Int)=fS e
 | .mk k v s t a n=>by
   have h:=LX a
   simp only [yW,fS,List.length_cons];omega
theorem LX:∀l:List au,((yX l).length:Int)=je l
 |[]=>by simp [yX,je]
 |e::r=>by
  have J:=LW e
  have aa:=LX r
  simp only [yX,je,List.length_append];omega
end
theorem nb.fold {kB:Nat} {S:dm} {W:List dm} {kf:Int} (ad:kf<kB):∀(l:List au) {n:Int} {σ:ra},nb n kB σ→nb (n+l.length) kB (l.foldl (Go.Proofs.look S W kf) σ)
 |[],n,σ,h=>by simpa using h
 |e::r,n,σ,h=>by
  have J:=nb.fold (S:=S) (W:=W) ad r (h.look S W kf ad e)
  rw [List.foldl_cons,List.length_cons]
  exact J.mono (by omega)
theorem nb.walk {n:Int} {kB:Nat} {S:dm} {W:List dm} {kf:Int} (ad:kf<kB) {σ:ra} (h:nb n kB σ) (e:au):nb (n+fS e) kB (Vp S W kf σ e):=by
 have:=nb.fold (S:=S) (W:=W) ad (yW e) h
 rw [LW] at this;exact this
end Go.Proofs
end
section
namespace Go.Proofs
open Go Go.bg Go.cz
set_option maxRecDepth 100000
set_option maxHeartbeats 4000000 in
theorem Vq (l:List dm) (m:ae) (K:ab→ae→Prop) (U:∀b:Bool,(b=true→(l.length:Int)≤12)→K (.bool b) m):bh Tryz.prog 21 [.slice false (l.map ey)] m K:=by
 refine enter (c:=SV [28,64,72,93,97,121,129,149,157] [0] [9,16,23,27] [] [] []) (vs:=[.aI (.slice false (l.map ey))]) (L:=[]) (m:=m) false SU Tryz.mixed Tryz.func21 rfl (k:=1) (by show cO [] _ _ _=true;decide+kernel) rfl (Good.nil m) ?_
 refine ⟨fun bJ=>?_⟩
 have o7:l.length≤140737488355328:=dr (o:=false) (bJ 0).1
 refine aB ?_
 refine bN ?_
 refine ag (fun J=>?_) (fun J=>?_)
 · refine bn rfl fun _=>?_
   show K (.bool false) m
   exact U _ (fun ah=>by first|omega|cases ah)
 refine aB ?_
 refine cH (σ:=Int×Int) [] [0,3,4] 0 (fun ⟨hK,i⟩=>([(0,aH (l.map ey)),(3,ax hK),(4,ax i)],[],m)) (fun ⟨hK,i⟩=>0≤i∧i≤l.length) (fun ⟨hK,i⟩=>l.length- i.toNat) (0,0) ⟨rfl,rfl⟩ ?_ ?_
 · try dsimp only
   first|omega|(refine ⟨?_,?_⟩<;>first|omega|simp)|simp
 rintro ⟨hK,i⟩ aE
 dsimp only at aE
 refine aB ?_
 refine bN ?_
 refine ag (fun aa=>?_) (fun aa=>?_)
 · refine aB ?_
   refine cX (by omega) ?_
   refine aB ?_
   refine cf [0,3,4,5] 48 ((((decide (9000<IntKind.i64.wrap (hK+(((I l i).name).length:Int))))||(decide (12<(((I l i).ins).length:Int))))||(decide (12<(((I l i).res).length:Int))))||(decide (12<(((I l i).outs).length:Int)))) ?_ ?_
   · repeat' first
      |exact ⟨⟨_,rfl,by grind [bD.val]⟩,rfl⟩
      |refine ag (fun _=>?_) (fun _=>?_)
      |refine bN ?_
   refine ag (fun aj=>?_) (fun aj=>?_)
   · replace aj:(((9000<IntKind.i64.wrap (hK+(((I l i).name).length:Int)))∨(12<(((I l i).ins).length:Int)))∨(12<(((I l i).res).length:Int)))∨(12<(((I l i).outs).length:Int)):=((dq aj).imp (fun q=>((dq q).imp (fun q=>((dq q).imp (fun q=>(of_decide_eq_true q)) (fun q=>(of_decide_eq_true q)))) (fun q=>(of_decide_eq_true q)))) (fun q=>(of_decide_eq_true q)))
     refine bn rfl fun _=>?_
     show K (.bool false) m
     exact U _ (fun ah=>by first|omega|cases ah)
   replace aj:(((IntKind.i64.wrap (hK+(((I l i).name).length:Int))≤9000)∧((((I l i).ins).length:Int)≤12))∧((((I l i).res).length:Int)≤12))∧((((I l i).outs).length:Int)≤12):=⟨⟨⟨(Int.not_lt.1 (of_decide_eq_false (cb (cb (cb aj))))),(Int.not_lt.1 (of_decide_eq_false (dp (cb (cb aj)))))⟩,(Int.not_lt.1 (of_decide_eq_false (dp (cb aj))))⟩,(Int.not_lt.1 (of_decide_eq_false (dp aj)))⟩
   refine aB ?_
   refine cH (σ:=Int×Int) [] [0,3,4,5,6] 1 (fun ⟨fw,gv⟩=>([(0,aH (l.map ey)),(3,ax fw),(4,ax i),(5, .loc 0 0),(6,ax gv)],[.cells [ay ((I l i).name),aH (((I l i).ins).map dD),aH (((I l i).res).map dG),aH (((I l i).outs).map cQ)]],m)) (fun ⟨fw,gv⟩=>0≤gv∧gv≤(I l i).ins.length) (fun ⟨fw,gv⟩=>(I l i).ins.length- gv.toNat) (IntKind.i64.wrap (hK+(((I l i).name).length:Int)),0) ⟨rfl,rfl⟩ ?_ ?_
   · try dsimp only
     first|omega|(refine ⟨?_,?_⟩<;>first|omega|simp)|simp
   rintro ⟨fw,gv⟩ bK
   dsimp only at bK
   refine aB ?_
   refine bN ?_
   refine ag (fun aG=>?_) (fun aG=>?_)
   · refine aB ?_
     refine cX (by omega) ?_
     refine cX (by omega) ?_
     refine gN (fun _=>Ek 9000 (bI ((I ((I l i).ins) gv).2)+1) ((I ((I l i).ins) gv).2) (Nat.lt_succ_self _)) ?_
     refine ag (by omega) ?_
     refine ⟨(IntKind.i64.wrap ((IntKind.i64.wrap (fw+(((I ((I l i).ins) gv).1).length:Int)))+(lo 9000 ((I ((I l i).ins) gv).2))),gv+1),⟨rfl,rfl⟩,?_,?_⟩
     · try dsimp only
       (first|omega|(simp_all;done)|(simp_all;omega))
     try dsimp only
     omega
   refine aB ?_
   refine cH (σ:=Int×Int) [] [0,3,4,5,7] 1 (fun ⟨nz,fq⟩=>([(0,aH (l.map ey)),(3,ax nz),(4,ax i),(5, .loc 0 0),(7,ax fq)],[.cells [ay ((I l i).name),aH (((I l i).ins).map dD),aH (((I l i).res).map dG),aH (((I l i).outs).map cQ)]],m)) (fun ⟨nz,fq⟩=>0≤fq∧fq≤(I l i).res.length) (fun ⟨nz,fq⟩=>(I l i).res.length- fq.toNat) (fw,0) ⟨rfl,rfl⟩ ?_ ?_
   · try dsimp only
     first|omega|(refine ⟨?_,?_⟩<;>first|omega|simp)|simp
   rintro ⟨nz,fq⟩ ek
   dsimp only at ek
   refine aB ?_
   refine cf [0,3,4,5,7] 81 ((decide (fq<(((I l i).res).length:Int)))&&(decide (nz<9000))) ?_ ?_
   · repeat' first
      |exact ⟨⟨_,rfl,by grind [bD.val]⟩,rfl⟩
      |refine ag (fun _=>?_) (fun _=>?_)
      |refine bN ?_
   refine ag (fun aR=>?_) (fun aR=>?_)
   · replace aR:(fq<(((I l i).res).length:Int))∧(nz<9000):=⟨(of_decide_eq_true (dH aR)),(of_decide_eq_true (eA aR))⟩
     refine aB ?_
     refine cX (by omega) ?_
     refine aB ?_
     refine bN ?_
     refine ag (fun bu=>?_) (fun bu=>?_)
     · refine bn rfl fun _=>?_
       show K (.bool false) m
       exact U _ (fun ah=>by first|omega|cases ah)
     refine cH (σ:=Int×Int) [] [0,3,4,5,7,8,9] 2 (fun ⟨nA,iJ⟩=>([(0,aH (l.map ey)),(3,ax nA),(4,ax i),(5, .loc 0 0),(7,ax fq),(8, .loc 1 0),(9,ax iJ)],[.cells [ay ((I l i).name),aH (((I l i).ins).map dD),aH (((I l i).res).map dG),aH (((I l i).outs).map cQ)], .cells [ay ((I ((I l i).res) fq).kind),ay ((I ((I l i).res) fq).name),aH (((I ((I l i).res) fq).parts).map cQ)]],m)) (fun ⟨nA,iJ⟩=>0≤iJ∧iJ≤(I (I l i).res fq).parts.length) (fun ⟨nA,iJ⟩=>(I (I l i).res fq).parts.length- iJ.toNat) (IntKind.i64.wrap ((IntKind.i64.wrap (nz+(((I ((I l i).res) fq).kind).length:Int)))+(((I ((I l i).res) fq).name).length:Int)),0) ⟨rfl,rfl⟩ ?_ ?_
     · try dsimp only
       first|omega|(refine ⟨?_,?_⟩<;>first|omega|simp)|simp
     rintro ⟨nA,iJ⟩ ma
     dsimp only at ma
     refine aB ?_
     refine cf [0,3,4,5,7,8,9] 110 ((decide (iJ<(((I ((I l i).res) fq).parts).length:Int)))&&(decide (nA<9000))) ?_ ?_
     · repeat' first
        |exact ⟨⟨_,rfl,by grind [bD.val]⟩,rfl⟩
        |refine ag (fun _=>?_) (fun _=>?_)
        |refine bN ?_
     refine ag (fun cD=>?_) (fun cD=>?_)
     · replace cD:(iJ<(((I ((I l i).res) fq).parts).length:Int))∧(nA<9000):=⟨(of_decide_eq_true (dH cD)),(of_decide_eq_true (eA cD))⟩
       refine aB ?_
       refine cX (by omega) ?_
       refine cX (by omega) ?_
       refine gN (fun _=>Fv 9000 (cZ ((I ((I ((I l i).res) fq).parts) iJ).2)+1) ((I ((I ((I l i).res) fq).parts) iJ).2) (Nat.lt_succ_self _)) ?_
       refine ag (by omega) ?_
       refine ⟨(IntKind.i64.wrap ((IntKind.i64.wrap (nA+(((I ((I ((I l i).res) fq).parts) iJ).1).length:Int)))+(ot 9000 ((I ((I ((I l i).res) fq).parts) iJ).2))),iJ+1),⟨rfl,rfl⟩,?_,?_⟩
       · try dsimp only
         (first|omega|(simp_all;done)|(simp_all;omega))
       try dsimp only
       omega
     replace cD:((((I ((I l i).res) fq).parts).length:Int)≤iJ)∨(9000≤nA):=((eB cD).imp (fun q=>(Int.not_lt.1 (of_decide_eq_false q))) (fun q=>(Int.not_lt.1 (of_decide_eq_false q))))
     refine ag (by omega) ?_
     refine ⟨(nA,fq+1),⟨rfl,rfl⟩,?_,?_⟩
     · try dsimp only
       (first|omega|(simp_all;done)|(simp_all;omega))
     try dsimp only
     omega
   replace aR:((((I l i).res).length:Int)≤fq)∨(9000≤nz):=((eB aR).imp (fun q=>(Int.not_lt.1 (of_decide_eq_false q))) (fun q=>(Int.not_lt.1 (of_decide_eq_false q))))
   refine aB ?_
   refine cH (σ:=Int×Int) [] [0,3,4,5,10] 1 (fun ⟨l5,mb⟩=>([(0,aH (l.map ey)),(3,ax l5),(4,ax i),(5, .loc 0 0),(10,ax mb)],[.cells [ay ((I l i).name),aH (((I l i).ins).map dD),aH (((I l i).res).map dG),aH (((I l i).outs).map cQ)]],m)) (fun ⟨l5,mb⟩=>0≤mb∧mb≤(I l i).outs.length) (fun ⟨l5,mb⟩=>(I l i).outs.length- mb.toNat) (nz,0) ⟨rfl,rfl⟩ ?_ ?_
   · try dsimp only
     first|omega|(refine ⟨?_,?_⟩<;>first|omega|simp)|simp
   rintro ⟨l5,mb⟩ ma
   dsimp only at ma
   refine aB ?_
   refine cf [0,3,4,5,10] 138 ((decide (mb<(((I l i).outs).length:Int)))&&(decide (l5<9000))) ?_ ?_
   · repeat' first
      |exact ⟨⟨_,rfl,by grind [bD.val]⟩,rfl⟩
      |refine ag (fun _=>?_) (fun _=>?_)
      |refine bN ?_
   refine ag (fun cK=>?_) (fun cK=>?_)
   · replace cK:(mb<(((I l i).outs).length:Int))∧(l5<9000):=⟨(of_decide_eq_true (dH cK)),(of_decide_eq_true (eA cK))⟩
     refine aB ?_
     refine cX (by omega) ?_
     refine cX (by omega) ?_
     refine gN (fun _=>Fv 9000 (cZ ((I ((I l i).outs) mb).2)+1) ((I ((I l i).outs) mb).2) (Nat.lt_succ_self _)) ?_
     refine ag (by omega) ?_
     refine ⟨(IntKind.i64.wrap ((IntKind.i64.wrap (l5+(((I ((I l i).outs) mb).1).length:Int)))+(ot 9000 ((I ((I l i).outs) mb).2))),mb+1),⟨rfl,rfl⟩,?_,?_⟩
     · try dsimp only
       (first|omega|(simp_all;done)|(simp_all;omega))
     try dsimp only
     omega
   replace cK:((((I l i).outs).length:Int)≤mb)∨(9000≤l5):=((eB cK).imp (fun q=>(Int.not_lt.1 (of_decide_eq_false q))) (fun q=>(Int.not_lt.1 (of_decide_eq_false q))))
   refine ag (fun cC=>?_) (fun cC=>?_)
   · refine bn rfl fun _=>?_
     show K (.bool false) m
     exact U _ (fun ah=>by first|omega|cases ah)
   refine ag (by omega) ?_
   refine ⟨(l5,i+1),⟨rfl,rfl⟩,?_,?_⟩
   · try dsimp only
     (first|omega|(simp_all;done)|(simp_all;omega))
   try dsimp only
   omega
 refine bn rfl fun _=>?_
 show K (.bool true) m
 exact U _ (fun ah=>by first|omega|cases ah)
end Go.Proofs
end
section
namespace Go.Proofs
open Go Go.bg Go.cz
set_option maxRecDepth 100000
theorem Vr (v:aW):0≤b1 v:=by
 unfold b1 lq
 split
 · split<;>decide
 · decide
structure FQ (s:dm):Prop where
 v:∀p∈s.ins,bI p.2≤1000000000000
 r:∀x∈s.res,∀p∈x.parts,dY p.2≤1000000000
 o:∀p∈s.outs,dY p.2≤1000000000
set_option maxHeartbeats 4000000 in
theorem LY (s:dm) (ah:FQ s) (m:ae) (K:ab→ae→Prop) (U:K (.int .i64 (e6 s)) m):bh Tryz.prog 26 [ey s] m K:=by
 refine enter (c:=cT [] [0] [4,10,18,26] [] [] []) (vs:=[.aI (ey s)]) (L:=[]) (m:=m) false b2 Tryz.mixed Tryz.func26 rfl (k:=1) (by show cO [] _ _ _=true;decide+kernel) rfl (Good.nil m) ?_
 refine ⟨fun bJ=>?_⟩
 have o7:s.name.length≤140737488355328:=(bJ 0 0 (Nat.le_of_ble_eq_true rfl))
 have Fx:s.ins.length≤140737488355328:=dr (bJ 0 1 (Nat.le_of_ble_eq_true rfl))
 have o6:s.res.length≤140737488355328:=dr (bJ 0 2 (Nat.le_of_ble_eq_true rfl))
 have kq:s.outs.length≤140737488355328:=dr (bJ 0 3 (Nat.le_of_ble_eq_true rfl))
 refine cG (fun _=>pT s.name) rfl ?_
 refine aB ?_
 refine ag (fun J=>?_) (fun J=>?_)
 · refine aB ?_
   refine cf [1] 36 (((decide (8<(s.ins.length:Int)))||(decide (8<(s.res.length:Int))))||(decide (8<(s.outs.length:Int)))) ?_ ?_
   · repeat' first
      |exact ⟨⟨_,rfl,by grind [bD.val]⟩,rfl⟩
      |refine ag (fun _=>?_) (fun _=>?_)
      |refine bN ?_
   refine ag (fun aa=>?_) (fun aa=>?_)
   · replace aa:((8<(s.ins.length:Int))∨(8<(s.res.length:Int)))∨(8<(s.outs.length:Int)):=((dq aa).imp (fun q=>((dq q).imp (fun q=>(of_decide_eq_true q)) (fun q=>(of_decide_eq_true q)))) (fun q=>(of_decide_eq_true q)))
     have bM:e6 s=(2:Int):=by
      rw [e6,if_neg (by rw [J];simp),if_pos (by omega)]
     rw [bM] at U
     exact bn rfl fun _=>U
   replace aa:(((s.ins.length:Int)≤8)∧((s.res.length:Int)≤8))∧((s.outs.length:Int)≤8):=⟨⟨(Int.not_lt.1 (of_decide_eq_false (cb (cb aa)))),(Int.not_lt.1 (of_decide_eq_false (dp (cb aa))))⟩,(Int.not_lt.1 (of_decide_eq_false (dp aa)))⟩
   refine aB ?_
   refine cH (σ:=Int) [] [1,4] 1 (fun i=>([(1, .loc 0 0),(4,ax i)],[.cells [ay s.name,aH (s.ins.map dD),aH (s.res.map dG),aH (s.outs.map cQ)]],m)) (fun i=>0≤i∧i≤s.ins.length∧e6 s=so s (oA (s.ins.drop i.toNat))) (fun i=>s.ins.length- i.toNat) (0) ⟨rfl,rfl⟩ ?_ ?_
   · try dsimp only
     exact ⟨by omega,by omega,by rw [e6,if_neg (by rw [J];simp),if_neg (by omega)];rfl⟩
   rintro i aE
   refine aB ?_
   refine bN ?_
   refine ag (fun aj=>?_) (fun aj=>?_)
   · refine aB ?_
     refine cX (by omega) ?_
     refine cG (fun _=>pT ((I s.ins i).1)) rfl ?_
     refine cf [1,4] 72 (((!(cu ((I s.ins i).1)))||(decide (3<((I s.ins i).2).kind)))||(decide (0<b1 ((I s.ins i).2)))) ?_ ?_
     · repeat' first
        |exact ⟨⟨_,rfl,by grind [bD.val]⟩,rfl⟩
        |refine ag (fun _=>?_) (fun _=>?_)
        |refine cX (by omega) ?_
        |refine cG (fun _=>JH ((I s.ins i).2) (ah.v _ (bF aE.1 aj))) rfl ?_
     refine ag (fun aG=>?_) (fun aG=>?_)
     · replace aG:((cu ((I s.ins i).1)=false)∨(3<((I s.ins i).2).kind))∨(0<b1 ((I s.ins i).2)):=((dq aG).imp (fun q=>((dq q).imp (fun q=>(dz q)) (fun q=>(of_decide_eq_true q)))) (fun q=>(of_decide_eq_true q)))
       have bM:e6 s=(3:Int):=by
        rw [aE.2.2,Bt aE.1 aj,if_neg (fun q=>by have cq:=q.2.1;have bl:=q.2.2;rcases aG with (h|h)|h;(· rw [q.1] at h;cases h);(· omega);(· omega)),Lw (by decide)]
       rw [bM] at U
       exact bn rfl fun _=>U
     replace aG:((cu ((I s.ins i).1)=true)∧(((I s.ins i).2).kind≤3))∧(b1 ((I s.ins i).2)≤0):=⟨⟨(du (cb (cb aG))),(Int.not_lt.1 (of_decide_eq_false (dp (cb aG))))⟩,(Int.not_lt.1 (of_decide_eq_false (dp aG)))⟩
     have aG:=And.intro aG.1 (show b1 (I s.ins i).2=0 by have:=Vr (I s.ins i).2;have:=aG.2;omega)
     refine ag (by omega) ?_
     refine ⟨(i+1),⟨rfl,rfl⟩,?_,?_⟩
     · try dsimp only
       exact ⟨by omega,by omega,by rw [aE.2.2,Bt aE.1 aj,if_pos ⟨aG.1.1,aG.1.2,aG.2⟩]⟩
     try dsimp only
     omega
   refine aB ?_
   refine cH (σ:=Int) [] [1,6] 1 (fun i2=>([(1, .loc 0 0),(6,ax i2)],[.cells [ay s.name,aH (s.ins.map dD),aH (s.res.map dG),aH (s.outs.map cQ)]],m)) (fun i2=>0≤i2∧i2≤s.res.length∧e6 s=sn s (mZ (s.res.drop i2.toNat))) (fun i2=>s.res.length- i2.toNat) (0) ⟨rfl,rfl⟩ ?_ ?_
   · try dsimp only
     exact ⟨by omega,by omega,by rw [aE.2.2,List.drop_eq_nil_of_le (by omega)];rfl⟩
   rintro i2 bK
   refine aB ?_
   refine bN ?_
   refine ag (fun aR=>?_) (fun aR=>?_)
   · refine aB ?_
     refine cX (by omega) ?_
     refine cG (fun _=>pT ((I s.res i2).kind)) rfl ?_
     refine cG (fun _=>pT ((I s.res i2).name)) rfl ?_
     refine aB ?_
     refine cf [1,6,7] 96 ((!(cu ((I s.res i2).kind)))||(!(cu ((I s.res i2).name)))) ?_ ?_
     · repeat' first
        |exact ⟨⟨_,rfl,by grind [bD.val]⟩,rfl⟩
        |refine ag (fun _=>?_) (fun _=>?_)
     refine ag (fun bu=>?_) (fun bu=>?_)
     · replace bu:(cu ((I s.res i2).kind)=false)∨(cu ((I s.res i2).name)=false):=((dq bu).imp (fun q=>(dz q)) (fun q=>(dz q)))
       have bM:e6 s=(3:Int):=by
        rw [bK.2.2,p5 bK.1 aR,if_neg (fun q=>by rcases bu with h|h<;>simp_all),sq (by decide)]
       rw [bM] at U
       exact bn rfl fun _=>U
     replace bu:(cu ((I s.res i2).kind)=true)∧(cu ((I s.res i2).name)=true):=⟨(du (cb bu)),(du (dp bu))⟩
     refine aB ?_
     refine bN ?_
     refine ag (fun cD=>?_) (fun cD=>?_)
     · have bM:e6 s=(2:Int):=by
        rw [bK.2.2,p5 bK.1 aR,if_pos bu,if_pos cD,sq (by decide)]
       rw [bM] at U
       exact bn rfl fun _=>U
     refine cH (σ:=Int) [] [1,6,7,10] 2 (fun k=>([(1, .loc 0 0),(6,ax i2),(7, .loc 1 0),(10,ax k)],[.cells [ay s.name,aH (s.ins.map dD),aH (s.res.map dG),aH (s.outs.map cQ)], .cells [ay ((I s.res i2).kind),ay ((I s.res i2).name),aH (((I s.res i2).parts).map cQ)]],m)) (fun k=>0≤k∧k≤(I s.res i2).parts.length∧lF (I s.res i2).parts=k0 (I s.res i2).parts (((I s.res i2).parts.length:Int)- k).toNat k) (fun k=>(I s.res i2).parts.length- k.toNat) (0) ⟨rfl,rfl⟩ ?_ ?_
     · try dsimp only
       exact ⟨by omega,by omega,Lv _⟩
     rintro k ek
     refine aB ?_
     refine bN ?_
     refine ag (fun cK=>?_) (fun cK=>?_)
     · refine aB ?_
       refine cX (by omega) ?_
       refine cG (fun _=>pT ((I ((I s.res i2).parts) k).1)) rfl ?_
       refine aB ?_
       refine cf [1,6,7,10] 136 ((!(cu ((I ((I s.res i2).parts) k).1)))||((decide (0<k))&&(!(Op.bytesLess ((I ((I s.res i2).parts) (k- 1)).1) ((I ((I s.res i2).parts) k).1))))) ?_ ?_
       · repeat' first
          |exact ⟨⟨_,rfl,by grind [bD.val]⟩,rfl⟩
          |refine ag (fun _=>?_) (fun _=>?_)
          |refine ag (by omega) ?_
          |refine cX (by omega) ?_
       refine ag (fun cC=>?_) (fun cC=>?_)
       · replace cC:(cu ((I ((I s.res i2).parts) k).1)=false)∨((0<k)∧(Op.bytesLess ((I ((I s.res i2).parts) (k- 1)).1) ((I ((I s.res i2).parts) k).1)=false)):=((dq cC).imp (fun q=>(dz q)) (fun q=>⟨(of_decide_eq_true (dH q)),(dz (eA q))⟩))
         have bM:e6 s=(3:Int):=by
          have q:lF (I s.res i2).parts=3:=by
           rw [ek.2.2,wH cK,if_neg (fun q=>by rcases cC with h|h;(· rw [h] at q;cases q.1);(· have:=q.2 h.1;rw [h.2] at this;cases this))]
          rw [bK.2.2,p5 bK.1 aR,if_pos bu,if_neg (by omega),if_neg (by omega),q,sq (by decide)]
         rw [bM] at U
         exact bn rfl fun _=>U
       replace cC:(cu ((I ((I s.res i2).parts) k).1)=true)∧((k≤0)∨(Op.bytesLess ((I ((I s.res i2).parts) (k- 1)).1) ((I ((I s.res i2).parts) k).1)=true)):=⟨(du (cb cC)),((eB (dp cC)).imp (fun q=>(Int.not_lt.1 (of_decide_eq_false q))) (fun q=>(du q)))⟩
       refine cX (by omega) ?_
       refine cG (fun _=>Fg ((I ((I s.res i2).parts) k).2) (ah.r _ (bF bK.1 (by assumption)) _ (bF ek.1 (by assumption)))) rfl ?_
       refine ag (fun eg=>?_) (fun eg=>?_)
       · have eg:ew (I (I s.res i2).parts k).2≠0:=by omega
         have bM:e6 s=(ew ((I ((I s.res i2).parts) k).2):Int):=by
          have q:lF (I s.res i2).parts=ew (I (I s.res i2).parts k).2:=by
           rw [ek.2.2,wH cK,if_pos ⟨cC.1,fun q=>cC.2.resolve_left (by omega)⟩,if_neg eg]
          rw [bK.2.2,p5 bK.1 aR,if_pos bu,if_neg (by omega),if_neg (by rw [q];exact eg),q,sq eg]
         rw [bM] at U
         exact bn rfl fun _=>U
       have eg:ew (I (I s.res i2).parts k).2=0:=by have:=uf (I (I s.res i2).parts k).2;omega
       refine ag (by omega) ?_
       refine ⟨(k+1),⟨rfl,rfl⟩,?_,?_⟩
       · try dsimp only
         exact ⟨by omega,by omega,by rw [ek.2.2,wH cK,if_pos ⟨cC.1,fun q=>cC.2.resolve_left (by omega)⟩,if_pos eg]⟩
       try dsimp only
       omega
     refine ag (by omega) ?_
     refine ⟨(i2+1),⟨rfl,rfl⟩,?_,?_⟩
     · try dsimp only
       have q:lF (I s.res i2).parts=0:=by rw [ek.2.2,Lu (by omega)]
       exact ⟨by omega,by omega,by rw [bK.2.2,p5 bK.1 aR,if_pos bu,if_neg (by omega),if_pos q]⟩
     try dsimp only
     omega
   refine aB ?_
   refine cH (σ:=Int) [] [1,13] 1 (fun i3=>([(1, .loc 0 0),(13,ax i3)],[.cells [ay s.name,aH (s.ins.map dD),aH (s.res.map dG),aH (s.outs.map cQ)]],m)) (fun i3=>0≤i3∧i3≤s.outs.length∧e6 s=na (s.outs.drop i3.toNat)) (fun i3=>s.outs.length- i3.toNat) (0) ⟨rfl,rfl⟩ ?_ ?_
   · try dsimp only
     exact ⟨by omega,by omega,by rw [bK.2.2,List.drop_eq_nil_of_le (by omega)];rfl⟩
   rintro i3 ek
   refine aB ?_
   refine bN ?_
   refine ag (fun fJ=>?_) (fun fJ=>?_)
   · refine aB ?_
     refine cX (by omega) ?_
     refine cG (fun _=>pT ((I s.outs i3).1)) rfl ?_
     refine aB ?_
     refine ag (fun fL=>?_) (fun fL=>?_)
     · refine cX (by omega) ?_
       refine cG (fun _=>Fg ((I s.outs i3).2) (ah.o _ (bF ek.1 (by assumption)))) rfl ?_
       refine ag (fun hs=>?_) (fun hs=>?_)
       · have hs:ew (I s.outs i3).2≠0:=by omega
         have bM:e6 s=(ew ((I s.outs i3).2):Int):=by
          rw [ek.2.2,wG ek.1 fJ,if_pos fL,if_neg hs]
         rw [bM] at U
         exact bn rfl fun _=>U
       have hs:ew (I s.outs i3).2=0:=by have:=uf (I s.outs i3).2;omega
       refine ag (by omega) ?_
       refine ⟨(i3+1),⟨rfl,rfl⟩,?_,?_⟩
       · try dsimp only
         exact ⟨by omega,by omega,by rw [ek.2.2,wG ek.1 fJ,if_pos fL,if_pos hs]⟩
       try dsimp only
       omega
     have bM:e6 s=(3:Int):=by
      rw [ek.2.2,wG ek.1 fJ,if_neg (by rw [fL];simp)]
     rw [bM] at U
     exact bn rfl fun _=>U
   have bM:e6 s=(0:Int):=by
    rw [ek.2.2,List.drop_eq_nil_of_le (by omega)];rfl
   rw [bM] at U
   exact bn rfl fun _=>U
 have bM:e6 s=(3:Int):=by
  rw [e6,if_pos J]
 rw [bM] at U
 exact bn rfl fun _=>U
end Go.Proofs
end
section
namespace Go.Proofs
open Go Go.bg Go.cz
set_option maxRecDepth 100000
theorem yY (v:aW):hy v v=true:=rU rfl
set_option maxHeartbeats 4000000 in
theorem LZ (s:dm) (aQ:∀x∈s.res,x.parts.length≤1000000) (m:ae) (K:ab→ae→Prop) (U:K (.bool true) m):bh Tryz.prog 27 [ey s,ey s] m K:=by
 refine enter (c:=cT [] [0] [1,7,14,20,26] [] [] []) (vs:=[.aI (ey s), .aI (ey s)]) (L:=[]) (m:=m) false b2 Tryz.mixed Tryz.func27 rfl (k:=2) (by show cO [] _ _ _=true;decide+kernel) rfl (Good.nil m) ?_
 refine ⟨fun bJ=>?_⟩
 have o7:s.name.length≤140737488355328:=(bJ 0 0 (Nat.le_of_ble_eq_true rfl))
 have Fx:s.ins.length≤140737488355328:=dr (bJ 0 1 (Nat.le_of_ble_eq_true rfl))
 have o6:s.res.length≤140737488355328:=dr (bJ 0 2 (Nat.le_of_ble_eq_true rfl))
 have kq:s.outs.length≤140737488355328:=dr (bJ 0 3 (Nat.le_of_ble_eq_true rfl))
 refine aB ?_
 refine cf [2,3] 45 ((((!(s.name==s.name))||(!((s.ins.length:Int)==(s.ins.length:Int))))||(!((s.res.length:Int)==(s.res.length:Int))))||(!((s.outs.length:Int)==(s.outs.length:Int)))) ?_ ?_
 · repeat' first
    |exact ⟨⟨_,rfl,by grind [bD.val]⟩,rfl⟩
    |refine ag (fun _=>?_) (fun _=>?_)
    |refine bN ?_
 refine ag (fun J=>?_) (fun J=>?_)
 · replace J:(((s.name≠s.name)∨((s.ins.length:Int)≠(s.ins.length:Int)))∨((s.res.length:Int)≠(s.res.length:Int)))∨((s.outs.length:Int)≠(s.outs.length:Int)):=((dq J).imp (fun q=>((dq q).imp (fun q=>((dq q).imp (fun q=>(ne_of_beq_false (dz q))) (fun q=>(ne_of_beq_false (dz q))))) (fun q=>(ne_of_beq_false (dz q))))) (fun q=>(ne_of_beq_false (dz q))))
   exact absurd J (by simp [yY,yN])
 replace J:(((s.name=s.name)∧((s.ins.length:Int)=(s.ins.length:Int)))∧((s.res.length:Int)=(s.res.length:Int)))∧((s.outs.length:Int)=(s.outs.length:Int)):=⟨⟨⟨(eq_of_beq (du (cb (cb (cb J))))),(eq_of_beq (du (dp (cb (cb J)))))⟩,(eq_of_beq (du (dp (cb J))))⟩,(eq_of_beq (du (dp J)))⟩
 refine aB ?_
 refine cH (σ:=Int) [] [2,3,5] 2 (fun i=>([(2, .loc 0 0),(3, .loc 1 0),(5,ax i)],[.cells [ay s.name,aH (s.ins.map dD),aH (s.res.map dG),aH (s.outs.map cQ)], .cells [ay s.name,aH (s.ins.map dD),aH (s.res.map dG),aH (s.outs.map cQ)]],m)) (fun i=>0≤i∧i≤s.ins.length) (fun i=>s.ins.length- i.toNat) (0) ⟨rfl,rfl⟩ ?_ ?_
 · try dsimp only
   first|omega|(refine ⟨?_,?_⟩<;>first|omega|simp)|simp
 rintro i aE
 refine aB ?_
 refine bN ?_
 refine ag (fun aa=>?_) (fun aa=>?_)
 · refine aB ?_
   refine cX (by omega) ?_
   refine cX (by omega) ?_
   refine gN (fun _=>JJ ((I s.ins i).2) ((I s.ins i).2)) ?_
   refine cf [2,3,5] 82 ((!(((I s.ins i).1)==((I s.ins i).1)))||(!(hy ((I s.ins i).2) ((I s.ins i).2)))) ?_ ?_
   · repeat' first
      |exact ⟨⟨_,rfl,by grind [bD.val]⟩,rfl⟩
      |refine ag (fun _=>?_) (fun _=>?_)
      |refine cX (by omega) ?_
   refine ag (fun aj=>?_) (fun aj=>?_)
   · replace aj:((I s.ins i).1≠(I s.ins i).1)∨(hy ((I s.ins i).2) ((I s.ins i).2)=false):=((dq aj).imp (fun q=>(ne_of_beq_false (dz q))) (fun q=>(dz q)))
     exact absurd aj (by simp [yY,yN])
   replace aj:((I s.ins i).1=(I s.ins i).1)∧(hy ((I s.ins i).2) ((I s.ins i).2)=true):=⟨(eq_of_beq (du (cb aj))),(du (dp aj))⟩
   refine ag (by omega) ?_
   refine ⟨(i+1),⟨rfl,rfl⟩,?_,?_⟩
   · try dsimp only
     (first|omega|(simp_all;done)|(simp_all;omega))
   try dsimp only
   omega
 refine aB ?_
 refine cH (σ:=Int) [] [2,3,7] 2 (fun i2=>([(2, .loc 0 0),(3, .loc 1 0),(7,ax i2)],[.cells [ay s.name,aH (s.ins.map dD),aH (s.res.map dG),aH (s.outs.map cQ)], .cells [ay s.name,aH (s.ins.map dD),aH (s.res.map dG),aH (s.outs.map cQ)]],m)) (fun i2=>0≤i2∧i2≤s.res.length) (fun i2=>s.res.length- i2.toNat) (0) ⟨rfl,rfl⟩ ?_ ?_
 · try dsimp only
   first|omega|(refine ⟨?_,?_⟩<;>first|omega|simp)|simp
 rintro i2 bK
 refine aB ?_
 refine bN ?_
 refine ag (fun aG=>?_) (fun aG=>?_)
 · have qn:=aQ _ (bF bK.1 aG)
   refine aB ?_
   refine cX (by omega) ?_
   refine cX (by omega) ?_
   refine aB ?_
   refine cf [2,3,7,8,9] 120 (((!(((I s.res i2).kind)==((I s.res i2).kind)))||(!(((I s.res i2).name)==((I s.res i2).name))))||(!((((I s.res i2).parts).length:Int)==(((I s.res i2).parts).length:Int)))) ?_ ?_
   · repeat' first
      |exact ⟨⟨_,rfl,by grind [bD.val]⟩,rfl⟩
      |refine ag (fun _=>?_) (fun _=>?_)
      |refine bN ?_
   refine ag (fun aR=>?_) (fun aR=>?_)
   · replace aR:(((I s.res i2).kind≠(I s.res i2).kind)∨((I s.res i2).name≠(I s.res i2).name))∨((((I s.res i2).parts).length:Int)≠(((I s.res i2).parts).length:Int)):=((dq aR).imp (fun q=>((dq q).imp (fun q=>(ne_of_beq_false (dz q))) (fun q=>(ne_of_beq_false (dz q))))) (fun q=>(ne_of_beq_false (dz q))))
     exact absurd aR (by simp [yY,yN])
   replace aR:(((I s.res i2).kind=(I s.res i2).kind)∧((I s.res i2).name=(I s.res i2).name))∧((((I s.res i2).parts).length:Int)=(((I s.res i2).parts).length:Int)):=⟨⟨(eq_of_beq (du (cb (cb aR)))),(eq_of_beq (du (dp (cb aR))))⟩,(eq_of_beq (du (dp aR)))⟩
   refine cH (σ:=Int) [] [2,3,7,8,9,10] 4 (fun k=>([(2, .loc 0 0),(3, .loc 1 0),(7,ax i2),(8, .loc 2 0),(9, .loc 3 0),(10,ax k)],[.cells [ay s.name,aH (s.ins.map dD),aH (s.res.map dG),aH (s.outs.map cQ)], .cells [ay s.name,aH (s.ins.map dD),aH (s.res.map dG),aH (s.outs.map cQ)], .cells [ay ((I s.res i2).kind),ay ((I s.res i2).name),aH (((I s.res i2).parts).map cQ)], .cells [ay ((I s.res i2).kind),ay ((I s.res i2).name),aH (((I s.res i2).parts).map cQ)]],m)) (fun k=>0≤k∧k≤(I s.res i2).parts.length) (fun k=>(I s.res i2).parts.length- k.toNat) (0) ⟨rfl,rfl⟩ ?_ ?_
   · try dsimp only
     first|omega|(refine ⟨?_,?_⟩<;>first|omega|simp)|simp
   rintro k ek
   refine aB ?_
   refine bN ?_
   refine ag (fun bu=>?_) (fun bu=>?_)
   · refine aB ?_
     refine cX (by omega) ?_
     refine cX (by omega) ?_
     refine gN (fun _=>Li ((I ((I s.res i2).parts) k).2) ((I ((I s.res i2).parts) k).2)) ?_
     refine cf [2,3,7,8,9,10] 157 ((!(((I ((I s.res i2).parts) k).1)==((I ((I s.res i2).parts) k).1)))||(!(kZ ((I ((I s.res i2).parts) k).2) ((I ((I s.res i2).parts) k).2)))) ?_ ?_
     · repeat' first
        |exact ⟨⟨_,rfl,by grind [bD.val]⟩,rfl⟩
        |refine ag (fun _=>?_) (fun _=>?_)
        |refine cX (by omega) ?_
     refine ag (fun cD=>?_) (fun cD=>?_)
     · replace cD:((I ((I s.res i2).parts) k).1≠(I ((I s.res i2).parts) k).1)∨(kZ ((I ((I s.res i2).parts) k).2) ((I ((I s.res i2).parts) k).2)=false):=((dq cD).imp (fun q=>(ne_of_beq_false (dz q))) (fun q=>(dz q)))
       exact absurd cD (by simp [yY,yN])
     replace cD:((I ((I s.res i2).parts) k).1=(I ((I s.res i2).parts) k).1)∧(kZ ((I ((I s.res i2).parts) k).2) ((I ((I s.res i2).parts) k).2)=true):=⟨(eq_of_beq (du (cb cD))),(du (dp cD))⟩
     refine ag (by omega) ?_
     refine ⟨(k+1),⟨rfl,rfl⟩,?_,?_⟩
     · try dsimp only
       (first|omega|(simp_all;done)|(simp_all;omega))
     try dsimp only
     omega
   refine ag (by omega) ?_
   refine ⟨(i2+1),⟨rfl,rfl⟩,?_,?_⟩
   · try dsimp only
     (first|omega|(simp_all;done)|(simp_all;omega))
   try dsimp only
   omega
 refine aB ?_
 refine cH (σ:=Int) [] [2,3,12] 2 (fun i3=>([(2, .loc 0 0),(3, .loc 1 0),(12,ax i3)],[.cells [ay s.name,aH (s.ins.map dD),aH (s.res.map dG),aH (s.outs.map cQ)], .cells [ay s.name,aH (s.ins.map dD),aH (s.res.map dG),aH (s.outs.map cQ)]],m)) (fun i3=>0≤i3∧i3≤s.outs.length) (fun i3=>s.outs.length- i3.toNat) (0) ⟨rfl,rfl⟩ ?_ ?_
 · try dsimp only
   first|omega|(refine ⟨?_,?_⟩<;>first|omega|simp)|simp
 rintro i3 ek
 refine aB ?_
 refine bN ?_
 refine ag (fun cK=>?_) (fun cK=>?_)
 · refine aB ?_
   refine cX (by omega) ?_
   refine cX (by omega) ?_
   refine gN (fun _=>Li ((I s.outs i3).2) ((I s.outs i3).2)) ?_
   refine cf [2,3,12] 194 ((!(((I s.outs i3).1)==((I s.outs i3).1)))||(!(kZ ((I s.outs i3).2) ((I s.outs i3).2)))) ?_ ?_
   · repeat' first
      |exact ⟨⟨_,rfl,by grind [bD.val]⟩,rfl⟩
      |refine ag (fun _=>?_) (fun _=>?_)
      |refine cX (by omega) ?_
   refine ag (fun cC=>?_) (fun cC=>?_)
   · replace cC:((I s.outs i3).1≠(I s.outs i3).1)∨(kZ ((I s.outs i3).2) ((I s.outs i3).2)=false):=((dq cC).imp (fun q=>(ne_of_beq_false (dz q))) (fun q=>(dz q)))
     exact absurd cC (by simp [yY,yN])
   replace cC:((I s.outs i3).1=(I s.outs i3).1)∧(kZ ((I s.outs i3).2) ((I s.outs i3).2)=true):=⟨(eq_of_beq (du (cb cC))),(du (dp cC))⟩
   refine ag (by omega) ?_
   refine ⟨(i3+1),⟨rfl,rfl⟩,?_,?_⟩
   · try dsimp only
     (first|omega|(simp_all;done)|(simp_all;omega))
   try dsimp only
   omega
 exact bn rfl fun _=>U
set_option maxHeartbeats 4000000 in
theorem Vs (l:List dm) (aQ:∀s∈l,∀x∈s.res,x.parts.length≤1000000) (m:ae) (K:ab→ae→Prop) (U:K (.bool true) m):bh Tryz.prog 33 [.slice false (l.map ey), .slice false (l.map ey)] m K:=by
 refine enter (c:=cT [] [0] [] [] [] []) (vs:=[.aI (.slice false (l.map ey)), .aI (.slice false (l.map ey))]) (L:=[]) (m:=m) false b2 Tryz.mixed Tryz.func33 rfl (k:=2) (by show cO [] _ _ _=true;decide+kernel) rfl (Good.nil m) ?_
 refine ⟨fun bJ=>?_⟩
 have o7:l.length≤140737488355328:=dr (o:=false) (bJ 0).1
 refine aB ?_
 refine bN ?_
 refine bN ?_
 refine ag (fun J=>?_) (fun J=>?_)
 · refine aB ?_
   refine cH (σ:=Int) [] [0,1,5] 0 (fun i=>([(0,aH (l.map ey)),(1,aH (l.map ey)),(5,ax i)],[],m)) (fun i=>0≤i∧i≤l.length) (fun i=>l.length- i.toNat) (0) ⟨rfl,rfl⟩ ?_ ?_
   · try dsimp only
     first|omega|(refine ⟨?_,?_⟩<;>first|omega|simp)|simp
   rintro i aE
   refine aB ?_
   refine bN ?_
   refine ag (fun aa=>?_) (fun aa=>?_)
   · refine aB ?_
     refine cX (by omega) ?_
     refine cX (by omega) ?_
     refine gN (fun _=>LZ (I l i) (aQ _ (bF aE.1 (by assumption)))) ?_
     refine ag (fun aj=>?_) (fun aj=>?_)
     · refine ag (by omega) ?_
       refine ⟨(i+1),⟨rfl,rfl⟩,?_,?_⟩
       · try dsimp only
         (first|omega|(simp_all;done)|(simp_all;omega))
       try dsimp only
       omega
     cases aj
   exact bn rfl fun _=>U
 exact absurd rfl J
end Go.Proofs
end
section
namespace Go.Proofs
open Go Go.bg Go.cz
set_option maxRecDepth 100000
set_option maxHeartbeats 2000000 in
set_option maxRecDepth 100000 in
theorem Tryz.Vt (b:Nat) (p:Value) (a:Option Addr) (n c:Nat) (w:World) (ah:w.heap[b]?=some (.cells #[p, .slice a n c] 112 (0,0))):
 Calls Tryz.prog 82 #[.pointer (some ⟨b,0,none⟩)] w fun e w'=>e= .returned (.int .i64 n)∧w'=w:=by
 have hF:w.cell? ⟨b,1,none⟩=some (.slice a n c):=by rw [Lib.cell_of_heap ah];rfl
 go_enter Tryz.func82,Tryz.ntmps82
 go_wp2
 go_ret
 exact ⟨rfl,rfl⟩
theorem Vu (b:Nat) (l:ar) (h:l.length≤140737488355328) (m:ae) (K:ab→ae→Prop) (U:K (.int .i64 l.length) (m.aS [(b, .bX 112 5 (l.map bC))])):
 bh Tryz.prog 82 [.ptr ⟨b,0,none⟩] (m.aS [(b, .bX 112 5 (l.map bC))]) K:=
 RG ⟨_,Tryz.func82,rfl,by kernel_rfl⟩ Tryz.Vt (Ew m b _) h U
end Go.Proofs
end
