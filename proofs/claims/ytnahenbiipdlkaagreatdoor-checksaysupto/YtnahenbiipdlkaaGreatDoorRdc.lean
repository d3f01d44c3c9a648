/-
  Values that a law is handed read as typed data, no greater than their bulk; none reads as a cell of a table of u64s.
-/
import Derived.Test.YtnahenbiipdlkaaGreatDoorPx21
import Derived.Test.YtnahenbiipdlkaaGreatDoorCk13
import Derived.Test.YtnahenbiipdlkaaGreatDoorPx4
import Derived.Test.YtnahenbiipdlkaaGreatDoorGr6
import Derived.Test.YtnahenbiipdlkaaGreatDoorWyA
section
namespace Go.Proofs
open Go Go.ba Go.bV
set_option maxRecDepth 100000
theorem S3 (v:a7):0≤b5 v:=by
 unfold b5 kU
 split
 · split<;>decide
 · decide
structure tS (s:a6):Prop where
 v:∀p∈s.ins,bP p.2≤1000000000000
 r:∀x∈s.res,∀p∈x.parts,dG p.2≤1000000000
 o:∀p∈s.outs,dG p.2≤1000000000
set_option maxHeartbeats 4000000 in
theorem S4 (s:a6) (ag:tS s) (m:ae) (K:U→ae→Prop) (ab:K (.int .i64 (dx s)) m):bg Tryz.prog 26 [bB s] m K:=by
 refine enter (c:=cX [] [0] [4,10,18,26] [] [] []) (vs:=[.aH (bB s)]) (L:=[]) (m:=m) false b9 Tryz.mixed Tryz.func26 rfl (k:=1) (by show cu [] _ _ _=true;decide+kernel) rfl (Good.nil m) ?_
 refine ⟨fun bq=>?_⟩
 have jy:s.name.length≤140737488355328:=(bq 0 0 (Nat.le_of_ble_eq_true rfl))
 have wj:s.ins.length≤140737488355328:=cN (bq 0 1 (Nat.le_of_ble_eq_true rfl))
 have nq:s.res.length≤140737488355328:=cN (bq 0 2 (Nat.le_of_ble_eq_true rfl))
 have jx:s.outs.length≤140737488355328:=cN (bq 0 3 (Nat.le_of_ble_eq_true rfl))
 refine b2 (fun _=>oG s.name) rfl ?_
 refine az ?_
 refine ah (fun J=>?_) (fun J=>?_)
 · refine az ?_
   refine cq [1] 36 (((decide (8<(s.ins.length:Int)))||(decide (8<(s.res.length:Int))))||(decide (8<(s.outs.length:Int)))) ?_ ?_
   · repeat' first
      |exact ⟨⟨_,rfl,by grind [bD.val]⟩,rfl⟩
      |refine ah (fun _=>?_) (fun _=>?_)
      |refine br ?_
   refine ah (fun aa=>?_) (fun aa=>?_)
   · replace aa:((8<(s.ins.length:Int))∨(8<(s.res.length:Int)))∨(8<(s.outs.length:Int)):=((dj aa).imp (fun q=>((dj q).imp (fun q=>(of_decide_eq_true q)) (fun q=>(of_decide_eq_true q)))) (fun q=>(of_decide_eq_true q)))
     have bA:dx s=(2:Int):=by
      rw [dx,if_neg (by rw [J];simp),if_pos (by omega)]
     rw [bA] at ab
     exact bh rfl fun _=>ab
   replace aa:(((s.ins.length:Int)≤8)∧((s.res.length:Int)≤8))∧((s.outs.length:Int)≤8):=⟨⟨(Int.not_lt.1 (of_decide_eq_false (b8 (b8 aa)))),(Int.not_lt.1 (of_decide_eq_false (di (b8 aa))))⟩,(Int.not_lt.1 (of_decide_eq_false (di aa)))⟩
   refine az ?_
   refine b7 (σ:=Int) [] [1,4] 1 (fun i=>([(1, .loc 0 0),(4,aj i)],[.cells [aw s.name,an (s.ins.map bM),an (s.res.map bK),an (s.outs.map bz)]],m)) (fun i=>0≤i∧i≤s.ins.length∧dx s=qz s (nz (s.ins.drop i.toNat))) (fun i=>s.ins.length- i.toNat) (0) ⟨rfl,rfl⟩ ?_ ?_
   · try dsimp only
     exact ⟨by omega,by omega,by rw [dx,if_neg (by rw [J];simp),if_neg (by omega)];rfl⟩
   rintro i ay
   refine az ?_
   refine br ?_
   refine ah (fun ai=>?_) (fun ai=>?_)
   · refine az ?_
     refine ck (by omega) ?_
     refine b2 (fun _=>oG ((I s.ins i).1)) rfl ?_
     refine cq [1,4] 72 (((!(cr ((I s.ins i).1)))||(decide (3<((I s.ins i).2).kind)))||(decide (0<b5 ((I s.ins i).2)))) ?_ ?_
     · repeat' first
        |exact ⟨⟨_,rfl,by grind [bD.val]⟩,rfl⟩
        |refine ah (fun _=>?_) (fun _=>?_)
        |refine ck (by omega) ?_
        |refine b2 (fun _=>GL ((I s.ins i).2) (ag.v _ (cb ay.1 ai))) rfl ?_
     refine ah (fun aJ=>?_) (fun aJ=>?_)
     · replace aJ:((cr ((I s.ins i).1)=false)∨(3<((I s.ins i).2).kind))∨(0<b5 ((I s.ins i).2)):=((dj aJ).imp (fun q=>((dj q).imp (fun q=>(ds q)) (fun q=>(of_decide_eq_true q)))) (fun q=>(of_decide_eq_true q)))
       have bA:dx s=(3:Int):=by
        rw [ay.2.2,yy ay.1 ai,if_neg (fun q=>by have cM:=q.2.1;have bI:=q.2.2;rcases aJ with (h|h)|h;(· rw [q.1] at h;cases h);(· omega);(· omega)),Iw (by decide)]
       rw [bA] at ab
       exact bh rfl fun _=>ab
     replace aJ:((cr ((I s.ins i).1)=true)∧(((I s.ins i).2).kind≤3))∧(b5 ((I s.ins i).2)≤0):=⟨⟨(dn (b8 (b8 aJ))),(Int.not_lt.1 (of_decide_eq_false (di (b8 aJ))))⟩,(Int.not_lt.1 (of_decide_eq_false (di aJ)))⟩
     have aJ:=And.intro aJ.1 (show b5 (I s.ins i).2=0 by have:=S3 (I s.ins i).2;have:=aJ.2;omega)
     refine ah (by omega) ?_
     refine ⟨(i+1),⟨rfl,rfl⟩,?_,?_⟩
     · try dsimp only
       exact ⟨by omega,by omega,by rw [ay.2.2,yy ay.1 ai,if_pos ⟨aJ.1.1,aJ.1.2,aJ.2⟩]⟩
     try dsimp only
     omega
   refine az ?_
   refine b7 (σ:=Int) [] [1,6] 1 (fun i2=>([(1, .loc 0 0),(6,aj i2)],[.cells [aw s.name,an (s.ins.map bM),an (s.res.map bK),an (s.outs.map bz)]],m)) (fun i2=>0≤i2∧i2≤s.res.length∧dx s=qy s (mH (s.res.drop i2.toNat))) (fun i2=>s.res.length- i2.toNat) (0) ⟨rfl,rfl⟩ ?_ ?_
   · try dsimp only
     exact ⟨by omega,by omega,by rw [ay.2.2,List.drop_eq_nil_of_le (by omega)];rfl⟩
   rintro i2 a1
   refine az ?_
   refine br ?_
   refine ah (fun aY=>?_) (fun aY=>?_)
   · refine az ?_
     refine ck (by omega) ?_
     refine b2 (fun _=>oG ((I s.res i2).kind)) rfl ?_
     refine b2 (fun _=>oG ((I s.res i2).name)) rfl ?_
     refine az ?_
     refine cq [1,6,7] 96 ((!(cr ((I s.res i2).kind)))||(!(cr ((I s.res i2).name)))) ?_ ?_
     · repeat' first
        |exact ⟨⟨_,rfl,by grind [bD.val]⟩,rfl⟩
        |refine ah (fun _=>?_) (fun _=>?_)
     refine ah (fun bG=>?_) (fun bG=>?_)
     · replace bG:(cr ((I s.res i2).kind)=false)∨(cr ((I s.res i2).name)=false):=((dj bG).imp (fun q=>(ds q)) (fun q=>(ds q)))
       have bA:dx s=(3:Int):=by
        rw [a1.2.2,oP a1.1 aY,if_neg (fun q=>by rcases bG with h|h<;>simp_all),qA (by decide)]
       rw [bA] at ab
       exact bh rfl fun _=>ab
     replace bG:(cr ((I s.res i2).kind)=true)∧(cr ((I s.res i2).name)=true):=⟨(dn (b8 bG)),(dn (di bG))⟩
     refine az ?_
     refine br ?_
     refine ah (fun c7=>?_) (fun c7=>?_)
     · have bA:dx s=(2:Int):=by
        rw [a1.2.2,oP a1.1 aY,if_pos bG,if_pos c7,qA (by decide)]
       rw [bA] at ab
       exact bh rfl fun _=>ab
     refine b7 (σ:=Int) [] [1,6,7,10] 2 (fun k=>([(1, .loc 0 0),(6,aj i2),(7, .loc 1 0),(10,aj k)],[.cells [aw s.name,an (s.ins.map bM),an (s.res.map bK),an (s.outs.map bz)], .cells [aw ((I s.res i2).kind),aw ((I s.res i2).name),an (((I s.res i2).parts).map bz)]],m)) (fun k=>0≤k∧k≤(I s.res i2).parts.length∧lp (I s.res i2).parts=lo (I s.res i2).parts (((I s.res i2).parts.length:Int)- k).toNat k) (fun k=>(I s.res i2).parts.length- k.toNat) (0) ⟨rfl,rfl⟩ ?_ ?_
     · try dsimp only
       exact ⟨by omega,by omega,Iv _⟩
     rintro k cg
     refine az ?_
     refine br ?_
     refine ah (fun cV=>?_) (fun cV=>?_)
     · refine az ?_
       refine ck (by omega) ?_
       refine b2 (fun _=>oG ((I ((I s.res i2).parts) k).1)) rfl ?_
       refine az ?_
       refine cq [1,6,7,10] 136 ((!(cr ((I ((I s.res i2).parts) k).1)))||((decide (0<k))&&(!(Op.bytesLess ((I ((I s.res i2).parts) (k- 1)).1) ((I ((I s.res i2).parts) k).1))))) ?_ ?_
       · repeat' first
          |exact ⟨⟨_,rfl,by grind [bD.val]⟩,rfl⟩
          |refine ah (fun _=>?_) (fun _=>?_)
          |refine ah (by omega) ?_
          |refine ck (by omega) ?_
       refine ah (fun cU=>?_) (fun cU=>?_)
       · replace cU:(cr ((I ((I s.res i2).parts) k).1)=false)∨((0<k)∧(Op.bytesLess ((I ((I s.res i2).parts) (k- 1)).1) ((I ((I s.res i2).parts) k).1)=false)):=((dj cU).imp (fun q=>(ds q)) (fun q=>⟨(of_decide_eq_true (eO q)),(ds (fk q))⟩))
         have bA:dx s=(3:Int):=by
          have q:lp (I s.res i2).parts=3:=by
           rw [cg.2.2,tG cV,if_neg (fun q=>by rcases cU with h|h;(· rw [h] at q;cases q.1);(· have:=q.2 h.1;rw [h.2] at this;cases this))]
          rw [a1.2.2,oP a1.1 aY,if_pos bG,if_neg (by omega),if_neg (by omega),q,qA (by decide)]
         rw [bA] at ab
         exact bh rfl fun _=>ab
       replace cU:(cr ((I ((I s.res i2).parts) k).1)=true)∧((k≤0)∨(Op.bytesLess ((I ((I s.res i2).parts) (k- 1)).1) ((I ((I s.res i2).parts) k).1)=true)):=⟨(dn (b8 cU)),((fl (di cU)).imp (fun q=>(Int.not_lt.1 (of_decide_eq_false q))) (fun q=>(dn q)))⟩
       refine ck (by omega) ?_
       refine b2 (fun _=>HH ((I ((I s.res i2).parts) k).2) (ag.r _ (cb a1.1 (by assumption)) _ (cb cg.1 (by assumption)))) rfl ?_
       refine ah (fun eH=>?_) (fun eH=>?_)
       · have eH:eS (I (I s.res i2).parts k).2≠0:=by omega
         have bA:dx s=(eS ((I ((I s.res i2).parts) k).2):Int):=by
          have q:lp (I s.res i2).parts=eS (I (I s.res i2).parts k).2:=by
           rw [cg.2.2,tG cV,if_pos ⟨cU.1,fun q=>cU.2.resolve_left (by omega)⟩,if_neg eH]
          rw [a1.2.2,oP a1.1 aY,if_pos bG,if_neg (by omega),if_neg (by rw [q];exact eH),q,qA eH]
         rw [bA] at ab
         exact bh rfl fun _=>ab
       have eH:eS (I (I s.res i2).parts k).2=0:=by have:=we (I (I s.res i2).parts k).2;omega
       refine ah (by omega) ?_
       refine ⟨(k+1),⟨rfl,rfl⟩,?_,?_⟩
       · try dsimp only
         exact ⟨by omega,by omega,by rw [cg.2.2,tG cV,if_pos ⟨cU.1,fun q=>cU.2.resolve_left (by omega)⟩,if_pos eH]⟩
       try dsimp only
       omega
     refine ah (by omega) ?_
     refine ⟨(i2+1),⟨rfl,rfl⟩,?_,?_⟩
     · try dsimp only
       have q:lp (I s.res i2).parts=0:=by rw [cg.2.2,Iu (by omega)]
       exact ⟨by omega,by omega,by rw [a1.2.2,oP a1.1 aY,if_pos bG,if_neg (by omega),if_pos q]⟩
     try dsimp only
     omega
   refine az ?_
   refine b7 (σ:=Int) [] [1,13] 1 (fun i3=>([(1, .loc 0 0),(13,aj i3)],[.cells [aw s.name,an (s.ins.map bM),an (s.res.map bK),an (s.outs.map bz)]],m)) (fun i3=>0≤i3∧i3≤s.outs.length∧dx s=l2 (s.outs.drop i3.toNat)) (fun i3=>s.outs.length- i3.toNat) (0) ⟨rfl,rfl⟩ ?_ ?_
   · try dsimp only
     exact ⟨by omega,by omega,by rw [a1.2.2,List.drop_eq_nil_of_le (by omega)];rfl⟩
   rintro i3 cg
   refine az ?_
   refine br ?_
   refine ah (fun fF=>?_) (fun fF=>?_)
   · refine az ?_
     refine ck (by omega) ?_
     refine b2 (fun _=>oG ((I s.outs i3).1)) rfl ?_
     refine az ?_
     refine ah (fun hL=>?_) (fun hL=>?_)
     · refine ck (by omega) ?_
       refine b2 (fun _=>HH ((I s.outs i3).2) (ag.o _ (cb cg.1 (by assumption)))) rfl ?_
       refine ah (fun hE=>?_) (fun hE=>?_)
       · have hE:eS (I s.outs i3).2≠0:=by omega
         have bA:dx s=(eS ((I s.outs i3).2):Int):=by
          rw [cg.2.2,tF cg.1 fF,if_pos hL,if_neg hE]
         rw [bA] at ab
         exact bh rfl fun _=>ab
       have hE:eS (I s.outs i3).2=0:=by have:=we (I s.outs i3).2;omega
       refine ah (by omega) ?_
       refine ⟨(i3+1),⟨rfl,rfl⟩,?_,?_⟩
       · try dsimp only
         exact ⟨by omega,by omega,by rw [cg.2.2,tF cg.1 fF,if_pos hL,if_pos hE]⟩
       try dsimp only
       omega
     have bA:dx s=(3:Int):=by
      rw [cg.2.2,tF cg.1 fF,if_neg (by rw [hL];simp)]
     rw [bA] at ab
     exact bh rfl fun _=>ab
   have bA:dx s=(0:Int):=by
    rw [cg.2.2,List.drop_eq_nil_of_le (by omega)];rfl
   rw [bA] at ab
   exact bh rfl fun _=>ab
 have bA:dx s=(3:Int):=by
  rw [dx,if_pos J]
 rw [bA] at ab
 exact bh rfl fun _=>ab
end Go.Proofs
end
section
namespace Go.Proofs
open Go Go.ba Go.bV
set_option maxRecDepth 100000
theorem wo (v:a7):gT v v=true:=qo rfl
set_option maxHeartbeats 4000000 in
theorem S5 (s:a6) (aU:∀x∈s.res,x.parts.length≤1000000) (m:ae) (K:U→ae→Prop) (ab:K (.bool true) m):bg Tryz.prog 27 [bB s,bB s] m K:=by
 refine enter (c:=cX [] [0] [1,7,14,20,26] [] [] []) (vs:=[.aH (bB s), .aH (bB s)]) (L:=[]) (m:=m) false b9 Tryz.mixed Tryz.func27 rfl (k:=2) (by show cu [] _ _ _=true;decide+kernel) rfl (Good.nil m) ?_
 refine ⟨fun bq=>?_⟩
 have jy:s.name.length≤140737488355328:=(bq 0 0 (Nat.le_of_ble_eq_true rfl))
 have wj:s.ins.length≤140737488355328:=cN (bq 0 1 (Nat.le_of_ble_eq_true rfl))
 have nq:s.res.length≤140737488355328:=cN (bq 0 2 (Nat.le_of_ble_eq_true rfl))
 have jx:s.outs.length≤140737488355328:=cN (bq 0 3 (Nat.le_of_ble_eq_true rfl))
 refine az ?_
 refine cq [2,3] 45 ((((!(s.name==s.name))||(!((s.ins.length:Int)==(s.ins.length:Int))))||(!((s.res.length:Int)==(s.res.length:Int))))||(!((s.outs.length:Int)==(s.outs.length:Int)))) ?_ ?_
 · repeat' first
    |exact ⟨⟨_,rfl,by grind [bD.val]⟩,rfl⟩
    |refine ah (fun _=>?_) (fun _=>?_)
    |refine br ?_
 refine ah (fun J=>?_) (fun J=>?_)
 · replace J:(((s.name≠s.name)∨((s.ins.length:Int)≠(s.ins.length:Int)))∨((s.res.length:Int)≠(s.res.length:Int)))∨((s.outs.length:Int)≠(s.outs.length:Int)):=((dj J).imp (fun q=>((dj q).imp (fun q=>((dj q).imp (fun q=>(ne_of_beq_false (ds q))) (fun q=>(ne_of_beq_false (ds q))))) (fun q=>(ne_of_beq_false (ds q))))) (fun q=>(ne_of_beq_false (ds q))))
   exact absurd J (by simp [wo,wh])
 replace J:(((s.name=s.name)∧((s.ins.length:Int)=(s.ins.length:Int)))∧((s.res.length:Int)=(s.res.length:Int)))∧((s.outs.length:Int)=(s.outs.length:Int)):=⟨⟨⟨(eq_of_beq (dn (b8 (b8 (b8 J))))),(eq_of_beq (dn (di (b8 (b8 J)))))⟩,(eq_of_beq (dn (di (b8 J))))⟩,(eq_of_beq (dn (di J)))⟩
 refine az ?_
 refine b7 (σ:=Int) [] [2,3,5] 2 (fun i=>([(2, .loc 0 0),(3, .loc 1 0),(5,aj i)],[.cells [aw s.name,an (s.ins.map bM),an (s.res.map bK),an (s.outs.map bz)], .cells [aw s.name,an (s.ins.map bM),an (s.res.map bK),an (s.outs.map bz)]],m)) (fun i=>0≤i∧i≤s.ins.length) (fun i=>s.ins.length- i.toNat) (0) ⟨rfl,rfl⟩ ?_ ?_
 · try dsimp only
   first|omega|(refine ⟨?_,?_⟩<;>first|omega|simp)|simp
 rintro i ay
 refine az ?_
 refine br ?_
 refine ah (fun aa=>?_) (fun aa=>?_)
 · refine az ?_
   refine ck (by omega) ?_
   refine ck (by omega) ?_
   refine ih (fun _=>GN ((I s.ins i).2) ((I s.ins i).2)) ?_
   refine cq [2,3,5] 82 ((!(((I s.ins i).1)==((I s.ins i).1)))||(!(gT ((I s.ins i).2) ((I s.ins i).2)))) ?_ ?_
   · repeat' first
      |exact ⟨⟨_,rfl,by grind [bD.val]⟩,rfl⟩
      |refine ah (fun _=>?_) (fun _=>?_)
      |refine ck (by omega) ?_
   refine ah (fun ai=>?_) (fun ai=>?_)
   · replace ai:((I s.ins i).1≠(I s.ins i).1)∨(gT ((I s.ins i).2) ((I s.ins i).2)=false):=((dj ai).imp (fun q=>(ne_of_beq_false (ds q))) (fun q=>(ds q)))
     exact absurd ai (by simp [wo,wh])
   replace ai:((I s.ins i).1=(I s.ins i).1)∧(gT ((I s.ins i).2) ((I s.ins i).2)=true):=⟨(eq_of_beq (dn (b8 ai))),(dn (di ai))⟩
   refine ah (by omega) ?_
   refine ⟨(i+1),⟨rfl,rfl⟩,?_,?_⟩
   · try dsimp only
     (first|omega|(simp_all;done)|(simp_all;omega))
   try dsimp only
   omega
 refine az ?_
 refine b7 (σ:=Int) [] [2,3,7] 2 (fun i2=>([(2, .loc 0 0),(3, .loc 1 0),(7,aj i2)],[.cells [aw s.name,an (s.ins.map bM),an (s.res.map bK),an (s.outs.map bz)], .cells [aw s.name,an (s.ins.map bM),an (s.res.map bK),an (s.outs.map bz)]],m)) (fun i2=>0≤i2∧i2≤s.res.length) (fun i2=>s.res.length- i2.toNat) (0) ⟨rfl,rfl⟩ ?_ ?_
 · try dsimp only
   first|omega|(refine ⟨?_,?_⟩<;>first|omega|simp)|simp
 rintro i2 a1
 refine az ?_
 refine br ?_
 refine ah (fun aJ=>?_) (fun aJ=>?_)
 · have ou:=aU _ (cb a1.1 aJ)
   refine az ?_
   refine ck (by omega) ?_
   refine ck (by omega) ?_
   refine az ?_
   refine cq [2,3,7,8,9] 120 (((!(((I s.res i2).kind)==((I s.res i2).kind)))||(!(((I s.res i2).name)==((I s.res i2).name))))||(!((((I s.res i2).parts).length:Int)==(((I s.res i2).parts).length:Int)))) ?_ ?_
   · repeat' first
      |exact ⟨⟨_,rfl,by grind [bD.val]⟩,rfl⟩
      |refine ah (fun _=>?_) (fun _=>?_)
      |refine br ?_
   refine ah (fun aY=>?_) (fun aY=>?_)
   · replace aY:(((I s.res i2).kind≠(I s.res i2).kind)∨((I s.res i2).name≠(I s.res i2).name))∨((((I s.res i2).parts).length:Int)≠(((I s.res i2).parts).length:Int)):=((dj aY).imp (fun q=>((dj q).imp (fun q=>(ne_of_beq_false (ds q))) (fun q=>(ne_of_beq_false (ds q))))) (fun q=>(ne_of_beq_false (ds q))))
     exact absurd aY (by simp [wo,wh])
   replace aY:(((I s.res i2).kind=(I s.res i2).kind)∧((I s.res i2).name=(I s.res i2).name))∧((((I s.res i2).parts).length:Int)=(((I s.res i2).parts).length:Int)):=⟨⟨(eq_of_beq (dn (b8 (b8 aY)))),(eq_of_beq (dn (di (b8 aY))))⟩,(eq_of_beq (dn (di aY)))⟩
   refine b7 (σ:=Int) [] [2,3,7,8,9,10] 4 (fun k=>([(2, .loc 0 0),(3, .loc 1 0),(7,aj i2),(8, .loc 2 0),(9, .loc 3 0),(10,aj k)],[.cells [aw s.name,an (s.ins.map bM),an (s.res.map bK),an (s.outs.map bz)], .cells [aw s.name,an (s.ins.map bM),an (s.res.map bK),an (s.outs.map bz)], .cells [aw ((I s.res i2).kind),aw ((I s.res i2).name),an (((I s.res i2).parts).map bz)], .cells [aw ((I s.res i2).kind),aw ((I s.res i2).name),an (((I s.res i2).parts).map bz)]],m)) (fun k=>0≤k∧k≤(I s.res i2).parts.length) (fun k=>(I s.res i2).parts.length- k.toNat) (0) ⟨rfl,rfl⟩ ?_ ?_
   · try dsimp only
     first|omega|(refine ⟨?_,?_⟩<;>first|omega|simp)|simp
   rintro k cg
   refine az ?_
   refine br ?_
   refine ah (fun bG=>?_) (fun bG=>?_)
   · refine az ?_
     refine ck (by omega) ?_
     refine ck (by omega) ?_
     refine ih (fun _=>HR ((I ((I s.res i2).parts) k).2) ((I ((I s.res i2).parts) k).2)) ?_
     refine cq [2,3,7,8,9,10] 157 ((!(((I ((I s.res i2).parts) k).1)==((I ((I s.res i2).parts) k).1)))||(!(kv ((I ((I s.res i2).parts) k).2) ((I ((I s.res i2).parts) k).2)))) ?_ ?_
     · repeat' first
        |exact ⟨⟨_,rfl,by grind [bD.val]⟩,rfl⟩
        |refine ah (fun _=>?_) (fun _=>?_)
        |refine ck (by omega) ?_
     refine ah (fun c7=>?_) (fun c7=>?_)
     · replace c7:((I ((I s.res i2).parts) k).1≠(I ((I s.res i2).parts) k).1)∨(kv ((I ((I s.res i2).parts) k).2) ((I ((I s.res i2).parts) k).2)=false):=((dj c7).imp (fun q=>(ne_of_beq_false (ds q))) (fun q=>(ds q)))
       exact absurd c7 (by simp [wo,wh])
     replace c7:((I ((I s.res i2).parts) k).1=(I ((I s.res i2).parts) k).1)∧(kv ((I ((I s.res i2).parts) k).2) ((I ((I s.res i2).parts) k).2)=true):=⟨(eq_of_beq (dn (b8 c7))),(dn (di c7))⟩
     refine ah (by omega) ?_
     refine ⟨(k+1),⟨rfl,rfl⟩,?_,?_⟩
     · try dsimp only
       (first|omega|(simp_all;done)|(simp_all;omega))
     try dsimp only
     omega
   refine ah (by omega) ?_
   refine ⟨(i2+1),⟨rfl,rfl⟩,?_,?_⟩
   · try dsimp only
     (first|omega|(simp_all;done)|(simp_all;omega))
   try dsimp only
   omega
 refine az ?_
 refine b7 (σ:=Int) [] [2,3,12] 2 (fun i3=>([(2, .loc 0 0),(3, .loc 1 0),(12,aj i3)],[.cells [aw s.name,an (s.ins.map bM),an (s.res.map bK),an (s.outs.map bz)], .cells [aw s.name,an (s.ins.map bM),an (s.res.map bK),an (s.outs.map bz)]],m)) (fun i3=>0≤i3∧i3≤s.outs.length) (fun i3=>s.outs.length- i3.toNat) (0) ⟨rfl,rfl⟩ ?_ ?_
 · try dsimp only
   first|omega|(refine ⟨?_,?_⟩<;>first|omega|simp)|simp
 rintro i3 cg
 refine az ?_
 refine br ?_
 refine ah (fun cV=>?_) (fun cV=>?_)
 · refine az ?_
   refine ck (by omega) ?_
   refine ck (by omega) ?_
   refine ih (fun _=>HR ((I s.outs i3).2) ((I s.outs i3).2)) ?_
   refine cq [2,3,12] 194 ((!(((I s.outs i3).1)==((I s.outs i3).1)))||(!(kv ((I s.outs i3).2) ((I s.outs i3).2)))) ?_ ?_
   · repeat' first
      |exact ⟨⟨_,rfl,by grind [bD.val]⟩,rfl⟩
      |refine ah (fun _=>?_) (fun _=>?_)
      |refine ck (by omega) ?_
   refine ah (fun cU=>?_) (fun cU=>?_)
   · replace cU:((I s.outs i3).1≠(I s.outs i3).1)∨(kv ((I s.outs i3).2) ((I s.outs i3).2)=false):=((dj cU).imp (fun q=>(ne_of_beq_false (ds q))) (fun q=>(ds q)))
     exact absurd cU (by simp [wo,wh])
   replace cU:((I s.outs i3).1=(I s.outs i3).1)∧(kv ((I s.outs i3).2) ((I s.outs i3).2)=true):=⟨(eq_of_beq (dn (b8 cU))),(dn (di cU))⟩
   refine ah (by omega) ?_
   refine ⟨(i3+1),⟨rfl,rfl⟩,?_,?_⟩
   · try dsimp only
     (first|omega|(simp_all;done)|(simp_all;omega))
   try dsimp only
   omega
 exact bh rfl fun _=>ab
set_option maxHeartbeats 4000000 in
theorem S6 (l:List a6) (aU:∀s∈l,∀x∈s.res,x.parts.length≤1000000) (m:ae) (K:U→ae→Prop) (ab:K (.bool true) m):bg Tryz.prog 33 [.slice false (l.map bB), .slice false (l.map bB)] m K:=by
 refine enter (c:=cX [] [0] [] [] [] []) (vs:=[.aH (.slice false (l.map bB)), .aH (.slice false (l.map bB))]) (L:=[]) (m:=m) false b9 Tryz.mixed Tryz.func33 rfl (k:=2) (by show cu [] _ _ _=true;decide+kernel) rfl (Good.nil m) ?_
 refine ⟨fun bq=>?_⟩
 have jy:l.length≤140737488355328:=cN (o:=false) (bq 0).1
 refine az ?_
 refine br ?_
 refine br ?_
 refine ah (fun J=>?_) (fun J=>?_)
 · refine az ?_
   refine b7 (σ:=Int) [] [0,1,5] 0 (fun i=>([(0,an (l.map bB)),(1,an (l.map bB)),(5,aj i)],[],m)) (fun i=>0≤i∧i≤l.length) (fun i=>l.length- i.toNat) (0) ⟨rfl,rfl⟩ ?_ ?_
   · try dsimp only
     first|omega|(refine ⟨?_,?_⟩<;>first|omega|simp)|simp
   rintro i ay
   refine az ?_
   refine br ?_
   refine ah (fun aa=>?_) (fun aa=>?_)
   · refine az ?_
     refine ck (by omega) ?_
     refine ck (by omega) ?_
     refine ih (fun _=>S5 (I l i) (aU _ (cb ay.1 (by assumption)))) ?_
     refine ah (fun ai=>?_) (fun ai=>?_)
     · refine ah (by omega) ?_
       refine ⟨(i+1),⟨rfl,rfl⟩,?_,?_⟩
       · try dsimp only
         (first|omega|(simp_all;done)|(simp_all;omega))
       try dsimp only
       omega
     cases ai
   exact bh rfl fun _=>ab
 exact absurd rfl J
set_option maxHeartbeats 4000000 in
theorem Ja (l:List a6) (bN cG:List (List Int)) (aU:∀s∈l,∀x∈s.res,x.parts.length≤1000000) (J:bN.length≤1000) (S7:∀w∈bN,w.length≤100000) (aa:cG.length≤1000) (S8:∀w∈cG,w.length≤100000) (m:ae) (K:U→ae→Prop) (ab:K (.bool true) m):bg Tryz.prog 24 [.agg [.slice false (l.map bB), .slice false (bN.map (bj aE)), .slice false (cG.map (bj aE))], .agg [.slice false (l.map bB), .slice false (bN.map (bj aE)), .slice false (cG.map (bj aE))]] m K:=by
 refine enter (c:=cX [] [] [1] [] [] []) (vs:=[.agg [an (l.map bB),an (bN.map (bj aE)),an (cG.map (bj aE))], .agg [an (l.map bB),an (bN.map (bj aE)),an (cG.map (bj aE))]]) (L:=[]) (m:=m) false b9 Tryz.mixed Tryz.func24 rfl (k:=2) (by show cu [] _ _ _=true;decide+kernel) rfl (Good.nil m) ?_
 refine cq [] 4 ((true&&true)&&true) ?_ ?_
 · repeat' first
    |exact ⟨⟨_,rfl,by grind [bD.val]⟩,rfl⟩
    |refine ah (fun _=>?_) (fun _=>?_)
    |refine b2 (fun _=>S6 l aU) rfl ?_
    |refine b2 (fun _=>fun m K ab=>Ie bN bN (by omega) (fun w hw=>by have:=S7 w hw;omega) m K (by rw [decide_eq_true rfl];exact ab)) rfl ?_
    |refine b2 (fun _=>fun m K ab=>Ie cG cG (by omega) (fun w hw=>by have:=S8 w hw;omega) m K (by rw [decide_eq_true rfl];exact ab)) rfl ?_
 exact bh rfl fun _=>ab
end Go.Proofs
end
section
namespace Go.Proofs
open Go Go.ba Go.bV
set_option maxRecDepth 100000
theorem Jb {α:Type} [Inhabited α] {l:List α} (aI:l.Nodup) {a b:Int} (aX:0≤a∧a<l.length) (ag:0≤b∧b<l.length) (h:I l a=I l b):a=b:=by
 have J:a.toNat<l.length:=by omega
 have aa:b.toNat<l.length:=by omega
 simp only [I,List.getD_eq_getElem?_getD,List.getElem?_eq_getElem J,List.getElem?_eq_getElem aa,Option.getD_some] at h
 have:=(List.getElem_inj aI).1 h
 omega
theorem yH {α:Type} [Inhabited α] {f:α→aD} {l:List α} {i k:Int} (aG:0≤k) (ak:k<i) (ad:i<l.length) (h:f (I l i)=f (I l k)):decide (¬(l.map f).Nodup)=true:=by
 rw [decide_eq_true_eq]
 intro aI
 have J:I (l.map f) i=I (l.map f) k:=by rw [yv (by omega) ad,yv aG (by omega),h]
 have:=Jb aI (a:=i) (b:=k) (by rw [List.length_map];omega) (by rw [List.length_map];omega) J
 omega
theorem yI {α:Type} [Inhabited α] {f:α→aD} {l:List α} {i:Int} (aG:0≤i) (ad:i<l.length) (aI:((l.take i.toNat).map f).Nodup) (h:∀k:Int,0≤k→k<i→f (I l i)≠f (I l k)):((l.take (i+1).toNat).map f).Nodup:=by
 rw [gz aG ad,List.map_append]
 refine List.nodup_append.2 ⟨aI,by simp,fun a aX b ag e=>?_⟩
 simp at ag
 subst ag;subst e
 obtain ⟨x,aq,aO⟩:=List.mem_map.1 aX
 obtain ⟨j,aA,rfl⟩:=List.getElem_of_mem aq
 rw [List.getElem_take] at aO
 rw [List.length_take] at aA
 refine h j (by omega) (by omega) ?_
 rw [←aO,I,Int.toNat_natCast,List.getD_eq_getElem?_getD,List.getElem?_eq_getElem (by omega),Option.getD_some]
theorem CM {α:Type} {f:α→aD} {l:List α} {i:Int} (ad:(l.length:Int)≤i) (aI:((l.take i.toNat).map f).Nodup):decide (¬(l.map f).Nodup)=false:=by
 rw [fm (by omega)] at aI
 exact decide_eq_false (not_not_intro aI)
theorem Jc (l:List Int) (n:Int) (av:l.length≤1000000) (m:ae) (K:U→ae→Prop) (ab:K (.slice true ((gx l n).map aE)) m):s9 Tryz.prog 142 0 [.slice true (l.map aE), .int .i64 n] m K:=by
 refine Gb (j:=0) (c:=kt [1000018] [] [] [] [] []) (vs:=[.own (l.map aE), .aH (.int .i64 n)]) (L:=[]) (m:=m) false fS Tryz.mixed Tryz.func142 rfl (k:=2) (by show cu [] _ _ _=true;decide+kernel) rfl (Good.nil m) ?_
 refine az ?_
 refine b7 (σ:=Int) [] [0,1,5] 0 (fun i=>([(0, .own (l.map aE)),(1,aj n),(5,aj i)],[],m)) (fun i=>0≤i∧i≤l.length∧n∉l.take i.toNat) (fun i=>l.length- i.toNat) (0) ⟨rfl,rfl⟩ ?_ ?_
 · try dsimp only
   exact ⟨by omega,by omega,by simp⟩
 rintro i ay
 refine az ?_
 refine br ?_
 refine ah (fun J=>?_) (fun J=>?_)
 · refine az ?_
   refine ck (by omega) ?_
   refine ah (fun aa=>?_) (fun aa=>?_)
   · refine bh rfl fun _=>?_
     show K (.slice true (l.map aE)) m
     have q:gx l n=l:=if_pos (by rw [←aa];exact cb ay.1 J)
     rw [q] at ab;exact ab
   refine ah (by omega) ?_
   refine ⟨(i+1),⟨rfl,rfl⟩,?_,?_⟩
   · try dsimp only
     exact ⟨by omega,by omega,IU ay.1 J ay.2.2 aa⟩
   try dsimp only
   omega
 refine ap aE l ([n]:List Int) rfl rfl (fun _=>⟨rfl,rfl⟩) (by (simp only [List.length_append,List.length_cons,List.length_nil];omega)) ?_
 refine bh rfl fun _=>?_
 show K (.slice true ((l++([n]:List Int)).map aE)) m
 have q:gx l n=l++[n]:=if_neg (by have:=ay.2.2;rwa [fm (by omega)] at this)
 rw [q] at ab;exact ab
set_option maxHeartbeats 4000000 in
theorem S9 (s:a6) (m:ae) (K:U→ae→Prop) (ab:K (.bool (iJ s)) m):bg Tryz.prog 73 [bB s] m K:=by
 refine enter (c:=kt [] [0] [] [] [] []) (vs:=[.aH (bB s)]) (L:=[]) (m:=m) false fS Tryz.mixed Tryz.func73 rfl (k:=1) (by show cu [] _ _ _=true;decide+kernel) rfl (Good.nil m) ?_
 refine ⟨fun bq=>?_⟩
 have jy:s.name.length≤140737488355328:=(bq 0 0 (Nat.le_of_ble_eq_true rfl))
 have wj:s.ins.length≤140737488355328:=cN (bq 0 1 (Nat.le_of_ble_eq_true rfl))
 have nq:s.res.length≤140737488355328:=cN (bq 0 2 (Nat.le_of_ble_eq_true rfl))
 have jx:s.outs.length≤140737488355328:=cN (bq 0 3 (Nat.le_of_ble_eq_true rfl))
 refine az ?_
 refine b7 (σ:=Int) [] [1,3] 1 (fun i0=>([(1, .loc 0 0),(3,aj i0)],[.cells [aw s.name,an (s.ins.map bM),an (s.res.map bK),an (s.outs.map bz)]],m)) (fun i0=>0≤i0∧i0≤s.ins.length∧((s.ins.take i0.toNat).map Prod.fst).Nodup) (fun i0=>s.ins.length- i0.toNat) (0) ⟨rfl,rfl⟩ ?_ ?_
 · try dsimp only
   exact ⟨by omega,by omega,by simp⟩
 rintro i0 ay
 refine az ?_
 refine br ?_
 refine ah (fun J=>?_) (fun J=>?_)
 · refine az ?_
   refine b7 (σ:=Int) [] [1,3,4] 1 (fun oe=>([(1, .loc 0 0),(3,aj i0),(4,aj oe)],[.cells [aw s.name,an (s.ins.map bM),an (s.res.map bK),an (s.outs.map bz)]],m)) (fun oe=>0≤oe∧oe≤i0∧∀j:Int,0≤j→j<oe→(I s.ins i0).1≠(I s.ins j).1) (fun oe=>i0.toNat- oe.toNat) (0) ⟨rfl,rfl⟩ ?_ ?_
   · try dsimp only
     exact ⟨by omega,by omega,fun j _ _=>by omega⟩
   rintro oe a1
   refine az ?_
   refine ah (fun aa=>?_) (fun aa=>?_)
   · refine az ?_
     refine ck (by omega) ?_
     refine ck (by omega) ?_
     refine ah (fun ai=>?_) (fun ai=>?_)
     · refine bh rfl fun _=>df ab ?_
       show U.bool (iJ s)=U.bool true
       refine congrArg U.bool ?_
       rw [iJ,yH (f:=Prod.fst) a1.1 aa J ai];simp
     refine ah (by omega) ?_
     refine ⟨(oe+1),⟨rfl,rfl⟩,?_,?_⟩
     · try dsimp only
       refine ⟨by omega,by omega,fun j aG aA=>?_⟩
       rcases Int.lt_or_le j oe with q|q
       · exact a1.2.2 j aG q
       · obtain rfl:j=oe:=by omega
         exact ai
     try dsimp only
     omega
   refine ah (by omega) ?_
   refine ⟨(i0+1),⟨rfl,rfl⟩,?_,?_⟩
   · try dsimp only
     exact ⟨by omega,by omega,yI (f:=Prod.fst) ay.1 J ay.2.2 fun j aG aA=>a1.2.2 j aG (by omega)⟩
   try dsimp only
   omega
 refine az ?_
 refine b7 (σ:=Int) [] [1,5] 1 (fun i1=>([(1, .loc 0 0),(5,aj i1)],[.cells [aw s.name,an (s.ins.map bM),an (s.res.map bK),an (s.outs.map bz)]],m)) (fun i1=>0≤i1∧i1≤s.res.length∧((s.res.take i1.toNat).map cz.name).Nodup) (fun i1=>s.res.length- i1.toNat) (0) ⟨rfl,rfl⟩ ?_ ?_
 · try dsimp only
   exact ⟨by omega,by omega,by simp⟩
 rintro i1 a1
 refine az ?_
 refine br ?_
 refine ah (fun aJ=>?_) (fun aJ=>?_)
 · refine az ?_
   refine b7 (σ:=Int) [] [1,5,6] 1 (fun fj=>([(1, .loc 0 0),(5,aj i1),(6,aj fj)],[.cells [aw s.name,an (s.ins.map bM),an (s.res.map bK),an (s.outs.map bz)]],m)) (fun fj=>0≤fj∧fj≤i1∧∀j:Int,0≤j→j<fj→(I s.res i1).name≠(I s.res j).name) (fun fj=>i1.toNat- fj.toNat) (0) ⟨rfl,rfl⟩ ?_ ?_
   · try dsimp only
     exact ⟨by omega,by omega,fun j _ _=>by omega⟩
   rintro fj cg
   refine az ?_
   refine ah (fun aY=>?_) (fun aY=>?_)
   · refine az ?_
     refine ck (by omega) ?_
     refine ck (by omega) ?_
     refine ah (fun bG=>?_) (fun bG=>?_)
     · refine bh rfl fun _=>df ab ?_
       show U.bool (iJ s)=U.bool true
       refine congrArg U.bool ?_
       rw [iJ,yH (f:=cz.name) cg.1 aY aJ bG];simp
     refine ah (by omega) ?_
     refine ⟨(fj+1),⟨rfl,rfl⟩,?_,?_⟩
     · try dsimp only
       refine ⟨by omega,by omega,fun j aG aA=>?_⟩
       rcases Int.lt_or_le j fj with q|q
       · exact cg.2.2 j aG q
       · obtain rfl:j=fj:=by omega
         exact bG
     try dsimp only
     omega
   refine ah (by omega) ?_
   refine ⟨(i1+1),⟨rfl,rfl⟩,?_,?_⟩
   · try dsimp only
     exact ⟨by omega,by omega,yI (f:=cz.name) a1.1 aJ a1.2.2 fun j aG aA=>cg.2.2 j aG (by omega)⟩
   try dsimp only
   omega
 refine az ?_
 refine b7 (σ:=Int) [] [1,7] 1 (fun i2=>([(1, .loc 0 0),(7,aj i2)],[.cells [aw s.name,an (s.ins.map bM),an (s.res.map bK),an (s.outs.map bz)]],m)) (fun i2=>0≤i2∧i2≤s.outs.length∧((s.outs.take i2.toNat).map Prod.fst).Nodup) (fun i2=>s.outs.length- i2.toNat) (0) ⟨rfl,rfl⟩ ?_ ?_
 · try dsimp only
   exact ⟨by omega,by omega,by simp⟩
 rintro i2 cg
 refine az ?_
 refine br ?_
 refine ah (fun c7=>?_) (fun c7=>?_)
 · refine az ?_
   refine b7 (σ:=Int) [] [1,7,8] 1 (fun ej=>([(1, .loc 0 0),(7,aj i2),(8,aj ej)],[.cells [aw s.name,an (s.ins.map bM),an (s.res.map bK),an (s.outs.map bz)]],m)) (fun ej=>0≤ej∧ej≤i2∧∀j:Int,0≤j→j<ej→(I s.outs i2).1≠(I s.outs j).1) (fun ej=>i2.toNat- ej.toNat) (0) ⟨rfl,rfl⟩ ?_ ?_
   · try dsimp only
     exact ⟨by omega,by omega,fun j _ _=>by omega⟩
   rintro ej fh
   refine az ?_
   refine ah (fun cV=>?_) (fun cV=>?_)
   · refine az ?_
     refine ck (by omega) ?_
     refine ck (by omega) ?_
     refine ah (fun cU=>?_) (fun cU=>?_)
     · refine bh rfl fun _=>df ab ?_
       show U.bool (iJ s)=U.bool true
       refine congrArg U.bool ?_
       rw [iJ,yH (f:=Prod.fst) fh.1 cV c7 cU];simp
     refine ah (by omega) ?_
     refine ⟨(ej+1),⟨rfl,rfl⟩,?_,?_⟩
     · try dsimp only
       refine ⟨by omega,by omega,fun j aG aA=>?_⟩
       rcases Int.lt_or_le j ej with q|q
       · exact fh.2.2 j aG q
       · obtain rfl:j=ej:=by omega
         exact cU
     try dsimp only
     omega
   refine ah (by omega) ?_
   refine ⟨(i2+1),⟨rfl,rfl⟩,?_,?_⟩
   · try dsimp only
     exact ⟨by omega,by omega,yI (f:=Prod.fst) cg.1 c7 cg.2.2 fun j aG aA=>fh.2.2 j aG (by omega)⟩
   try dsimp only
   omega
 refine bh rfl fun _=>df ab ?_
 show U.bool (iJ s)=U.bool false
 refine congrArg U.bool ?_
 rw [iJ,CM (f:=Prod.fst) (by omega) ay.2.2,CM (f:=cz.name) (by omega) a1.2.2,CM (f:=Prod.fst) (by omega) cg.2.2];rfl
end Go.Proofs
end
section
namespace Go.Proofs
open Go Go.ba Go.bV
set_option maxRecDepth 100000
def gf (σ:c1):Bool:=!(σ.cH==0)
theorem j9 {S:a6} {W:List a6} {a8:Int} {σ:c1} {e:ax} {ok:Bool} (h:ok=!decide (hF S W e<0)):gf (look S W a8 σ e)=(gf σ||!ok):=by
 subst h
 unfold gf look
 by_cases J:σ.cH=0<;>by_cases aa:hF S W e<0<;>simp [J,aa]
theorem Jd {α:Type} [Inhabited α] {f:α→aD} {l:List α} {s:aD} {i:Int} (aG:0≤i) (ad:i<l.length):decide (s∈(l.take (i+1).toNat).map f)=(decide (s∈(l.take i.toNat).map f)||(f (I l i)==s)):=by
 rw [gz aG ad,List.map_append,Bool.eq_iff_iff,decide_eq_true_eq,List.mem_append,Bool.or_eq_true,decide_eq_true_eq,List.map_cons,List.map_nil,List.mem_singleton,beq_iff_eq]
 exact or_congr Iff.rfl ⟨Eq.symm,Eq.symm⟩
theorem Ta {α:Type} {f:α→aD} {l:List α} {s:aD} {i:Int} (ad:(l.length:Int)≤i):decide (s∈(l.take i.toNat).map f)=!decide (b6 (l.map f) s<0):=by
 rw [fm (by omega),Bool.eq_iff_iff]
 simp [tE]
theorem yJ {α:Type} [Inhabited α] {f:α→aD} {l:List α} {s:aD} {i:Int} (aI:(l.map f).Nodup) (aG:0≤i) (ad:i<l.length):f (I l i)=s↔b6 (l.map f) s=i:=by
 constructor
 · intro h
   have hm:s∈l.map f:=h▸List.mem_map.2 ⟨_,cb aG ad,rfl⟩
   have J:¬b6 (l.map f) s<0:=fun q=>tE.1 q hm
   have aa:=Ij (l:=l.map f) (s:=s) (by omega)
   have ai:=(Ct (l:=l.map f) (s:=s)).resolve_left (by omega)
   exact Jb aI ai (by rw [List.length_map];omega) (aa.trans ((yv aG ad).trans h).symm)
 · intro h
   have aa:=Ij (l:=l.map f) (s:=s) (by omega)
   rw [h,yv aG ad] at aa
   exact aa
theorem tT (S:a6) (W:List a6) (a8:Int) (σ:c1) (e:ax):(look S W a8 σ e).aW=if e.kind=3∧0≤b6 (S.res.map cz.name) e.s∧0≤a8 then σ.aW.set a8.toNat (gx (I σ.aW a8) (b6 (S.res.map cz.name) e.s)) else σ.aW:=rfl
theorem wq (S:a6) (W:List a6) (a8:Int) (σ:c1) (e:ax):(look S W a8 σ e).st=if e.kind=4∧0≤b6 (W.map a6.name) e.s then gx σ.st (b6 (W.map a6.name) e.s) else σ.st:=rfl
theorem yK {α:Type} {f:α→aD} {l:List α} {s:aD}:b6 (l.map f) s<l.length:=by
 rcases Ct (l:=l.map f) (s:=s) with h|⟨_,h⟩
 · omega
 · rwa [List.length_map] at h
set_option maxHeartbeats 4000000 in
theorem Tb (S:a6) (W:List a6) (a8:Int) (bt:Nat) (dv eP dH c6 pl dI dJ:Nat) (σ:c1) (e:ax) (n:Int) (ad:a8<bt) (cd:fK n bt σ) (aI:n≤1000000) (gH:W.length≤1000) (gm:S.ins.length≤1000∧S.res.length≤1000) (pM:∀s∈W,s.outs.length≤1000) (oT:(S.res.map cz.name).Nodup) (ni:(W.map a6.name).Nodup) (ak:2≤e.kind∧e.kind≤4) (m:ae) (gd:eE [dv,eP,c6,dH,pl,dI,dJ] m) (K:U→ae→Prop) (ab:K (.tuple []) (ae.bf m [(dv, .cells [.str S.name, .slice false (S.ins.map bM), .slice false (S.res.map bK), .slice false (S.outs.map bz)]),(eP, .cells [.int .i64 a8]),(c6, .cells (cW aE ((look S W a8 σ e).aW))),(dH, .cells [.ms ⟨c6,0,none⟩ bt bt]),(pl, .cells [.slice false (W.map bB)]),(dI, .cells [.slice true (((look S W a8 σ e).st).map aE)]),(dJ, .cells [.bool (gf (look S W a8 σ e))])])):bg Tryz.prog 141 [cy e, .ptr ⟨dv,0,none⟩, .ptr ⟨eP,0,none⟩, .ptr ⟨dH,0,none⟩, .ptr ⟨pl,0,none⟩, .ptr ⟨dI,0,none⟩, .ptr ⟨dJ,0,none⟩] (ae.bf m [(dv, .cells [.str S.name, .slice false (S.ins.map bM), .slice false (S.res.map bK), .slice false (S.outs.map bz)]),(eP, .cells [.int .i64 a8]),(c6, .cells (cW aE σ.aW)),(dH, .cells [.ms ⟨c6,0,none⟩ bt bt]),(pl, .cells [.slice false (W.map bB)]),(dI, .cells [.slice true (σ.st.map aE)]),(dJ, .cells [.bool (gf σ)])]) K:=by
 have tN:=cd.l
 refine enter (c:=kt [1000061,1000063,1000081,1000083] [] [7,25] [15999] [15] [dv,eP,c6,dH,pl,dI,dJ]) (vs:=[.aH (cy e), .loc 0 0, .loc 1 0, .loc 3 0, .loc 4 0, .loc 5 0, .loc 6 0]) (L:=[.cells [aw S.name,an (S.ins.map bM),an (S.res.map bK),an (S.outs.map bz)], .cells [aj a8], .obj (.cells (cW aE σ.aW)), .cells [.ms 2 bt bt], .cells [an (W.map bB)], .cells [.own (σ.st.map aE)], .cells [eY (gf σ)]]) (m:=m) false fS Tryz.mixed Tryz.func141 rfl (k:=7) (by show cu [15999] _ _ _=true;decide+kernel) rfl (gd.hn rfl) ?_
 refine az ?_
 refine ah (fun J=>?_) (fun J=>?_)
 · refine b7 (σ:=Bool×Int) [(8,0)] [1,6,7,8,9] 8 (fun ⟨ok,i⟩=>([(1, .loc 0 0),(6, .loc 6 0),(7, .loc 7 0),(8,eY ok),(9,aj i)],[.cells [aw S.name,an (S.ins.map bM),an (S.res.map bK),an (S.outs.map bz)], .cells [aj a8], .obj (.cells (cW aE σ.aW)), .cells [.ms 2 bt bt], .cells [an (W.map bB)], .cells [.own (σ.st.map aE)], .cells [eY (gf σ)], .cells [aj e.kind,aj e.v.kind,aj e.v.n,aw e.v.s,an (e.v.l.map cj),an (e.v.f.map ct),aw e.s,aw e.t,an (e.a.map cx),an (e.n.map cS)]],m)) (fun ⟨ok,i⟩=>0≤i∧i≤S.ins.length∧ok=decide (e.s∈(S.ins.take i.toNat).map Prod.fst)) (fun ⟨ok,i⟩=>S.ins.length- i.toNat) (false,0) ⟨rfl,rfl⟩ ?_ ?_
   · try dsimp only
     exact ⟨by omega,by omega,by simp⟩
   rintro ⟨ok,i⟩ ay
   dsimp only at ay
   refine az ?_
   refine br ?_
   refine ah (fun aa=>?_) (fun aa=>?_)
   · refine az ?_
     refine cq [1,6,7,9] 8 (ok||(((I S.ins i).1)==e.s)) ?_ ?_
     · repeat' first
        |exact ⟨⟨_,rfl,by grind [bD.val]⟩,rfl⟩
        |refine ah (fun _=>?_) (fun _=>?_)
        |refine ck (by omega) ?_
     refine ah (by omega) ?_
     refine ⟨((ok||(((I S.ins i).1)==e.s)),i+1),⟨rfl,rfl⟩,?_,?_⟩
     · try dsimp only
       exact ⟨by omega,by omega,by rw [ay.2.2];exact (Jd ay.1 aa).symm⟩
     try dsimp only
     omega
   have bL:ok=!decide (hF S W e<0):=by rw [ay.2.2,Ta (by omega),hF,if_pos J]
   have al:(look S W a8 σ e).st=σ.st:=by rw [wq,if_neg (by omega)]
   have ao:(look S W a8 σ e).aW=σ.aW:=by rw [tT,if_neg (by omega)]
   refine ah (fun ai=>?_) (fun ai=>?_)
   · have bA:gf (look S W a8 σ e)=(true:Bool):=by
      first|exact (j9 bL).trans (by rw [ai];rfl)|exact al|exact ao
     have aM:(look S W a8 σ e).st=(σ.st:List Int):=by
      first|exact (j9 bL).trans (by rw [ai];rfl)|exact al|exact ao
     have aC:(look S W a8 σ e).aW=(σ.aW:List (List Int)):=by
      first|exact (j9 bL).trans (by rw [ai];rfl)|exact al|exact ao
     rw [bA,aM,aC] at ab
     exact rt rfl fun _=>ab
   have bA:gf (look S W a8 σ e)=((!ok):Bool):=by
    first|exact (j9 bL).trans (by rw [ai];rfl)|exact al|exact ao
   have aM:(look S W a8 σ e).st=(σ.st:List Int):=by
    first|exact (j9 bL).trans (by rw [ai];rfl)|exact al|exact ao
   have aC:(look S W a8 σ e).aW=(σ.aW:List (List Int)):=by
    first|exact (j9 bL).trans (by rw [ai];rfl)|exact al|exact ao
   rw [bA,aM,aC] at ab
   exact rt rfl fun _=>ab
 refine ah (fun aJ=>?_) (fun aJ=>?_)
 · refine b7 (σ:=Bool×Int×List (List Int)) [(8,0)] [1,2,3,6,7,8,10] 8 (fun ⟨ok,i,iV⟩=>([(1, .loc 0 0),(2, .loc 1 0),(3, .loc 3 0),(6, .loc 6 0),(7, .loc 7 0),(8,eY ok),(10,aj i)],[.cells [aw S.name,an (S.ins.map bM),an (S.res.map bK),an (S.outs.map bz)], .cells [aj a8], .obj (.cells (cW aE iV)), .cells [.ms 2 bt bt], .cells [an (W.map bB)], .cells [.own (σ.st.map aE)], .cells [eY (gf σ)], .cells [aj e.kind,aj e.v.kind,aj e.v.n,aw e.v.s,an (e.v.l.map cj),an (e.v.f.map ct),aw e.s,aw e.t,an (e.a.map cx),an (e.n.map cS)]],m)) (fun ⟨ok,i,iV⟩=>0≤i∧i≤S.res.length∧ok=decide (0≤b6 (S.res.map cz.name) e.s∧b6 (S.res.map cz.name) e.s<i)∧iV=(if 0≤b6 (S.res.map cz.name) e.s∧b6 (S.res.map cz.name) e.s<i then (look S W a8 σ e).aW else σ.aW)) (fun ⟨ok,i,iV⟩=>S.res.length- i.toNat) (false,0,σ.aW) ⟨rfl,rfl⟩ ?_ ?_
   · try dsimp only
     exact ⟨by omega,by omega,(decide_eq_false (by omega)).symm,(if_neg (by omega)).symm⟩
   rintro ⟨ok,i,iV⟩ ay
   dsimp only at ay
   refine az ?_
   refine br ?_
   refine ah (fun aY=>?_) (fun aY=>?_)
   · refine az ?_
     refine ck (by omega) ?_
     refine ah (fun bG=>?_) (fun bG=>?_)
     · have aO:=(yJ oT ay.1 aY).1 bG
       have ao:=ay.2.2.2
       rw [if_neg (by omega)] at ao
       have Vu:iV.length=bt:=by rw [ao];exact tN
       refine ah (fun c7=>?_) (fun c7=>?_)
       · refine gp fS Tryz.mixed (σ:=Unit) (.f 6 (.o 0 (.o 1 (.o 2 (.s 3 (.s 4 (.s 5 (.s 7 (.s 8 (.s 9 .d)))))) (.o 3 (.s 2 (.s 4 (.s 5 (.s 7 (.s 8 (.s 9 .d)))))) .z)) (.o 2 (.o 1 (.s 3 (.s 4 (.s 5 (.s 7 (.s 8 (.s 9 .d)))))) (.o 3 (.o 1 (.s 4 (.s 5 (.s 7 (.s 8 (.s 9 .d))))) (.o 4 (.o 1 (.s 5 (.s 7 (.s 8 (.s 9 .d)))) (.o 5 (.o 1 (.s 7 (.s 8 (.s 9 .d))) (.o 7 (.s 1 (.s 8 (.s 9 .d))) .z)) .z)) .z)) .z)) (.o 3 (.o 1 (.s 2 (.s 4 (.s 5 (.s 7 (.s 8 (.s 9 .d)))))) (.o 2 (.o 1 (.s 4 (.s 5 (.s 7 (.s 8 (.s 9 .d))))) (.o 4 (.o 1 (.s 5 (.s 7 (.s 8 (.s 9 .d)))) (.o 5 (.o 1 (.s 7 (.s 8 (.s 9 .d))) (.o 7 (.s 1 (.s 8 (.s 9 .d))) .z)) .z)) .z)) .z)) .z))) (.o 1 (.o 0 (.o 2 (.s 3 (.s 4 (.s 5 (.s 7 (.s 8 (.s 9 .d)))))) (.o 3 (.s 2 (.s 4 (.s 5 (.s 7 (.s 8 (.s 9 .d)))))) .z)) (.o 2 (.o 0 (.s 3 (.s 4 (.s 5 (.s 7 (.s 8 (.s 9 .d)))))) (.o 3 (.o 0 (.s 4 (.s 5 (.s 7 (.s 8 (.s 9 .d))))) (.o 4 (.o 0 (.s 5 (.s 7 (.s 8 (.s 9 .d)))) (.o 5 (.o 0 (.s 7 (.s 8 (.s 9 .d))) (.o 7 (.s 0 (.s 8 (.s 9 .d))) .z)) .z)) .z)) .z)) (.o 3 (.o 0 (.s 2 (.s 4 (.s 5 (.s 7 (.s 8 (.s 9 .d)))))) (.o 2 (.o 0 (.s 4 (.s 5 (.s 7 (.s 8 (.s 9 .d))))) (.o 4 (.o 0 (.s 5 (.s 7 (.s 8 (.s 9 .d)))) (.o 5 (.o 0 (.s 7 (.s 8 (.s 9 .d))) (.o 7 (.s 0 (.s 8 (.s 9 .d))) .z)) .z)) .z)) .z)) .z))) (.o 2 (.o 0 (.o 1 (.s 3 (.s 4 (.s 5 (.s 7 (.s 8 (.s 9 .d)))))) (.o 3 (.o 1 (.s 4 (.s 5 (.s 7 (.s 8 (.s 9 .d))))) (.o 4 (.o 1 (.s 5 (.s 7 (.s 8 (.s 9 .d)))) (.o 5 (.o 1 (.s 7 (.s 8 (.s 9 .d))) (.o 7 (.s 1 (.s 8 (.s 9 .d))) .z)) .z)) .z)) .z)) (.o 1 (.o 0 (.s 3 (.s 4 (.s 5 (.s 7 (.s 8 (.s 9 .d)))))) (.o 3 (.o 0 (.s 4 (.s 5 (.s 7 (.s 8 (.s 9 .d))))) (.o 4 (.o 0 (.s 5 (.s 7 (.s 8 (.s 9 .d)))) (.o 5 (.o 0 (.s 7 (.s 8 (.s 9 .d))) (.o 7 (.s 0 (.s 8 (.s 9 .d))) .z)) .z)) .z)) .z)) (.o 3 (.o 0 (.o 1 (.s 4 (.s 5 (.s 7 (.s 8 (.s 9 .d))))) (.o 4 (.o 1 (.s 5 (.s 7 (.s 8 (.s 9 .d)))) (.o 5 (.o 1 (.s 7 (.s 8 (.s 9 .d))) (.o 7 (.s 1 (.s 8 (.s 9 .d))) .z)) .z)) .z)) (.o 1 (.o 0 (.s 4 (.s 5 (.s 7 (.s 8 (.s 9 .d))))) (.o 4 (.o 0 (.s 5 (.s 7 (.s 8 (.s 9 .d)))) (.o 5 (.o 0 (.s 7 (.s 8 (.s 9 .d))) (.o 7 (.s 0 (.s 8 (.s 9 .d))) .z)) .z)) .z)) (.o 4 (.o 0 (.o 1 (.s 5 (.s 7 (.s 8 (.s 9 .d)))) (.o 5 (.o 1 (.s 7 (.s 8 (.s 9 .d))) (.o 7 (.s 1 (.s 8 (.s 9 .d))) .z)) .z)) (.o 1 (.o 0 (.s 5 (.s 7 (.s 8 (.s 9 .d)))) (.o 5 (.o 0 (.s 7 (.s 8 (.s 9 .d))) (.o 7 (.s 0 (.s 8 (.s 9 .d))) .z)) .z)) (.o 5 (.o 0 (.o 1 (.s 7 (.s 8 (.s 9 .d))) (.o 7 (.s 1 (.s 8 (.s 9 .d))) .z)) (.o 1 (.o 0 (.s 7 (.s 8 (.s 9 .d))) (.o 7 (.s 0 (.s 8 (.s 9 .d))) .z)) (.o 7 (.o 0 (.s 1 (.s 8 (.s 9 .d))) (.o 1 (.s 0 (.s 8 (.s 9 .d))) .z)) .z))) .z))) .z))) .z))) (.o 3 (.o 0 (.o 1 (.s 2 (.s 4 (.s 5 (.s 7 (.s 8 (.s 9 .d)))))) (.o 2 (.o 1 (.s 4 (.s 5 (.s 7 (.s 8 (.s 9 .d))))) (.o 4 (.o 1 (.s 5 (.s 7 (.s 8 (.s 9 .d)))) (.o 5 (.o 1 (.s 7 (.s 8 (.s 9 .d))) (.o 7 (.s 1 (.s 8 (.s 9 .d))) .z)) .z)) .z)) .z)) (.o 1 (.o 0 (.s 2 (.s 4 (.s 5 (.s 7 (.s 8 (.s 9 .d)))))) (.o 2 (.o 0 (.s 4 (.s 5 (.s 7 (.s 8 (.s 9 .d))))) (.o 4 (.o 0 (.s 5 (.s 7 (.s 8 (.s 9 .d)))) (.o 5 (.o 0 (.s 7 (.s 8 (.s 9 .d))) (.o 7 (.s 0 (.s 8 (.s 9 .d))) .z)) .z)) .z)) .z)) (.o 2 (.o 0 (.o 1 (.s 4 (.s 5 (.s 7 (.s 8 (.s 9 .d))))) (.o 4 (.o 1 (.s 5 (.s 7 (.s 8 (.s 9 .d)))) (.o 5 (.o 1 (.s 7 (.s 8 (.s 9 .d))) (.o 7 (.s 1 (.s 8 (.s 9 .d))) .z)) .z)) .z)) (.o 1 (.o 0 (.s 4 (.s 5 (.s 7 (.s 8 (.s 9 .d))))) (.o 4 (.o 0 (.s 5 (.s 7 (.s 8 (.s 9 .d)))) (.o 5 (.o 0 (.s 7 (.s 8 (.s 9 .d))) (.o 7 (.s 0 (.s 8 (.s 9 .d))) .z)) .z)) .z)) (.o 4 (.o 0 (.o 1 (.s 5 (.s 7 (.s 8 (.s 9 .d)))) (.o 5 (.o 1 (.s 7 (.s 8 (.s 9 .d))) (.o 7 (.s 1 (.s 8 (.s 9 .d))) .z)) .z)) (.o 1 (.o 0 (.s 5 (.s 7 (.s 8 (.s 9 .d)))) (.o 5 (.o 0 (.s 7 (.s 8 (.s 9 .d))) (.o 7 (.s 0 (.s 8 (.s 9 .d))) .z)) .z)) (.o 5 (.o 0 (.o 1 (.s 7 (.s 8 (.s 9 .d))) (.o 7 (.s 1 (.s 8 (.s 9 .d))) .z)) (.o 1 (.o 0 (.s 7 (.s 8 (.s 9 .d))) (.o 7 (.s 0 (.s 8 (.s 9 .d))) .z)) (.o 7 (.o 0 (.s 1 (.s 8 (.s 9 .d))) (.o 1 (.s 0 (.s 8 (.s 9 .d))) .z)) .z))) .z))) .z))) .z))) .z))))) [] [1,2,3,6,7,8,10] 8 (fun _=>([(1, .loc 0 0),(2, .loc 1 0),(3, .loc 3 0),(6, .loc 6 0),(7, .loc 7 0),(8, .b (.lit true)),(10,aj i)],[.cells [aw S.name,an (S.ins.map bM),an (S.res.map bK),an (S.outs.map bz)], .cells [aj a8], .obj (.cells (cW aE (iV.set (a8).toNat (gx (I iV a8) i)))), .cells [.ms 2 bt bt], .cells [an (W.map bB)], .cells [.own (σ.st.map aE)], .cells [eY (gf σ)], .cells [aj e.kind,aj e.v.kind,aj e.v.n,aw e.v.s,an (e.v.l.map cj),an (e.v.f.map ct),aw e.s,aw e.t,an (e.a.map cx),an (e.n.map cS)]],m)) (fun _=>True) (by decide+kernel) ?_ ?_
         · rintro _ Tc
           try dsimp only at Tc
           refine ah (by omega) ?_
           refine ⟨(true,i+1,iV.set (a8).toNat (gx (I iV a8) i)),⟨rfl,rfl⟩,?_,?_⟩
           · try dsimp only
             exact ⟨by omega,by omega,(decide_eq_true (by omega)).symm,by rw [if_pos (by omega),ao,tT,if_pos ⟨aJ,by omega,c7⟩,aO]⟩
           try dsimp only
           omega
         repeat' first
          |refine ⟨(),⟨rfl,rfl⟩,trivial⟩
          |refine Gd fS aE iV rfl rfl rfl (by omega) ?_
          |refine xW (.own ((gx (I iV a8) i).map aE)) rfl rfl rfl (fun bs aF K ab=>Jc (I iV a8) i (by rw [ao];have:=cd.z (I σ.aW a8) (cb (i:=a8) (by omega) (by omega));omega) aF K ab) ?_
          |refine Ge fS ((cW aE iV).set (a8).toNat (.slice false ((I iV a8).map aE))) (cW aE (iV.set (a8).toNat (gx (I iV a8) i))) rfl rfl rfl rfl ⟨by omega,by simp only [List.length_set,vK];omega⟩ (Gc ..) ?_
          |refine ah (by omega) ?_
          |refine ⟨?_,?_,?_,?_,trivial⟩
          |refine ⟨?_,?_,?_,trivial⟩
          |refine ⟨?_,?_,trivial⟩
       refine ah (by omega) ?_
       refine ⟨(true,i+1,iV),⟨rfl,rfl⟩,?_,?_⟩
       · try dsimp only
         exact ⟨by omega,by omega,(decide_eq_true (by omega)).symm,by rw [if_pos (by omega),ao,tT,if_neg (by omega)]⟩
       try dsimp only
       omega
     have aO:=mt (yJ oT ay.1 aY).2 bG
     refine ah (by omega) ?_
     refine ⟨(ok,i+1,iV),⟨rfl,rfl⟩,?_,?_⟩
     · try dsimp only
       refine ⟨by omega,by omega,by rw [ay.2.2.1];exact decide_eq_decide.2 (by omega),?_⟩
       rw [ay.2.2.2]
       by_cases c:0≤b6 (S.res.map cz.name) e.s∧b6 (S.res.map cz.name) e.s<i
       · rw [if_pos c,if_pos (by omega)]
       · rw [if_neg c,if_neg (by omega)]
     try dsimp only
     omega
   have cl:=@yK _ cz.name S.res e.s
   have bL:ok=!decide (hF S W e<0):=by
    rw [ay.2.2.1,hF,if_neg J,if_pos aJ,Bool.eq_iff_iff];simp;omega
   have al:(look S W a8 σ e).st=σ.st:=by rw [wq,if_neg (by omega)]
   have ao:(look S W a8 σ e).aW=iV:=by
    rw [ay.2.2.2]
    by_cases c:0≤b6 (S.res.map cz.name) e.s
    · rw [if_pos ⟨c,by omega⟩]
    · rw [if_neg (fun q=>c q.1),tT,if_neg (fun q=>c q.2.1)]
   refine ah (fun cV=>?_) (fun cV=>?_)
   · have bA:gf (look S W a8 σ e)=(true:Bool):=by
      first|exact (j9 bL).trans (by rw [cV];rfl)|exact al|exact ao
     have aM:(look S W a8 σ e).st=(σ.st:List Int):=by
      first|exact (j9 bL).trans (by rw [cV];rfl)|exact al|exact ao
     have aC:(look S W a8 σ e).aW=(iV:List (List Int)):=by
      first|exact (j9 bL).trans (by rw [cV];rfl)|exact al|exact ao
     rw [bA,aM,aC] at ab
     exact rt rfl fun _=>ab
   have bA:gf (look S W a8 σ e)=((!ok):Bool):=by
    first|exact (j9 bL).trans (by rw [cV];rfl)|exact al|exact ao
   have aM:(look S W a8 σ e).st=(σ.st:List Int):=by
    first|exact (j9 bL).trans (by rw [cV];rfl)|exact al|exact ao
   have aC:(look S W a8 σ e).aW=(iV:List (List Int)):=by
    first|exact (j9 bL).trans (by rw [cV];rfl)|exact al|exact ao
   rw [bA,aM,aC] at ab
   exact rt rfl fun _=>ab
 refine ah (fun cU=>?_) (fun cU=>?_)
 · refine b7 (σ:=Bool×Int×List Int) [(8,0)] [4,5,6,7,8,11] 8 (fun ⟨ok,i,ss⟩=>([(4, .loc 4 0),(5, .loc 5 0),(6, .loc 6 0),(7, .loc 7 0),(8,eY ok),(11,aj i)],[.cells [aw S.name,an (S.ins.map bM),an (S.res.map bK),an (S.outs.map bz)], .cells [aj a8], .obj (.cells (cW aE σ.aW)), .cells [.ms 2 bt bt], .cells [an (W.map bB)], .cells [.own (ss.map aE)], .cells [eY (gf σ)], .cells [aj e.kind,aj e.v.kind,aj e.v.n,aw e.v.s,an (e.v.l.map cj),an (e.v.f.map ct),aw e.s,aw e.t,an (e.a.map cx),an (e.n.map cS)]],m)) (fun ⟨ok,i,ss⟩=>0≤i∧i≤W.length∧ok=decide (0≤b6 (W.map a6.name) e.s∧b6 (W.map a6.name) e.s<i∧e.t∈(I W (b6 (W.map a6.name) e.s)).outs.map Prod.fst)∧ss=(if 0≤b6 (W.map a6.name) e.s∧b6 (W.map a6.name) e.s<i then gx σ.st (b6 (W.map a6.name) e.s) else σ.st)) (fun ⟨ok,i,ss⟩=>W.length- i.toNat) (false,0,σ.st) ⟨rfl,rfl⟩ ?_ ?_
   · try dsimp only
     exact ⟨by omega,by omega,(decide_eq_false (fun q=>by have:=q.2.1;omega)).symm,(if_neg (by omega)).symm⟩
   rintro ⟨ok,i,ss⟩ ay
   dsimp only at ay
   refine az ?_
   refine br ?_
   refine ah (fun eH=>?_) (fun eH=>?_)
   · refine az ?_
     refine az ?_
     refine ck (by omega) ?_
     refine ah (fun fF=>?_) (fun fF=>?_)
     · have aO:=(yJ ni ay.1 eH).1 fF
       have ao:=ay.2.2.2
       rw [if_neg (by omega)] at ao
       have aN:ok=false:=by rw [ay.2.2.1];exact decide_eq_false (fun q=>by have:=q.2.1;omega)
       have uu:=pM _ (cb ay.1 eH)
       refine xW (.own ((gx ss i).map aE)) rfl rfl rfl (fun bs aF K ab=>Jc ss i (by rw [ao];have:=cd.s;omega) aF K ab) ?_
       refine b7 (σ:=Bool×Int) [(8,0)] [4,5,6,7,8,11,12] 8 (fun ⟨hU,k⟩=>([(4, .loc 4 0),(5, .loc 5 0),(6, .loc 6 0),(7, .loc 7 0),(8,eY hU),(11,aj i),(12,aj k)],[.cells [aw S.name,an (S.ins.map bM),an (S.res.map bK),an (S.outs.map bz)], .cells [aj a8], .obj (.cells (cW aE σ.aW)), .cells [.ms 2 bt bt], .cells [an (W.map bB)], .cells [.own ((gx ss i).map aE)], .cells [eY (gf σ)], .cells [aj e.kind,aj e.v.kind,aj e.v.n,aw e.v.s,an (e.v.l.map cj),an (e.v.f.map ct),aw e.s,aw e.t,an (e.a.map cx),an (e.n.map cS)]],m)) (fun ⟨hU,k⟩=>0≤k∧k≤(I W i).outs.length∧hU=decide (e.t∈((I W i).outs.take k.toNat).map Prod.fst)) (fun ⟨hU,k⟩=>(I W i).outs.length- k.toNat) (ok,0) ⟨rfl,rfl⟩ ?_ ?_
       · try dsimp only
         exact ⟨by omega,by omega,by rw [aN];simp⟩
       rintro ⟨hU,k⟩ a1
       dsimp only at a1
       refine az ?_
       refine ck (by omega) ?_
       refine br ?_
       refine ah (fun hL=>?_) (fun hL=>?_)
       · refine az ?_
         refine cq [4,5,6,7,11,12] 8 (hU||(((I ((I W i).outs) k).1)==e.t)) ?_ ?_
         · repeat' first
            |exact ⟨⟨_,rfl,by grind [bD.val]⟩,rfl⟩
            |refine ah (fun _=>?_) (fun _=>?_)
            |refine ck (by omega) ?_
         refine ah (by omega) ?_
         refine ⟨((hU||(((I ((I W i).outs) k).1)==e.t)),k+1),⟨rfl,rfl⟩,?_,?_⟩
         · try dsimp only
           exact ⟨by omega,by omega,by rw [a1.2.2];exact (Jd a1.1 hL).symm⟩
         try dsimp only
         omega
       refine ah (by omega) ?_
       refine ⟨(hU,i+1,(gx ss i)),⟨rfl,rfl⟩,?_,?_⟩
       · try dsimp only
         have Je:=a1.2.2
         rw [fm (by omega)] at Je
         refine ⟨by omega,by omega,?_,by rw [if_pos (by omega),ao,aO]⟩
         rw [Je,aO]
         exact decide_eq_decide.2 ⟨fun q=>⟨by omega,by omega,q⟩,fun q=>q.2.2⟩
       try dsimp only
       omega
     have aO:=mt (yJ ni ay.1 eH).2 fF
     refine ah (by omega) ?_
     refine ⟨(ok,i+1,ss),⟨rfl,rfl⟩,?_,?_⟩
     · try dsimp only
       refine ⟨by omega,by omega,by rw [ay.2.2.1];exact decide_eq_decide.2 ⟨fun q=>⟨q.1,by have:=q.2.1;omega,q.2.2⟩,fun q=>⟨q.1,by have:=q.2.1;omega,q.2.2⟩⟩,?_⟩
       rw [ay.2.2.2]
       by_cases c:0≤b6 (W.map a6.name) e.s∧b6 (W.map a6.name) e.s<i
       · rw [if_pos c,if_pos (by omega)]
       · rw [if_neg c,if_neg (by omega)]
     try dsimp only
     omega
   have cl:=@yK _ a6.name W e.s
   have av:hF S W e=(if 0≤b6 (W.map a6.name) e.s then (if b6 ((I W (b6 (W.map a6.name) e.s)).outs.map Prod.fst) e.t<0 then-1 else b6 (W.map a6.name) e.s) else b6 (W.map a6.name) e.s):=by rw [hF,if_neg J,if_neg aJ,if_pos cU]
   have hm:=@tE ((I W (b6 (W.map a6.name) e.s)).outs.map Prod.fst) e.t
   have bL:ok=!decide (hF S W e<0):=by
    rw [ay.2.2.1,av,Bool.eq_iff_iff];grind
   have ao:(look S W a8 σ e).aW=σ.aW:=by rw [tT,if_neg (by omega)]
   have al:(look S W a8 σ e).st=ss:=by
    rw [ay.2.2.2]
    by_cases c:0≤b6 (W.map a6.name) e.s
    · rw [if_pos ⟨c,by omega⟩,wq,if_pos ⟨cU,c⟩]
    · rw [if_neg (fun q=>c q.1),wq,if_neg (fun q=>c q.2)]
   refine ah (fun hE=>?_) (fun hE=>?_)
   · have bA:gf (look S W a8 σ e)=(true:Bool):=by
      first|exact (j9 bL).trans (by rw [hE];rfl)|exact al|exact ao
     have aM:(look S W a8 σ e).st=(ss:List Int):=by
      first|exact (j9 bL).trans (by rw [hE];rfl)|exact al|exact ao
     have aC:(look S W a8 σ e).aW=(σ.aW:List (List Int)):=by
      first|exact (j9 bL).trans (by rw [hE];rfl)|exact al|exact ao
     rw [bA,aM,aC] at ab
     exact rt rfl fun _=>ab
   have bA:gf (look S W a8 σ e)=((!ok):Bool):=by
    first|exact (j9 bL).trans (by rw [hE];rfl)|exact al|exact ao
   have aM:(look S W a8 σ e).st=(ss:List Int):=by
    first|exact (j9 bL).trans (by rw [hE];rfl)|exact al|exact ao
   have aC:(look S W a8 σ e).aW=(σ.aW:List (List Int)):=by
    first|exact (j9 bL).trans (by rw [hE];rfl)|exact al|exact ao
   rw [bA,aM,aC] at ab
   exact rt rfl fun _=>ab
 omega
end Go.Proofs
end
section
namespace Go.Proofs
open Go Go.ba Go.bV
set_option maxRecDepth 100000
theorem Td {S:a6} {W:List a6} {a8:Int} {σ:c1} {e:ax} (h:¬(2≤e.kind∧e.kind≤4)):look S W a8 σ e=σ:=by
 have av:hF S W e=0:=by rw [hF,if_neg (by omega),if_neg (by omega),if_neg (by omega)]
 rw [look,av,if_neg (by omega),if_neg (by omega),if_neg (by omega)]
set_option maxHeartbeats 4000000 in
theorem Te (S:a6) (W:List a6) (a8:Int) (bt:Nat) (dv eP dH c6 pl dI dJ:Nat) (σ:c1) (e:ax) (k:Nat) (n:Int) (aQ:∀x:ax,eg x<k→∀(dv eP dH c6 pl dI dJ:Nat) (σ:c1) (n:Int),fK n bt σ→n+ec x≤1000000→∀(m:ae),eE [dv,eP,c6,dH,pl,dI,dJ] m→∀(K:U→ae→Prop),K (.tuple []) (ae.bf m [(dv, .cells [.str S.name, .slice false (S.ins.map bM), .slice false (S.res.map bK), .slice false (S.outs.map bz)]),(eP, .cells [.int .i64 a8]),(c6, .cells (cW aE ((en S W a8 σ x).aW))),(dH, .cells [.ms ⟨c6,0,none⟩ bt bt]),(pl, .cells [.slice false (W.map bB)]),(dI, .cells [.slice true (((en S W a8 σ x).st).map aE)]),(dJ, .cells [.bool (gf (en S W a8 σ x))])])→bg Tryz.prog 143 [cy x, .func (.func 141) [] [.ptr ⟨dv,0,none⟩, .ptr ⟨eP,0,none⟩, .ptr ⟨dH,0,none⟩, .ptr ⟨pl,0,none⟩, .ptr ⟨dI,0,none⟩, .ptr ⟨dJ,0,none⟩]] (ae.bf m [(dv, .cells [.str S.name, .slice false (S.ins.map bM), .slice false (S.res.map bK), .slice false (S.outs.map bz)]),(eP, .cells [.int .i64 a8]),(c6, .cells (cW aE σ.aW)),(dH, .cells [.ms ⟨c6,0,none⟩ bt bt]),(pl, .cells [.slice false (W.map bB)]),(dI, .cells [.slice true (σ.st.map aE)]),(dJ, .cells [.bool (gf σ)])]) K) (bo:eg e<k+1) (ad:a8<bt) (cd:fK n bt σ) (aI:n+ec e≤1000000) (gH:W.length≤1000) (gm:S.ins.length≤1000∧S.res.length≤1000) (pM:∀s∈W,s.outs.length≤1000) (oT:(S.res.map cz.name).Nodup) (ni:(W.map a6.name).Nodup) (m:ae) (gd:eE [dv,eP,c6,dH,pl,dI,dJ] m) (K:U→ae→Prop) (ab:K (.tuple []) (ae.bf m [(dv, .cells [.str S.name, .slice false (S.ins.map bM), .slice false (S.res.map bK), .slice false (S.outs.map bz)]),(eP, .cells [.int .i64 a8]),(c6, .cells (cW aE ((en S W a8 σ e).aW))),(dH, .cells [.ms ⟨c6,0,none⟩ bt bt]),(pl, .cells [.slice false (W.map bB)]),(dI, .cells [.slice true (((en S W a8 σ e).st).map aE)]),(dJ, .cells [.bool (gf (en S W a8 σ e))])])):bg Tryz.prog 143 [cy e, .func (.func 141) [] [.ptr ⟨dv,0,none⟩, .ptr ⟨eP,0,none⟩, .ptr ⟨dH,0,none⟩, .ptr ⟨pl,0,none⟩, .ptr ⟨dI,0,none⟩, .ptr ⟨dJ,0,none⟩]] (ae.bf m [(dv, .cells [.str S.name, .slice false (S.ins.map bM), .slice false (S.res.map bK), .slice false (S.outs.map bz)]),(eP, .cells [.int .i64 a8]),(c6, .cells (cW aE σ.aW)),(dH, .cells [.ms ⟨c6,0,none⟩ bt bt]),(pl, .cells [.slice false (W.map bB)]),(dI, .cells [.slice true (σ.st.map aE)]),(dJ, .cells [.bool (gf σ)])]) K:=by
 have aq:=yh e
 have sx:=(oJ e.a).1
 refine enter (c:=kt [] [0] [1] [] [] [dv,eP,c6,dH,pl,dI,dJ]) (vs:=[.aH (cy e), .fn 141 [] [.loc 0 0, .loc 1 0, .loc 3 0, .loc 4 0, .loc 5 0, .loc 6 0]]) (L:=[.cells [aw S.name,an (S.ins.map bM),an (S.res.map bK),an (S.outs.map bz)], .cells [aj a8], .obj (.cells (cW aE σ.aW)), .cells [.ms 2 bt bt], .cells [an (W.map bB)], .cells [.own (σ.st.map aE)], .cells [eY (gf σ)]]) (m:=m) false fS Tryz.mixed Tryz.func143 rfl (k:=2) (by show cu [] _ _ _=true;decide+kernel) rfl (gd.hn rfl) ?_
 refine ⟨fun bq=>?_⟩
 have jx:e.v.s.length≤140737488355328:=(bq 0 3 (Nat.le_of_ble_eq_true rfl))
 have lN:e.v.l.length≤140737488355328:=cN (bq 0 4 (Nat.le_of_ble_eq_true rfl))
 have rN:e.v.f.length≤140737488355328:=cN (bq 0 5 (Nat.le_of_ble_eq_true rfl))
 have rO:e.s.length≤140737488355328:=(bq 0 6 (Nat.le_of_ble_eq_true rfl))
 have rP:e.t.length≤140737488355328:=(bq 0 7 (Nat.le_of_ble_eq_true rfl))
 have rQ:e.a.length≤140737488355328:=cN (bq 0 8 (Nat.le_of_ble_eq_true rfl))
 have rR:e.n.length≤140737488355328:=cN (bq 0 9 (Nat.le_of_ble_eq_true rfl))
 refine sU (σ:=c1) [] [1,2] 8 (fun r0=>([(1, .fn 141 [] [.loc 0 0, .loc 1 0, .loc 3 0, .loc 4 0, .loc 5 0, .loc 6 0]),(2, .loc 7 0)],[.cells [aw S.name,an (S.ins.map bM),an (S.res.map bK),an (S.outs.map bz)], .cells [aj a8], .obj (.cells (cW aE r0.aW)), .cells [.ms 2 bt bt], .cells [an (W.map bB)], .cells [.own (r0.st.map aE)], .cells [eY (gf r0)], .cells [aj e.kind,aj e.v.kind,aj e.v.n,aw e.v.s,an (e.v.l.map cj),an (e.v.f.map ct),aw e.s,aw e.t,an (e.a.map cx),an (e.n.map cS)]],m)) (fun r0=>r0=look S W a8 σ e) ?_ ?_
 · rintro r0 kS
   refine b7 (σ:=Int×c1) [] [1,2,4] 8 (fun ⟨i,eh⟩=>([(1, .fn 141 [] [.loc 0 0, .loc 1 0, .loc 3 0, .loc 4 0, .loc 5 0, .loc 6 0]),(2, .loc 7 0),(4,aj i)],[.cells [aw S.name,an (S.ins.map bM),an (S.res.map bK),an (S.outs.map bz)], .cells [aj a8], .obj (.cells (cW aE eh.aW)), .cells [.ms 2 bt bt], .cells [an (W.map bB)], .cells [.own (eh.st.map aE)], .cells [eY (gf eh)], .cells [aj e.kind,aj e.v.kind,aj e.v.n,aw e.v.s,an (e.v.l.map cj),an (e.v.f.map ct),aw e.s,aw e.t,an (e.a.map cx),an (e.n.map cS)]],m)) (fun ⟨i,eh⟩=>0≤i∧i≤e.a.length∧(ob (e.a.drop i.toNat)).foldl (look S W a8) eh=en S W a8 σ e∧fK (n+ec e- hO (e.a.drop i.toNat)) bt eh) (fun ⟨i,eh⟩=>e.a.length- i.toNat) (0,r0) ⟨rfl,rfl⟩ ?_ ?_
   · try dsimp only
     exact ⟨by omega,by omega,by rw [kS,en,IY];rfl,by rw [kS];exact (cd.look S W a8 ad e).mono (by show n+1≤n+ec e- hO e.a;omega)⟩
   rintro ⟨i,eh⟩ ay
   dsimp only at ay
   refine az ?_
   refine br ?_
   refine ah (fun J=>?_) (fun J=>?_)
   · have al:=yi ay.1 J
     have aU:=(rM (I e.a i)).1
     have aO:=(oJ (e.a.drop (i+1).toNat)).1
     refine az ?_
     refine gj cy e9 (by omega) ?_
     refine gn [0,1,2,3,4,5,6] [.cells [aw S.name,an (S.ins.map bM),an (S.res.map bK),an (S.outs.map bz)], .cells [aj a8], .obj (.cells (cW aE ((en S W a8 eh (I e.a i)).aW))), .cells [.ms 2 bt bt], .cells [an (W.map bB)], .cells [.own (((en S W a8 eh (I e.a i)).st).map aE)], .cells [eY (gf (en S W a8 eh (I e.a i)))]] (.dw []) rfl (fun bs aF gd=>aQ (I e.a i) (by have:=ns (cb (l:=e.a) (i:=i) ay.1 (by assumption));omega) (bs.getD 0 0) (bs.getD 1 0) (bs.getD 3 0) (bs.getD 2 0) (bs.getD 4 0) (bs.getD 5 0) (bs.getD 6 0) eh _ ay.2.2.2 (by omega) aF gd) ?_
     refine ah (by omega) ?_
     refine ⟨(i+1,(en S W a8 eh (I e.a i))),⟨rfl,rfl⟩,?_,?_⟩
     · try dsimp only
       exact ⟨by omega,by omega,by rw [←ay.2.2.1,IZ ay.1 J,List.foldl_append];rfl,(ay.2.2.2.walk ad (I e.a i)).mono (by omega)⟩
     try dsimp only
     omega
   refine rt rfl fun _=>?_
   show K (.tuple []) (ae.bf m [(dv, .cells [.str S.name, .slice false (S.ins.map bM), .slice false (S.res.map bK), .slice false (S.outs.map bz)]),(eP, .cells [.int .i64 a8]),(c6, .cells (cW aE eh.aW)),(dH, .cells [.ms ⟨c6,0,none⟩ bt bt]),(pl, .cells [.slice false (W.map bB)]),(dI, .cells [.slice true (eh.st.map aE)]),(dJ, .cells [.bool (gf eh)])])
   have q:=ay.2.2.1
   rw [List.drop_eq_nil_of_le (by omega)] at q
   rw [←q] at ab;exact ab
 refine cq [1,2] 12 ((decide (2≤e.kind))&&(decide (e.kind≤4))) ?_ ?_
 · repeat' first
    |exact ⟨⟨_,rfl,by grind [bD.val]⟩,rfl⟩
    |refine ah (fun _=>?_) (fun _=>?_)
 refine ah (fun aa=>?_) (fun aa=>?_)
 · replace aa:(2≤e.kind)∧(e.kind≤4):=⟨(of_decide_eq_true (eO aa)),(of_decide_eq_true (fk aa))⟩
   refine gn [0,1,2,3,4,5,6] [.cells [aw S.name,an (S.ins.map bM),an (S.res.map bK),an (S.outs.map bz)], .cells [aj a8], .obj (.cells (cW aE ((look S W a8 σ e).aW))), .cells [.ms 2 bt bt], .cells [an (W.map bB)], .cells [.own (((look S W a8 σ e).st).map aE)], .cells [eY (gf (look S W a8 σ e))]] (.dw []) rfl (fun bs aF gd=>Tb S W a8 bt (bs.getD 0 0) (bs.getD 1 0) (bs.getD 3 0) (bs.getD 2 0) (bs.getD 4 0) (bs.getD 5 0) (bs.getD 6 0) σ e _ ad cd (by omega) gH gm pM oT ni aa aF gd) ?_
   refine ⟨((look S W a8 σ e)),⟨rfl,rfl⟩,rfl⟩
 replace aa:(e.kind<2)∨(4<e.kind):=((fl aa).imp (fun q=>(Int.not_le.1 (of_decide_eq_false q))) (fun q=>(Int.not_le.1 (of_decide_eq_false q))))
 refine ⟨(σ),⟨rfl,rfl⟩,(Td (by omega)).symm⟩
theorem CN (S:a6) (W:List a6) (a8:Int) (bt:Nat) (ad:a8<bt) (gH:W.length≤1000) (gm:S.ins.length≤1000∧S.res.length≤1000) (pM:∀s∈W,s.outs.length≤1000) (oT:(S.res.map cz.name).Nodup) (ni:(W.map a6.name).Nodup):∀(k:Nat) (e:ax),eg e<k→∀(dv eP dH c6 pl dI dJ:Nat) (σ:c1) (n:Int),fK n bt σ→n+ec e≤1000000→∀(m:ae),eE [dv,eP,c6,dH,pl,dI,dJ] m→∀(K:U→ae→Prop),K (.tuple []) (ae.bf m [(dv, .cells [.str S.name, .slice false (S.ins.map bM), .slice false (S.res.map bK), .slice false (S.outs.map bz)]),(eP, .cells [.int .i64 a8]),(c6, .cells (cW aE ((en S W a8 σ e).aW))),(dH, .cells [.ms ⟨c6,0,none⟩ bt bt]),(pl, .cells [.slice false (W.map bB)]),(dI, .cells [.slice true (((en S W a8 σ e).st).map aE)]),(dJ, .cells [.bool (gf (en S W a8 σ e))])])→bg Tryz.prog 143 [cy e, .func (.func 141) [] [.ptr ⟨dv,0,none⟩, .ptr ⟨eP,0,none⟩, .ptr ⟨dH,0,none⟩, .ptr ⟨pl,0,none⟩, .ptr ⟨dI,0,none⟩, .ptr ⟨dJ,0,none⟩]] (ae.bf m [(dv, .cells [.str S.name, .slice false (S.ins.map bM), .slice false (S.res.map bK), .slice false (S.outs.map bz)]),(eP, .cells [.int .i64 a8]),(c6, .cells (cW aE σ.aW)),(dH, .cells [.ms ⟨c6,0,none⟩ bt bt]),(pl, .cells [.slice false (W.map bB)]),(dI, .cells [.slice true (σ.st.map aE)]),(dJ, .cells [.bool (gf σ)])]) K
 |0,_,h=>absurd h (Nat.not_lt_zero _)
 |k+1,e,h=>fun dv eP dH c6 pl dI dJ σ n cd aI m gd K ab=>Te S W a8 bt dv eP dH c6 pl dI dJ σ e k n (fun x aq=>CN S W a8 bt ad gH gm pM oT ni k x aq) h ad cd aI gH gm pM oT ni m gd K ab
end Go.Proofs
end
section
namespace Go.Proofs
open Go Go.ba Go.bV
set_option maxRecDepth 100000
def l6 (S:a6) (σ:c1):Prop:=∀z∈σ.aW,∀x∈z,0≤x∧x<(S.res.length:Int)
theorem l6.look {S:a6} {W:List a6} {a8:Int} {σ:c1} {e:ax} (h:l6 S σ):l6 S (look S W a8 σ e):=fun z ao=>by
 rw [tT] at ao
 split at ao
 · rename_i c
   rcases List.mem_or_eq_of_mem_set ao with ao|rfl
   · exact h z ao
   · intro x aq
     rcases IW.1 aq with aq|rfl
     · by_cases au:a8<σ.aW.length
       · exact h _ (cb c.2.2 au) x aq
       · rw [I,List.getD_eq_getElem?_getD,List.getElem?_eq_none (by omega)] at aq
         cases aq
     · exact ⟨c.2.1,yK⟩
 · exact h z ao
theorem l6.fold {S:a6} {W:List a6} {a8:Int}:∀(l:List ax) {σ:c1},l6 S σ→l6 S (l.foldl (Go.Proofs.look S W a8) σ)
 |[],_,h=>h
 |_::r,_,h=>l6.fold r h.look
theorem l6.each {S:a6} {W:List a6}:∀(l:List (Int×ax)) {σ:c1},l6 S σ→l6 S (l.foldl (oS S W) σ)
 |[],_,h=>h
 |q::r,_,h=>l6.each r (l6.fold (oR q.2) h)
theorem yL {S:a6} (al:pJ S) (W:List a6):jC (ev S W (eo S)).aW=true:=by
 have av:=(tO al W).l
 have h:l6 S (ev S W (eo S)):=l6.each (qB S) fun z ao=>by
  rw [eo] at ao
  rw [List.eq_of_mem_replicate ao]
  intro x aq;cases aq
 refine List.all_eq_true.2 fun w hw=>List.all_eq_true.2 fun x aq=>?_
 have:=h w hw x aq
 rw [av]
 simp only [Bool.and_eq_true,decide_eq_true_eq];omega
def jV (S:a6) (W:List a6):List Int×List Int×Int:=
 if (ev S W (eo S)).cH≠0 then ([],[],7) else ((ev S W (eo S)).st,(eL (ev S W (eo S)).aW).1.flatten,(eL (ev S W (eo S)).aW).2)
set_option maxHeartbeats 4000000 in
theorem Tf (W:List a6) (n:Int) (aG:0≤n) (aI:n<W.length) (al:pJ (I W n)) (gH:W.length≤1000) (pM:∀s∈W,s.outs.length≤1000) (oT:((I W n).res.map cz.name).Nodup) (ni:(W.map a6.name).Nodup) (m:ae) (K:U→ae→Prop) (ab:K (.tuple [bj aE (jV (I W n) W).1,bj aE (jV (I W n) W).2.1, .int .i64 (jV (I W n) W).2.2]) m):bg Tryz.prog 74 [.slice false (W.map bB), .int .i64 n] m K:=by
 refine bg.pl ?_
 have CF:=al.rX
 have mb:=al.bw
 have gm:(I W n).ins.length≤1000∧(I W n).res.length≤1000:=⟨by have:=al.li;omega,by omega⟩
 have tP:=tO al W
 have tN:=tP.l
 have bL:=yL al W
 refine enter (c:=kt [] [0] [] [] [22] []) (vs:=[.aH (.slice false (W.map bB)), .aH (.int .i64 n)]) (L:=[]) (m:=m) false fS Tryz.mixed Tryz.func74 rfl (k:=2) (by show cu [] _ _ _=true;decide+kernel) rfl (Good.nil m) ?_
 refine ⟨fun bq=>?_⟩
 refine ck (by omega) ?_
 refine br ?_
 refine By fS (fun l:(List Int)=>U.slice true (l.map aE)) [] (((I W n).res).length:Int) rfl rfl rfl rfl rfl rfl rfl (by omega) (by rw [show Tryz.prog.bytesOf 136=24 from rfl];omega) (by omega) rfl ?_
 refine az ?_
 refine b7 (σ:=Int×c1×Int) [] [7,8,9,10,11,12,13] 7 (fun ⟨i,eh,h2⟩=>([(7, .loc 1 0),(8, .loc 2 0),(9, .loc 4 0),(10, .loc 5 0),(11, .loc 6 0),(12, .fn 141 [] [.loc 1 0, .loc 6 0, .loc 4 0, .loc 0 0, .loc 2 0, .loc 5 0]),(13,aj i)],[.cells [an (W.map bB)], .cells [aw ((I W n).name),an (((I W n).ins).map bM),an (((I W n).res).map bK),an (((I W n).outs).map bz)], .cells [.own (eh.st.map aE)], .obj (.cells (cW aE eh.aW)), .cells [.ms 3 ((((I W n).res).length:Int).toNat) ((((I W n).res).length:Int).toNat)], .cells [eY (gf eh)], .cells [aj h2]],m)) (fun ⟨i,eh,h2⟩=>0≤i∧i≤(I W n).res.length∧(l5 ((I W n).res.drop i.toNat) i++(I W n).outs.map (lq (-1))).foldl (oS (I W n) W) eh=ev (I W n) W (eo (I W n))∧fK (1000*i) (((I W n).res.length:Int)).toNat eh) (fun ⟨i,eh,h2⟩=>(I W n).res.length- i.toNat) (0,(eo (I W n)),-1) ⟨rfl,rfl⟩ ?_ ?_
 · try dsimp only
   exact ⟨by omega,by omega,rfl,(CG _).mono (by omega)⟩
 rintro ⟨i,eh,h2⟩ ay
 dsimp only at ay
 refine az ?_
 refine br ?_
 refine ah (fun J=>?_) (fun J=>?_)
 · have IT:=(al.r _ (cb ay.1 J)).1
   refine az ?_
   refine b7 (σ:=Int×c1) [] [7,8,9,10,11,12,13,14] 7 (fun ⟨k,hv⟩=>([(7, .loc 1 0),(8, .loc 2 0),(9, .loc 4 0),(10, .loc 5 0),(11, .loc 6 0),(12, .fn 141 [] [.loc 1 0, .loc 6 0, .loc 4 0, .loc 0 0, .loc 2 0, .loc 5 0]),(13,aj i),(14,aj k)],[.cells [an (W.map bB)], .cells [aw ((I W n).name),an (((I W n).ins).map bM),an (((I W n).res).map bK),an (((I W n).outs).map bz)], .cells [.own (hv.st.map aE)], .obj (.cells (cW aE hv.aW)), .cells [.ms 3 ((((I W n).res).length:Int).toNat) ((((I W n).res).length:Int).toNat)], .cells [eY (gf hv)], .cells [aj i]],m)) (fun ⟨k,hv⟩=>0≤k∧k≤(I (I W n).res i).parts.length∧(((I (I W n).res i).parts.drop k.toNat).map (lq i)++(l5 ((I W n).res.drop (i+1).toNat) (i+1)++(I W n).outs.map (lq (-1)))).foldl (oS (I W n) W) hv=ev (I W n) W (eo (I W n))∧fK (1000*i+60*k) (((I W n).res.length:Int)).toNat hv) (fun ⟨k,hv⟩=>(I (I W n).res i).parts.length- k.toNat) (0,eh) ⟨rfl,rfl⟩ ?_ ?_
   · try dsimp only
     exact ⟨by omega,by omega,by rw [←ay.2.2.1,I3 ay.1 J,List.append_assoc];rfl,ay.2.2.2.mono (by omega)⟩
   rintro ⟨k,hv⟩ a1
   dsimp only at a1
   refine az ?_
   refine ck (by omega) ?_
   refine br ?_
   refine ah (fun aa=>?_) (fun aa=>?_)
   · refine az ?_
     refine ck (by omega) ?_
     refine ck (by omega) ?_
     refine gn [1,6,3,4,0,2,5] [.cells [aw ((I W n).name),an (((I W n).ins).map bM),an (((I W n).res).map bK),an (((I W n).outs).map bz)], .cells [aj i], .obj (.cells (cW aE ((en (I W n) W i hv ((I ((I ((I W n).res) i).parts) k).2)).aW))), .cells [.ms 3 ((((I W n).res.length:Int)).toNat) ((((I W n).res.length:Int)).toNat)], .cells [an (W.map bB)], .cells [.own (((en (I W n) W i hv ((I ((I ((I W n).res) i).parts) k).2)).st).map aE)], .cells [eY (gf (en (I W n) W i hv ((I ((I ((I W n).res) i).parts) k).2)))]] (.dw []) rfl (fun bs aF gd=>CN (I W n) W i _ (by omega) gH gm pM oT ni (eg ((I ((I ((I W n).res) i).parts) k).2)+1) ((I ((I ((I W n).res) i).parts) k).2) (Nat.lt_succ_self _) (bs.getD 1 0) (bs.getD 6 0) (bs.getD 4 0) (bs.getD 3 0) (bs.getD 0 0) (bs.getD 2 0) (bs.getD 5 0) hv _ (by first|exact a1.2.2.2|exact ay.2.2.2) (by first|(have:=(lj ((al.r _ (cb ay.1 (by assumption))).2 _ (cb a1.1 (by assumption)))).2.1;omega)|(have:=(lj (al.o _ (cb a1.1 (by assumption)))).2.1;omega)) aF gd) ?_
     refine ah (by omega) ?_
     refine ⟨(k+1,(en (I W n) W i hv ((I ((I ((I W n).res) i).parts) k).2))),⟨rfl,rfl⟩,?_,?_⟩
     · try dsimp only
       have aq:=(lj ((al.r _ (cb ay.1 J)).2 _ (cb a1.1 aa))).2.1
       exact ⟨by omega,by omega,by rw [←a1.2.2.1,yE a1.1 aa];rfl,(a1.2.2.2.walk (by omega) _).mono (by omega)⟩
     try dsimp only
     omega
   refine ah (by omega) ?_
   refine ⟨(i+1,hv,i),⟨rfl,rfl⟩,?_,?_⟩
   · try dsimp only
     have q:=a1.2.2.1
     rw [List.drop_eq_nil_of_le (by omega)] at q
     exact ⟨by omega,by omega,q,a1.2.2.2.mono (by omega)⟩
   try dsimp only
   omega
 refine az ?_
 refine b7 (σ:=Int×c1) [] [7,8,9,10,12,15] 7 (fun ⟨j,fa⟩=>([(7, .loc 1 0),(8, .loc 2 0),(9, .loc 4 0),(10, .loc 5 0),(12, .fn 141 [] [.loc 1 0, .loc 6 0, .loc 4 0, .loc 0 0, .loc 2 0, .loc 5 0]),(15,aj j)],[.cells [an (W.map bB)], .cells [aw ((I W n).name),an (((I W n).ins).map bM),an (((I W n).res).map bK),an (((I W n).outs).map bz)], .cells [.own (fa.st.map aE)], .obj (.cells (cW aE fa.aW)), .cells [.ms 3 ((((I W n).res).length:Int).toNat) ((((I W n).res).length:Int).toNat)], .cells [eY (gf fa)], .cells [.aH (.int .i64 (-1))]],m)) (fun ⟨j,fa⟩=>0≤j∧j≤(I W n).outs.length∧(((I W n).outs.drop j.toNat).map (lq (-1))++[]).foldl (oS (I W n) W) fa=ev (I W n) W (eo (I W n))∧fK (10000+60*j) (((I W n).res.length:Int)).toNat fa) (fun ⟨j,fa⟩=>(I W n).outs.length- j.toNat) (0,eh) ⟨rfl,rfl⟩ ?_ ?_
 · try dsimp only
   have q:=ay.2.2.1
   rw [List.drop_eq_nil_of_le (by omega)] at q
   exact ⟨by omega,by omega,by rw [List.append_nil];exact q,ay.2.2.2.mono (by omega)⟩
 rintro ⟨j,fa⟩ a1
 dsimp only at a1
 refine az ?_
 refine br ?_
 refine ah (fun ai=>?_) (fun ai=>?_)
 · refine az ?_
   refine ck (by omega) ?_
   refine gn [1,6,3,4,0,2,5] [.cells [aw ((I W n).name),an (((I W n).ins).map bM),an (((I W n).res).map bK),an (((I W n).outs).map bz)], .cells [.aH (.int .i64 (-1))], .obj (.cells (cW aE ((en (I W n) W (-1) fa ((I ((I W n).outs) j).2)).aW))), .cells [.ms 3 ((((I W n).res.length:Int)).toNat) ((((I W n).res.length:Int)).toNat)], .cells [an (W.map bB)], .cells [.own (((en (I W n) W (-1) fa ((I ((I W n).outs) j).2)).st).map aE)], .cells [eY (gf (en (I W n) W (-1) fa ((I ((I W n).outs) j).2)))]] (.dw []) rfl (fun bs aF gd=>CN (I W n) W (-1) _ (by omega) gH gm pM oT ni (eg ((I ((I W n).outs) j).2)+1) ((I ((I W n).outs) j).2) (Nat.lt_succ_self _) (bs.getD 1 0) (bs.getD 6 0) (bs.getD 4 0) (bs.getD 3 0) (bs.getD 0 0) (bs.getD 2 0) (bs.getD 5 0) fa _ (by first|exact a1.2.2.2|exact ay.2.2.2) (by first|(have:=(lj ((al.r _ (cb ay.1 (by assumption))).2 _ (cb a1.1 (by assumption)))).2.1;omega)|(have:=(lj (al.o _ (cb a1.1 (by assumption)))).2.1;omega)) aF gd) ?_
   refine ah (by omega) ?_
   refine ⟨(j+1,(en (I W n) W (-1) fa ((I ((I W n).outs) j).2))),⟨rfl,rfl⟩,?_,?_⟩
   · try dsimp only
     have aq:=(lj (al.o _ (cb a1.1 ai))).2.1
     exact ⟨by omega,by omega,by rw [←a1.2.2.1,yE a1.1 ai];rfl,(a1.2.2.2.walk (by omega) _).mono (by omega)⟩
   try dsimp only
   omega
 have aO:=a1.2.2.1
 rw [List.drop_eq_nil_of_le (by omega)] at aO
 replace aO:fa=ev (I W n) W (eo (I W n)):=aO
 rw [←aO] at tP tN bL
 refine az ?_
 refine ah (fun aJ=>?_) (fun aJ=>?_)
 · refine bh rfl fun _=>?_
   show K (.tuple [.slice false [], .slice false [], .int .i64 7]) m
   have e:jV (I W n) W=([],[],7):=by rw [jV,←aO,if_pos (by simpa [gf] using aJ)]
   rw [e] at ab
   exact ab
 refine xZ 3 _ _ rfl rfl rfl ?_
 refine xZ 4 _ _ rfl rfl rfl ?_
 refine xZ 5 _ _ rfl rfl rfl ?_
 refine Gg (i:=6) aE fa.aW rfl ?_
 refine FZ (i:=6) (a:=3) (j:=0) (w:=1) (f:=(bj aE)) fa.aW (fa.aW.map (bj aE)) rfl rfl rfl rfl (fun _=>rfl) (by decide) (fun _=>rfl) (by exact ⟨by omega,by omega⟩) (by rw [List.take_of_length_le (by omega)]) ?_
 refine b2 (fun _=>Ih fa.aW bL (by omega) (fun z ao=>by have:=tP.z z ao;omega)) rfl ?_
 refine ih (fun _=>R7 (eL fa.aW).1 (by have:=(yq fa.aW).1;omega) (fun w hw=>by have:=(yq fa.aW).2 w hw;omega)) ?_
 refine bh rfl fun _=>?_
 show K (.tuple [.slice false (fa.st.map aE), .slice false (((eL fa.aW).1.flatten).map aE), .int .i64 ((eL fa.aW).2)]) m
 have e:jV (I W n) W=(fa.st,(eL fa.aW).1.flatten,(eL fa.aW).2):=by rw [jV,←aO,if_neg (by simpa [gf] using aJ)]
 rw [e] at ab
 exact ab
end Go.Proofs
end
section
namespace Go.Proofs
open Go Go.ba Go.bV
set_option maxRecDepth 100000
def l7 (W:List a6) (σ:c1):Prop:=(σ.cH=0∨σ.cH=7)∧∀x∈σ.st,0≤x∧x<(W.length:Int)
theorem l7.look {S:a6} {W:List a6} {a8:Int} {σ:c1} {e:ax} (h:l7 W σ):l7 W (look S W a8 σ e):=by
 refine ⟨?_,fun x aq=>?_⟩
 · show (if hF S W e<0∧σ.cH=0 then (7:Int) else σ.cH)=0∨(if hF S W e<0∧σ.cH=0 then (7:Int) else σ.cH)=7
   split
   · exact .inr rfl
   · exact h.1
 · rw [wq] at aq
   split at aq
   · rename_i c
     rcases IW.1 aq with aq|rfl
     · exact h.2 x aq
     · exact ⟨c.2,yK⟩
   · exact h.2 x aq
theorem l7.fold {S:a6} {W:List a6} {a8:Int}:∀(l:List ax) {σ:c1},l7 W σ→l7 W (l.foldl (Go.Proofs.look S W a8) σ)
 |[],_,h=>h
 |_::r,_,h=>l7.fold r h.look
theorem l7.each {S:a6} {W:List a6}:∀(l:List (Int×ax)) {σ:c1},l7 W σ→l7 W (l.foldl (oS S W) σ)
 |[],_,h=>h
 |q::r,_,h=>l7.each r (l7.fold (oR q.2) h)
theorem Jf (S:a6) (W:List a6):l7 W (ev S W (eo S)):=l7.each (qB S) ⟨.inl rfl,fun x aq=>by cases aq⟩
theorem yM {needs:List (List Int)} (h:jC needs=true) (aI:needs.length≤64):iI needs=((eL needs).1.flatten,(eL needs).2):=by
 rw [iI,if_neg]
 rw [lk,if_neg (by omega),if_pos h];decide
theorem Jg {S:a6} (al:pJ S) (W:List a6):(jV S W).2.2=gX S W∧(gX S W=0→(jV S W).1=tQ W S∧(jV S W).2.1=tR W S):=by
 have av:=(tO al W).l
 have au:=al.rX
 have hw:=yM (yL al W) (by omega)
 unfold jV gX tQ tR
 by_cases c:(ev S W (eo S)).cH=0
 · rw [if_neg (not_not_intro c),if_neg (not_not_intro c),hw]
   exact ⟨rfl,fun _=>⟨rfl,rfl⟩⟩
 · rw [if_pos c,if_pos c]
   have c7:=(Jf S W).1.resolve_left c
   exact ⟨c7.symm,fun q=>absurd q c⟩
theorem wu (l:List a6):jC (jE l)=true:=by
 refine List.all_eq_true.2 fun w hw=>List.all_eq_true.2 fun x aq=>?_
 obtain ⟨s,_,rfl⟩:=List.mem_map.1 hw
 have:=(Jf s l).2 x aq
 simp only [jE,List.length_map,Bool.and_eq_true,decide_eq_true_eq];omega
theorem Jh:∀l,0≤nz l
 |[]=>Int.le_refl _
 |p::r=>by rw [nz];split;(· exact Jh r);(· decide)
theorem Ji (l:List (aD×ax)):∀n i,0≤lo l n i
 |0,_=>by rw [lo];exact Int.le_refl _
 |n+1,i=>by
  rw [lo];split
  · split
    · exact Ji l n _
    · exact we _
  · decide
theorem Jj:∀l,0≤mH l
 |[]=>by rw [mH];exact Int.le_refl _
 |x::r=>by
  rw [mH];split
  · split
    · decide
    · split
      · exact Jj r
      · exact Ji ..
  · decide
theorem Jk:∀l,0≤l2 l
 |[]=>by rw [l2];exact Int.le_refl _
 |p::r=>by
  rw [l2];split
  · split
    · exact Jk r
    · exact we _
  · decide
theorem Jl (s:a6):0≤dx s:=by
 unfold dx qz qy
 have J:=Jh s.ins
 have aa:=Jj s.res
 have ai:=Jk s.outs
 split
 · decide
 · split
   · decide
   · split
     · exact J
     · split
       · exact aa
       · exact ai
theorem CO {needs:List (List Int)} (h:jC needs=true):0≤(eL needs).2:=by
 rcases Co h with ⟨_,_,hw⟩|⟨_,hw⟩<;>rw [hw]<;>first|exact Int.le_refl _|(show (0:Int)≤_;decide)
theorem Jm {S:a6} (al:pJ S) (W:List a6):0≤(jV S W).2.2:=by
 unfold jV
 split
 · show (0:Int)≤7;decide
 · exact CO (yL al W)
theorem Tg {α:Type} [Inhabited α] {l:List α} {j:Nat} (h:j<l.length):I l (j:Int)=l[j]:=by
 rw [I,Int.toNat_natCast,List.getD_eq_getElem?_getD,List.getElem?_eq_getElem h,Option.getD_some]
theorem Th {s:a6} (h:iJ s=false):(s.res.map cz.name).Nodup:=by
 unfold iJ at h
 simp only [Bool.or_eq_false_iff,decide_eq_false_iff_not,Classical.not_not] at h
 exact h.1.2
set_option maxHeartbeats 8000000 in
theorem Jn (l:List a6) (ag:∀s∈l,tS s) (m:ae) (K:U→ae→Prop) (fp:dW l≠0→K (.tuple [.agg [.slice false [], .slice false [], .slice false []], .int .i64 (dW l)]) m) (ab:dW l=0→K (.tuple [.agg [.slice false (l.map bB), .slice false ((jE l).map (bj aE)), .slice false ((oc l).map (bj aE))], .int .i64 0]) m):bg Tryz.prog 23 [.slice false (l.map bB)] m K:=by
 refine bg.pl ?_
 refine enter (c:=kt [] [0] [] [] [] []) (vs:=[.aH (.slice false (l.map bB))]) (L:=[]) (m:=m) false fS Tryz.mixed Tryz.func23 rfl (k:=1) (by show cu [] _ _ _=true;decide+kernel) rfl (Good.nil m) ?_
 refine ⟨fun bq=>?_⟩
 have jy:l.length≤140737488355328:=cN (o:=false) (bq 0).1
 refine az ?_
 refine br ?_
 refine ah (fun J=>?_) (fun J=>?_)
 · refine bh rfl fun _=>?_
   show K (.tuple [.agg [.slice false [], .slice false [], .slice false []], .int .i64 2]) m
   have e:dW l=2:=by
    rw [dW,if_pos J]
   rw [e] at fp;exact fp (by first|decide|assumption|omega)
 have pr:dW l=od l (hf dx l):=by rw [dW,if_neg (by omega)]
 refine az ?_
 refine b7 (σ:=Int) [] [0,2,4,5] 2 (fun i=>([(0,an (l.map bB)),(2, .loc 0 0),(4, .loc 1 0),(5,aj i)],[.cells [.own [], .own [], .own []], .cells [.own [], .own [], .own []]],m)) (fun i=>0≤i∧i≤l.length∧hf dx l=hf dx (l.drop i.toNat)) (fun i=>l.length- i.toNat) (0) ⟨rfl,rfl⟩ ?_ ?_
 · try dsimp only
   exact ⟨by omega,by omega,rfl⟩
 rintro i ay
 refine az ?_
 refine br ?_
 refine ah (fun aa=>?_) (fun aa=>?_)
 · refine az ?_
   refine ck (by omega) ?_
   refine b2 (fun _=>S4 (I l i) (ag _ (cb ay.1 (by assumption)))) rfl ?_
   refine ah (fun ai=>?_) (fun ai=>?_)
   · have ai:dx (I l i)≠0:=by omega
     refine bh rfl fun _=>?_
     show K (.tuple [.agg [.slice false [], .slice false [], .slice false []], .int .i64 (dx (I l i))]) m
     have e:dW l=(dx (I l i)):=by
      have q:hf dx l=dx (I l i):=by rw [ay.2.2,qC ay.1 aa,if_neg ai]
      rw [pr,q,od,if_pos ai]
     rw [e] at fp;exact fp (by first|decide|assumption|omega)
   have ai:dx (I l i)=0:=by have:=Jl (I l i);omega
   refine ah (by omega) ?_
   refine ⟨(i+1),⟨rfl,rfl⟩,?_,?_⟩
   · try dsimp only
     exact ⟨by omega,by omega,by rw [ay.2.2,qC ay.1 aa,if_pos ai]⟩
   try dsimp only
   omega
 have rZ:hf dx l=0:=by rw [ay.2.2,List.drop_eq_nil_of_le (by omega)];rfl
 have hx:=qD.1 rZ
 refine az ?_
 refine b7 (σ:=Int) [] [0,2,4,7] 2 (fun i2=>([(0,an (l.map bB)),(2, .loc 0 0),(4, .loc 1 0),(7,aj i2)],[.cells [.own [], .own [], .own []], .cells [.own [], .own [], .own []]],m)) (fun i2=>0≤i2∧i2≤l.length∧((l.take i2.toNat).map a6.name).Nodup) (fun i2=>l.length- i2.toNat) (0) ⟨rfl,rfl⟩ ?_ ?_
 · try dsimp only
   exact ⟨by omega,by omega,by simp⟩
 rintro i2 a1
 refine az ?_
 refine br ?_
 refine ah (fun aJ=>?_) (fun aJ=>?_)
 · refine az ?_
   refine b7 (σ:=Int) [] [0,2,4,7,8] 2 (fun k=>([(0,an (l.map bB)),(2, .loc 0 0),(4, .loc 1 0),(7,aj i2),(8,aj k)],[.cells [.own [], .own [], .own []], .cells [.own [], .own [], .own []]],m)) (fun k=>0≤k∧k≤i2∧∀j:Int,0≤j→j<k→(I l i2).name≠(I l j).name) (fun k=>i2.toNat- k.toNat) (0) ⟨rfl,rfl⟩ ?_ ?_
   · try dsimp only
     exact ⟨by omega,by omega,fun j _ _=>by omega⟩
   rintro k cg
   refine az ?_
   refine ah (fun aY=>?_) (fun aY=>?_)
   · refine az ?_
     refine ck (by omega) ?_
     refine ck (by omega) ?_
     refine ah (fun bG=>?_) (fun bG=>?_)
     · refine bh rfl fun _=>?_
       show K (.tuple [.agg [.slice false [], .slice false [], .slice false []], .int .i64 6]) m
       have e:dW l=6:=by
        rw [pr,od,if_neg (not_not_intro rZ),if_pos (of_decide_eq_true (yH (f:=a6.name) cg.1 aY aJ bG))]
       rw [e] at fp;exact fp (by first|decide|assumption|omega)
     refine ah (by omega) ?_
     refine ⟨(k+1),⟨rfl,rfl⟩,?_,?_⟩
     · try dsimp only
       refine ⟨by omega,by omega,fun j aG aA=>?_⟩
       rcases Int.lt_or_le j k with q|q
       · exact cg.2.2 j aG q
       · obtain rfl:j=k:=by omega
         exact bG
     try dsimp only
     omega
   refine ah (by omega) ?_
   refine ⟨(i2+1),⟨rfl,rfl⟩,?_,?_⟩
   · try dsimp only
     exact ⟨by omega,by omega,yI (f:=a6.name) a1.1 aJ a1.2.2 fun j aG aA=>cg.2.2 j aG (by omega)⟩
   try dsimp only
   omega
 have tz:(l.map a6.name).Nodup:=by have:=a1.2.2;rwa [fm (by omega)] at this
 have CI:dW l=rY l (l.any iJ):=by rw [pr,od,if_neg (not_not_intro rZ),if_neg (not_not_intro tz)]
 refine az ?_
 refine b7 (σ:=Int) [] [0,2,4,9] 2 (fun i3=>([(0,an (l.map bB)),(2, .loc 0 0),(4, .loc 1 0),(9,aj i3)],[.cells [.own [], .own [], .own []], .cells [.own [], .own [], .own []]],m)) (fun i3=>0≤i3∧i3≤l.length∧dW l=rY l ((l.drop i3.toNat).any iJ)∧∀j:Int,0≤j→j<i3→iJ (I l j)=false) (fun i3=>l.length- i3.toNat) (0) ⟨rfl,rfl⟩ ?_ ?_
 · try dsimp only
   exact ⟨by omega,by omega,CI,fun j _ _=>by omega⟩
 rintro i3 cg
 refine az ?_
 refine br ?_
 refine ah (fun c7=>?_) (fun c7=>?_)
 · refine az ?_
   refine ck (by omega) ?_
   refine b2 (fun _=>S9 (I l i3)) rfl ?_
   refine ah (fun cV=>?_) (fun cV=>?_)
   · refine bh rfl fun _=>?_
     show K (.tuple [.agg [.slice false [], .slice false [], .slice false []], .int .i64 6]) m
     have e:dW l=6:=by
      rw [cg.2.2.1,yF cg.1 c7,cV];rfl
     rw [e] at fp;exact fp (by first|decide|assumption|omega)
   refine ah (by omega) ?_
   refine ⟨(i3+1),⟨rfl,rfl⟩,?_,?_⟩
   · try dsimp only
     refine ⟨by omega,by omega,by rw [cg.2.2.1,yF cg.1 c7,cV];rfl,fun j aG aA=>?_⟩
     rcases Int.lt_or_le j i3 with q|q
     · exact cg.2.2.2 j aG q
     · obtain rfl:j=i3:=by omega
       exact cV
   try dsimp only
   omega
 have CJ:dW l=pK l (hf (fun s=>gX s l) l):=by rw [cg.2.2.1,List.drop_eq_nil_of_le (by omega)];rfl
 have zE:∀s∈l,iJ s=false:=fun s al=>by
  obtain ⟨j,aA,rfl⟩:=List.getElem_of_mem al
  have:=cg.2.2.2 j (by omega) (by omega)
  rwa [Tg aA] at this
 refine az ?_
 refine b7 (σ:=(List (List Int))×(List (List Int))×Int) [] [0,2,4,11,12,13] 2 (fun ⟨bN,cG,i4⟩=>([(0,an (l.map bB)),(2, .loc 0 0),(4, .loc 1 0),(11, .own (bN.map (bj aE))),(12, .own (cG.map (bj aE))),(13,aj i4)],[.cells [.own [], .own [], .own []], .cells [.own [], .own [], .own []]],m)) (fun ⟨bN,cG,i4⟩=>0≤i4∧i4≤l.length∧dW l=pK l (hf (fun s=>gX s l) (l.drop i4.toNat))∧bN=(l.take i4.toNat).map (tQ l)∧cG=(l.take i4.toNat).map (tR l)) (fun ⟨bN,cG,i4⟩=>l.length- i4.toNat) ([],[],0) ⟨rfl,rfl⟩ ?_ ?_
 · try dsimp only
   exact ⟨by omega,by omega,CJ,rfl,rfl⟩
 rintro ⟨bN,cG,i4⟩ fh
 dsimp only at fh
 have S1:(bN.length:Int)=i4:=by rw [fh.2.2.2.1,List.length_map,List.length_take];omega
 have S2:(cG.length:Int)=i4:=by rw [fh.2.2.2.2,List.length_map,List.length_take];omega
 refine az ?_
 refine br ?_
 refine ah (fun cU=>?_) (fun cU=>?_)
 · have Jo:=oa (hx _ (cb fh.1 cU))
   obtain ⟨f1,f2⟩:=Jg Jo l
   have f3:=Jm Jo l
   refine az ?_
   refine b2 (fun _=>Tf l i4 fh.1 (by assumption) (oa (hx _ (cb fh.1 (by assumption)))) (by omega) (fun s al=>by have:=(oa (hx s al)).bw;omega) (Th (zE _ (cb fh.1 (by assumption)))) tz) rfl ?_
   refine az ?_
   refine ah (fun eH=>?_) (fun eH=>?_)
   · have wv:gX (I l i4) l≠0:=by rw [←f1];omega
     refine bh rfl fun _=>?_
     show K (.tuple [.agg [.slice false [], .slice false [], .slice false []], .int .i64 ((jV (I l i4) l).2.2)]) m
     have e:dW l=(jV (I l i4) l).2.2:=by
      rw [f1,fh.2.2.1,qC fh.1 cU,if_neg wv,pK,if_pos wv]
     rw [e] at fp;exact fp (by first|decide|assumption|omega)
   have wv:gX (I l i4) l=0:=by rw [←f1];omega
   obtain ⟨f4,f5⟩:=f2 wv
   refine ap (bj aE) bN ([(jV (I l i4) l).1]:List (List Int)) rfl rfl (fun _=>⟨rfl,rfl⟩) (by (simp only [List.length_append,List.length_cons,List.length_nil];omega)) ?_
   refine ap (bj aE) cG ([(jV (I l i4) l).2.1]:List (List Int)) rfl rfl (fun _=>⟨rfl,rfl⟩) (by (simp only [List.length_append,List.length_cons,List.length_nil];omega)) ?_
   refine ah (by omega) ?_
   refine ⟨(bN++([(jV (I l i4) l).1]:List (List Int)),cG++([(jV (I l i4) l).2.1]:List (List Int)),i4+1),⟨rfl,rfl⟩,?_,?_⟩
   · try dsimp only
     exact ⟨by omega,by omega,by rw [fh.2.2.1,qC fh.1 cU,if_pos wv],by rw [f4,yG _ fh.1 cU,←fh.2.2.2.1],by rw [f5,yG _ fh.1 cU,←fh.2.2.2.2]⟩
   try dsimp only
   omega
 have tr:dW l=(iI (jE l)).2:=by rw [fh.2.2.1,List.drop_eq_nil_of_le (by omega)];rfl
 have hi:bN=jE l:=by rw [fh.2.2.2.1,fm (by omega)];rfl
 have kj:cG=oc l:=by rw [fh.2.2.2.2,fm (by omega)];rfl
 have Jp:(iI (jE l)).2=(eL bN).2:=by rw [yM (wu l) (by rw [←hi];omega),hi]
 have CK:∀z∈bN,z.length≤1048576:=fun z ao=>by
  rw [hi] at ao
  obtain ⟨s,al,rfl⟩:=List.mem_map.1 ao
  have:=CH (l:=l) (oa (hx s al));omega
 refine b2 (fun _=>Ih bN (by rw [hi];exact wu l) (by omega) CK) rfl ?_
 refine az ?_
 refine ah (fun fF=>?_) (fun fF=>?_)
 · refine bh rfl fun _=>?_
   show K (.tuple [.agg [.slice false [], .slice false [], .slice false []], .int .i64 ((eL bN).2)]) m
   have e:dW l=(eL bN).2:=by
    rw [←Jp];exact tr
   rw [e] at fp;exact fp (by first|decide|assumption|omega)
 refine bh rfl fun _=>?_
 show K (.tuple [.agg [.slice false (l.map bB), .slice false (bN.map (bj aE)), .slice false (cG.map (bj aE))], .int .i64 0]) m
 have ao:dW l=0:=by rw [tr,Jp];have:=CO (wu l);rw [←hi] at this;omega
 subst hi
 subst kj
 exact ab ao
end Go.Proofs
end
section
namespace Go.Proofs
open Go Go.ba Go.bV
set_option maxRecDepth 100000
def yN:aD:=[115,116,97,99,107,32,97,32,111,117,116,112,117,116,32,120,32,61,32,49,32,115,116,97,99,107,32,98,32,111,117,116,112,117,116,32,121,32,61,32,115,116,97,99,107,46,97,46,120]
def lu:List Tok:=[(1,0,[115,116,97,99,107]),(1,6,[97]),(1,8,[111,117,116,112,117,116]),(1,15,[120]),(4,17,[61]),(2,19,[49]),(1,21,[115,116,97,99,107]),(1,27,[98]),(1,29,[111,117,116,112,117,116]),(1,36,[121]),(4,38,[61]),(1,40,[115,116,97,99,107]),(4,45,[46]),(1,46,[97]),(4,47,[46]),(1,48,[120])]
def wx:ax:= .mk 1 (.mk 1 1 [] [] []) [] [] [] []
def wy:ax:= .mk 4 eb [97] [120] [] []
def r1:a6:=⟨[97],[],[],[([120],wx)]⟩
def r2:a6:=⟨[98],[],[],[([121],wy)]⟩
theorem Jq:e1 yN=(lu,0,0):=by decide+kernel
theorem Ti:du lu 49 6 5= .ok wx 6:=by kernel_rfl
theorem Tj:du lu 49 6 11= .ok wy 16:=by kernel_rfl
theorem Jr:eS wx=0:=by
 have J:fV wx:= .inl ⟨rfl,rfl,rfl,⟨by decide,by decide+kernel⟩,rfl,rfl⟩
 rw [wg ⟨by decide+kernel,by decide+kernel⟩]
 refine yj ((pC wx).2 ⟨J,?_⟩)
 show hY [];simp only [hY]
theorem Js:eS wy=0:=by
 have J:fV wy:= .inr ⟨rfl, .inr (.inl ⟨.inr rfl,by decide+kernel,by decide+kernel,rfl,rfl⟩)⟩
 rw [wg ⟨by decide+kernel,by decide+kernel⟩]
 refine yj ((pC wy).2 ⟨J,?_⟩)
 show hY [];simp only [hY]
theorem mI {α β:Type} [Inhabited β] (x:α) (a:Int) (g:α→Int→bR β):(bR.ok x a).bind g=g x a:=by rw [bR.bind];exact if_pos rfl
theorem Jt {l:List Tok} {n a b:Int} {e:ax} (h:du l n 6 a= .ok e b) (aN:eS e=0):jB l n a= .ok e b:=by
 rw [jB,h,mI,if_pos aN]
theorem Tk:l3 lu 49 0= .ok r1 6:=by
 rw [l3,show cK lu 49 1 [115,116,97,99,107] 0= .ok [115,116,97,99,107] 1 from by kernel_rfl,mI,show cK lu 49 1 [] 1= .ok [97] 2 from by kernel_rfl,mI,Cx (Nat.succ_pos _) (by kernel_rfl)]
 try dsimp only
 rw [Cy (Nat.succ_pos _) (by kernel_rfl)]
 try dsimp only
 rw [Cz (Nat.succ_pos _) (by kernel_rfl),if_neg (by decide),yA,show cK lu 49 1 [] (2+1)= .ok [120] 4 from by kernel_rfl,mI,show cK lu 49 4 [61] 4= .ok [61] 5 from by kernel_rfl,mI,Jt Ti Jr,mI,CA (by decide) (by kernel_rfl)]
 rfl
theorem Tl:l3 lu 49 6= .ok r2 16:=by
 rw [l3,show cK lu 49 1 [115,116,97,99,107] 6= .ok [115,116,97,99,107] 7 from by kernel_rfl,mI,show cK lu 49 1 [] 7= .ok [98] 8 from by kernel_rfl,mI,Cx (Nat.succ_pos _) (by kernel_rfl)]
 try dsimp only
 rw [Cy (Nat.succ_pos _) (by kernel_rfl)]
 try dsimp only
 rw [Cz (Nat.succ_pos _) (by kernel_rfl),if_neg (by decide),yA,show cK lu 49 1 [] (8+1)= .ok [121] 10 from by kernel_rfl,mI,show cK lu 49 4 [61] 10= .ok [61] 11 from by kernel_rfl,mI,Jt Tj Js,mI,CA (by decide) (by kernel_rfl)]
 rfl
theorem Tm:l4 yN=([r1,r2],0,0):=by
 have h:tM yN= .ok [r1,r2] 16:=by
  rw [tM,Jq]
  show kz lu 49 (lu.length+1) 0 []=_
  rw [yD (Nat.succ_pos _) (by decide),if_neg (by decide),Tk,mI,yD (by decide) (by decide),if_neg (by decide),Tl,mI,IH (by decide) (by decide)]
  rfl
 rw [l4,Jq,if_pos rfl,h]
 exact if_pos rfl
theorem Ju {l:List a6}:dW l=0↔(l.length:Int)≤8∧(∀s∈l,dx s=0)∧(l.map a6.name).Nodup∧l.any iJ=false∧(∀s∈l,gX s l=0)∧(iI (jE l)).2=0:=by
 unfold dW
 by_cases jd:8<(l.length:Int)
 · rw [if_pos jd];constructor
   · intro h;cases h
   · intro h;omega
 rw [if_neg jd]
 unfold od
 by_cases c2:hf dx l=0
 · rw [if_neg (not_not_intro c2)]
   have a2:=qD.1 c2
   by_cases c3:(l.map a6.name).Nodup
   · rw [if_neg (not_not_intro c3)]
     unfold rY
     cases c4:l.any iJ
     · rw [if_neg (by decide)]
       unfold pK
       by_cases c5:hf (fun s=>gX s l) l=0
       · rw [if_neg (not_not_intro c5)]
         exact ⟨fun h=>⟨by omega,a2,c3,rfl,qD.1 c5,h⟩,fun h=>h.2.2.2.2.2⟩
       · rw [if_pos c5]
         exact ⟨fun h=>absurd h c5,fun h=>absurd (qD.2 h.2.2.2.2.1) c5⟩
     · rw [if_pos rfl]
       exact ⟨fun h=>absurd h (by decide),fun h=>absurd h.2.2.2.1 (by decide)⟩
   · rw [if_pos c3]
     exact ⟨fun h=>absurd h (by decide),fun h=>absurd h.2.2.1 c3⟩
 · rw [if_pos c2]
   exact ⟨fun h=>absurd h c2,fun h=>absurd (qD.2 h.2.1) c2⟩
theorem Jv {s:a6} {p:aD×ax} (aI:cr s.name=true) (ad:s.ins=[]) (au:s.res=[]) (aL:s.outs=[p]) (J:cr p.1=true) (aa:eS p.2=0):dx s=0:=by
 rw [dx,ad,au,aL,if_neg (by rw [aI];decide),if_neg (by simp)]
 rw [qz,nz,if_neg (by decide),qy,au,mH,if_neg (by decide),aL,l2,if_pos J,if_pos aa,l2]
theorem Tn:dW [r1,r2]=0:=by
 refine Ju.2 ⟨by decide,fun s al=>?_,by decide,by decide,fun s al=>?_,by decide+kernel⟩
 · simp only [List.mem_cons,List.not_mem_nil,or_false] at al
   rcases al with rfl|rfl
   · exact Jv (by decide+kernel) rfl rfl rfl (by decide+kernel) Jr
   · exact Jv (by decide+kernel) rfl rfl rfl (by decide+kernel) Js
 · simp only [List.mem_cons,List.not_mem_nil,or_false] at al
   rcases al with rfl|rfl<;>decide+kernel
theorem To:jE [r1,r2]=[[],[0]]:=by decide+kernel
end Go.Proofs
end
section
namespace Go.Proofs
open Go Go.ba Go.bV
set_option maxRecDepth 100000
set_option maxHeartbeats 1000000 in
theorem Jw (m:ae) (K:U→ae→Prop) (aV:eF m) (ab:K (.bool true) m):bg Tryz.prog 20 [] m K:=by
 refine enter (c:=kt [] [] [] [] [] []) (vs:=[]) (L:=[]) (m:=m) false fS Tryz.mixed Tryz.func20 rfl (k:=0) (by show cu [] _ _ _=true;decide+kernel) rfl (Good.nil m) ?_
 refine xN [] [] (.aH (.tuple [.slice false (([r1,r2]:List a6).map bB), .int .i64 0, .err 115 0])) rfl (fun bs aF gd aB=>fun K ab=>SL yN (by decide) aF (eF.up aB aV) K (by rw [Tm];exact ab)) ?_
 refine az ?_
 refine ah (fun J=>?_) (fun J=>?_)
 · refine b2 (fun _=>fun m K ab=>CL [r1,r2] m K (fun h=>absurd Tn h) (fun _=>by rw [To];exact ab)) rfl ?_
   refine b2 (fun _=>BP 0 0 (by decide)) rfl ?_
   refine ah (fun aa=>?_) (fun aa=>?_)
   · refine br ?_
     refine ah (fun ai=>?_) (fun ai=>?_)
     · refine ck (by omega) ?_
       refine b2 (fun _=>Ic (I ([[],[0]]:List (List Int)) 1) ([0]:List Int) (by decide)) rfl ?_
       exact bh rfl fun _=>ab
     refine bh rfl fun _=>?_
     show K (.bool false) m
     exact absurd ai (by decide)
   refine bh rfl fun _=>?_
   show K (.bool false) m
   exact absurd aa (by decide)
 exact absurd J (by decide)
theorem Tp (l:List a6):0≤dW l:=by
 have f1:∀l:List a6,0≤hf dx l:=fun l=>by
  induction l with
  |nil=>exact Int.le_refl _
  |cons a r aQ=>rw [hf];split;(· exact aQ);(· exact Jl _)
 by_cases cV:8<(l.length:Int)
 · rw [dW,if_pos cV];decide
 rw [dW,if_neg cV,od]
 by_cases J:hf dx l=0
 · rw [if_neg (not_not_intro J)]
   have hx:=qD.1 J
   by_cases aa:(l.map a6.name).Nodup
   · rw [if_neg (not_not_intro aa),rY]
     split
     · decide
     · rw [pK]
       split
       · have f2:∀r:List a6,(∀s∈r,s∈l)→0≤hf (fun s=>gX s l) r:=fun r=>by
          induction r with
          |nil=>intro _;exact Int.le_refl _
          |cons a r aQ=>
           intro h
           rw [hf]
           split
           · exact aQ fun s al=>h s (List.mem_cons_of_mem _ al)
           · have al:=oa (hx a (h a (List.mem_cons_self ..)))
             have:=Jm al l
             rw [(Jg al l).1] at this;exact this
         exact f2 l fun _ h=>h
       · rw [yM (wu l) (by simp only [jE,List.length_map];omega)]
         exact CO (wu l)
   · rw [if_pos aa];decide
 · rw [if_pos J];exact f1 l
set_option maxHeartbeats 4000000 in
theorem Tq (l:List a6) (ag:∀s∈l,tS s) (fp:dW l≠0) (m:ae) (K:U→ae→Prop) (aV:eF m) (ab:K (.bool true) m):bg Tryz.prog 4 [.slice false (l.map bB)] m K:=by
 refine enter (c:=kt [] [] [6] [] [] []) (vs:=[.aH (.slice false (l.map bB))]) (L:=[]) (m:=m) false fS Tryz.mixed Tryz.func4 rfl (k:=1) (by show cu [] _ _ _=true;decide+kernel) rfl (Good.nil m) ?_
 refine xN [] [] (eY true) rfl (fun bs aF gd aB=>fun K ab=>Jw aF K (eF.up aB aV) ab) ?_
 refine az ?_
 refine ah (fun J=>?_) (fun J=>?_)
 · refine cF 115 [] (σ:=Bool) (fun og=>og=true→(l.length:Int)≤12) (fun og=>eY og) (fun og=>[]) rfl (fun _=>rfl) (fun bs aF gd aB K ab=>I9 l aF K (fun b ag=>ab b ag)) ?_
   rintro og bU
   refine ah (fun aa=>?_) (fun aa=>?_)
   · refine b2 (fun _=>fun m K ab=>CL l m K (fun _=>ab) (fun h=>absurd h fp)) rfl ?_
     refine b2 (fun _=>fun m K ab=>Jn l ag m K (fun _=>ab) (fun h=>absurd h fp)) rfl ?_
     refine cq [] 2 ((((dW l):Int)==(dW l))&&true) ?_ ?_
     · repeat' first
        |exact ⟨⟨_,rfl,by grind [bD.val]⟩,rfl⟩
        |refine ah (fun _=>?_) (fun _=>?_)
        |refine b2 (fun _=>BP (dW l) (dW l) (Tp l)) rfl ?_
        |refine b2 (fun _=>Ja [] [] [] (fun _ h=>by cases h) (by decide) (fun _ h=>by cases h) (by decide) (fun _ h=>by cases h)) rfl ?_
     refine bh rfl fun _=>?_
     show K (.bool ((((dW l):Int)==(dW l))&&true)) m
     have q:(((dW l:Int)==dW l)&&true)=true:=by simp
     rw [q];exact ab
   exact bh rfl fun _=>ab
 exact bh rfl fun _=>ab
set_option maxHeartbeats 4000000 in
theorem Tr (l:List a6) (ag:∀s∈l,tS s) (fp:dW l=0) (m:ae) (K:U→ae→Prop) (aV:eF m) (ab:K (.bool true) m):bg Tryz.prog 4 [.slice false (l.map bB)] m K:=by
 obtain ⟨Vv,gm,gi,_,_,gH⟩:=Ju.1 fp
 have w0:∀s∈l,∀x∈s.res,x.parts.length≤1000000:=fun s al x aq=>by have:=((oa (gm s al)).r x aq).1;omega
 have Ts:∀w∈jE l,w.length≤100000:=fun w hw=>by
  obtain ⟨s,al,rfl⟩:=List.mem_map.1 hw
  have:=CH (l:=l) (oa (gm s al));omega
 have Tt:∀w∈oc l,w.length≤100000:=fun w hw=>by
  obtain ⟨s,al,rfl⟩:=List.mem_map.1 hw
  have aT:=oa (gm s al)
  have aO:=tO aT l
  have au:=aT.rX
  rw [tR,yM (yL aT l) (by have:=aO.l;omega)]
  have J:=yq (ev s l (eo s)).aW
  have aa:=Cm J.2
  have ai:=aO.l
  have aJ:(eL (ev s l (eo s)).aW).1.length*(ev s l (eo s)).aW.length≤9*8:=Nat.mul_le_mul (by omega) (by omega)
  show (eL (ev s l (eo s)).aW).1.flatten.length≤100000
  omega
 refine enter (c:=kt [] [] [6] [] [] []) (vs:=[.aH (.slice false (l.map bB))]) (L:=[]) (m:=m) false fS Tryz.mixed Tryz.func4 rfl (k:=1) (by show cu [] _ _ _=true;decide+kernel) rfl (Good.nil m) ?_
 refine xN [] [] (eY true) rfl (fun bs aF gd aB=>fun K ab=>Jw aF K (eF.up aB aV) ab) ?_
 refine az ?_
 refine ah (fun J=>?_) (fun J=>?_)
 · refine cF 115 [] (σ:=Bool) (fun og=>og=true→(l.length:Int)≤12) (fun og=>eY og) (fun og=>[]) rfl (fun _=>rfl) (fun bs aF gd aB K ab=>I9 l aF K (fun b ag=>ab b ag)) ?_
   rintro og bU
   refine ah (fun aa=>?_) (fun aa=>?_)
   · refine b2 (fun _=>fun m K ab=>CL l m K (fun h=>absurd fp h) (fun _=>ab)) rfl ?_
     refine b2 (fun _=>fun m K ab=>Jn l ag m K (fun h=>absurd fp h) (fun _=>ab)) rfl ?_
     refine cq [] 2 (((0:Int)==0)&&true) ?_ ?_
     · repeat' first
        |exact ⟨⟨_,rfl,by grind [bD.val]⟩,rfl⟩
        |refine ah (fun _=>?_) (fun _=>?_)
        |refine b2 (fun _=>BP 0 0 (by decide)) rfl ?_
        |refine b2 (fun _=>Ja l (jE l) (oc l) w0 (by simp only [jE,List.length_map];omega) Ts (by simp only [oc,List.length_map];omega) Tt) rfl ?_
     exact bh rfl fun _=>ab
   exact bh rfl fun _=>ab
 exact bh rfl fun _=>ab
theorem Tu (l:List a6) (ag:∀s∈l,tS s) (m:ae) (K:U→ae→Prop) (aV:eF m) (ab:K (.bool true) m):bg Tryz.prog 4 [.slice false (l.map bB)] m K:=
 if fp:dW l=0 then Tr l ag fp m K aV ab else Tq l ag fp m K aV ab
end Go.Proofs
end
section
namespace Go.ba
open Go Go.RowKit Go.WideShapes Go.ChangeShapes
end Go.ba
namespace Go.Proofs
open Go Go.ba Go.RowKit Go.WideShapes Go.ChangeShapes
set_option maxRecDepth 100000
theorem yO (v:a7):(cj v).cells.length=5:=by cases v;rfl
theorem yP (v:aD×a7):(ct v).cells.length=6:=by
 obtain ⟨s,v⟩:=v
 cases v;rfl
section
variable {bk:{H:Type}→DataW H→Nat} {bkA:{H:Type}→List (DataW H)→Nat}
theorem Tv (l:List a7):(l.map bP).sum=ld l:=by
 induction l with
 |nil=>rfl
 |cons v r aQ=>rw [List.map_cons,List.sum_cons,aQ];rfl
theorem Tw (l:List (aD×a7)):(l.map fun p=>bP p.2).sum=lM l:=by
 induction l with
 |nil=>rfl
 |cons p r aQ=>
  obtain ⟨s,v⟩:=p
  cases v with
  |mk k n t l f=>rw [List.map_cons,List.sum_cons,aQ];rfl
theorem Tx {n:Nat} (cd:kl bk bkA) (aQ:∀k,k<n→km bk Tryz.prog k 25 cj bP):km bk Tryz.prog n 168 ct (fun p=>bP p.2):=by
 intro H enc W sp cs d ps h hw
 obtain ⟨av,p,aU,aN⟩:=p4 cd Tryz.underlying168 h hw
 obtain ⟨s,_,_,_,_,al⟩:=aN 0 _ cS (fun _=>0) rfl (fun _ _=>(nO (by rfl)).toB) (by decide)
 obtain ⟨v,Jx,J,aa,_,bn⟩:=aN 1 _ cj bP rfl (fun k ak=>aQ k ak) (by decide)
 have ai:=cd.at J
 refine ⟨(s,v),by simp only;omega,by rw [yP,av];rfl,fun i ad=>?_⟩
 rw [av] at ad
 replace ad:i<6:=ad
 cases v with
 |mk k n t l f=>
  match i,ad with
  |0,_=>exact al 0 (by decide)
  |1,_=>exact bn 0 (by decide)
  |2,_=>exact bn 1 (by decide)
  |3,_=>exact bn 2 (by decide)
  |4,_=>exact bn 3 (by decide)
  |5,_=>exact bn 4 (by decide)
theorem Jy (cd:kl bk bkA) (n:Nat):km bk Tryz.prog n 25 cj bP:=by
 induction n using Nat.strongRecOn with
 |ind n aQ=>
  intro H enc W sp cs d ps h hw
  obtain ⟨av,p,aU,aN⟩:=p4 cd Tryz.underlying25 h hw
  obtain ⟨k,_,_,_,_,ak⟩:=aN 0 _ aE (fun _=>0) rfl (fun _ _=>(z7 (by rfl)).toB) (by decide)
  obtain ⟨m,_,_,_,_,hm⟩:=aN 1 _ aE (fun _=>0) rfl (fun _ _=>(z7 (by rfl)).toB) (by decide)
  obtain ⟨s,_,_,_,_,al⟩:=aN 2 _ cS (fun _=>0) rfl (fun _ _=>(nO (by rfl)).toB) (by decide)
  obtain ⟨l,dl,hg,gR,_,Ty⟩:=aN 3 _ (bj cj) _ rfl (fun j aA=>pe cd (by rfl) (by rfl) (by decide) (by decide) yO (fun i ad=>aQ i (by omega))) (by decide)
  obtain ⟨f,Jz,f1,f2,_,Tz⟩:=aN 4 _ (bj ct) _ rfl (fun j aA=>pe cd (by rfl) (by rfl) (by decide) (by decide) yP (fun i ad=>Tx cd (fun q aO=>aQ q (by omega)))) (by decide)
  have ai:=cd.two (by decide) hg f1
  replace gR:(l.map bP).sum≤bk dl:=gR
  replace f2:(f.map fun p=>bP p.2).sum≤bk Jz:=f2
  rw [Tv] at gR
  rw [Tw] at f2
  replace ai:bk dl+bk Jz≤bkA p:=ai
  have aJ:ld l+lM f+1≤bk d:=by omega
  refine ⟨.mk k m s l f,by rw [bP];exact aJ,by rw [yO,av];rfl,fun i ad=>?_⟩
  rw [av] at ad
  replace ad:i<5:=ad
  rw [ik]
  match i,ad with
  |0,_=>exact ak 0 (by decide)
  |1,_=>exact hm 0 (by decide)
  |2,_=>exact al 0 (by decide)
  |3,_=>exact Ty 0 (by decide)
  |4,_=>exact Tz 0 (by decide)
theorem CP (cd:kl bk bkA) {H:Type}:∀{p:List (DataW H)} {i j k:Nat} {d jO d2:DataW H},i<j→j<k→p[i]?=some d→p[j]?=some jO→p[k]?=some d2→bk d+bk jO+bk d2≤bkA p
 |a::p,0,j+1,k+1,d,jO,d2,_,JA,h,cp,aa=>by
  simp only [List.getElem?_cons_zero,Option.some.injEq,List.getElem?_cons_succ] at h cp aa
  subst h
  have:=cd.two (by omega) cp aa
  rw [cd.cons];omega
 |a::p,i+1,j+1,k+1,d,jO,d2,lG,JA,h,cp,aa=>by
  simp only [List.getElem?_cons_succ] at h cp aa
  have:=CP cd (by omega) (by omega) h cp aa
  rw [cd.cons];omega
 |a::p,i,0,k,d,jO,d2,lG,_,_,_,_=>by omega
 |a::p,i,j+1,0,d,jO,d2,_,JA,_,_,_=>by omega
 |[],i,j,k,d,jO,d2,_,_,h,_,_=>by simp at h
theorem _root_.Go.ba.Rd.toB1 {P:Program} {fuel:Nat} {t:TypeId} {α:Type} {f:α→U} (J:∀{H:Type} (d:DataW H),1≤bk d) (h:Rd P fuel t f):km bk P fuel t f (fun _=>1):=by
 intro H enc W sp cs d ps aa ai
 obtain ⟨x,aJ,aY⟩:=h H enc W sp cs d ps aa ai
 exact ⟨x,J d,aJ,aY⟩
theorem TA (l:List ax):(l.map dG).sum=gv l:=by
 induction l with
 |nil=>rfl
 |cons v r aQ=>rw [List.map_cons,List.sum_cons,aQ];rfl
theorem TB (l:List aD):(l.map fun _=>1).sum=l.length:=by
 induction l with
 |nil=>rfl
 |cons v r aQ=>rw [List.map_cons,List.sum_cons,aQ,List.length_cons];omega
theorem CQ (e:ax):(cx e).cells.length=10:=by cases e;rfl
theorem JB (cd:kl bk bkA) (J:∀{H:Type} (d:DataW H),1≤bk d) (n:Nat):km bk Tryz.prog n 29 cx dG:=by
 induction n using Nat.strongRecOn with
 |ind n aQ=>
  intro H enc W sp cs d ps h hw
  obtain ⟨av,p,aU,aN⟩:=p4 cd Tryz.underlying29 h hw
  obtain ⟨k,_,_,_,_,ak⟩:=aN 0 _ aE (fun _=>0) rfl (fun _ _=>(z7 (by rfl)).toB) (by decide)
  obtain ⟨v,Jx,v1,v2,_,bn⟩:=aN 1 _ cj bP rfl (fun j _=>Jy cd j) (by decide)
  obtain ⟨s,_,_,_,_,al⟩:=aN 2 _ cS (fun _=>0) rfl (fun _ _=>(nO (by rfl)).toB) (by decide)
  obtain ⟨t,_,_,_,_,aB⟩:=aN 3 _ cS (fun _=>0) rfl (fun _ _=>(nO (by rfl)).toB) (by decide)
  obtain ⟨a,JC,cn,a2,_,aX⟩:=aN 4 _ (bj cx) _ rfl (fun j aA=>pe cd (by rfl) (by rfl) (by decide) (by decide) CQ (fun i ad=>aQ i (by omega))) (by decide)
  obtain ⟨m,JD,m1,m2,_,hm⟩:=aN 5 _ (bj cS) _ rfl (fun j aA=>pe cd (by rfl) (by rfl) (by decide) (by decide) (fun _=>rfl) (fun i ad=>(nO (by rfl)).toB1 J)) (by decide)
  have ai:=CP cd (by decide) (by decide) v1 cn m1
  replace a2:(a.map dG).sum≤bk JC:=a2
  replace m2:(m.map fun _=>1).sum≤bk JD:=m2
  rw [TA] at a2
  rw [TB] at m2
  replace ai:bk Jx+bk JC+bk JD≤bkA p:=ai
  have aJ:bP v+m.length+gv a+1≤bk d:=by omega
  refine ⟨.mk k v s t a m,by rw [dG];exact aJ,by rw [CQ,av];rfl,fun i ad=>?_⟩
  rw [av] at ad
  replace ad:i<10:=ad
  rw [e9]
  simp only [ik] at bn
  match i,ad with
  |0,_=>exact ak 0 (by decide)
  |1,_=>exact bn 0 (by decide)
  |2,_=>exact bn 1 (by decide)
  |3,_=>exact bn 2 (by decide)
  |4,_=>exact bn 3 (by decide)
  |5,_=>exact bn 4 (by decide)
  |6,_=>exact al 0 (by decide)
  |7,_=>exact aB 0 (by decide)
  |8,_=>exact aX 0 (by decide)
  |9,_=>exact hm 0 (by decide)
theorem wz {α:Type} (z:α→Nat) {l:List α} {a:α} (h:a∈l):z a≤(l.map z).sum:=by
 induction l with
 |nil=>cases h
 |cons b r aQ=>
  rw [List.map_cons,List.sum_cons]
  rcases List.mem_cons.1 h with rfl|h
  · omega
  · have:=aQ h;omega
end
theorem CR:∀(n:Nat) (v:a7),bP v<n→ho (cj v)
 |0,_,h=>absurd h (Nat.not_lt_zero _)
 |n+1,v,h=>by
  have e:=iC v
  rw [ik,cZ]
  have av:∀w∈v.l,ho (cj w):=fun w hw=>CR n w (by have:=iQ hw;omega)
  have aN:∀p∈v.f,ho (ct p):=fun p aU=>by
   have aa:=CR n p.2 (by have:=iR aU;omega)
   rw [ik,cZ] at aa
   cases aa with
   |agg _ ai=>
    rw [iB,iO]
    refine .agg _ fun y aK=>?_
    rcases List.mem_cons.1 aK with rfl|aK
    · exact .str _
    · exact ai y aK
  refine .agg _ fun y aK=>?_
  simp only [List.mem_cons,List.not_mem_nil,or_false] at aK
  rcases aK with rfl|rfl|rfl|rfl|rfl
  · exact .int _ _ (by decide)
  · exact .int _ _ (by decide)
  · exact .str _
  · refine .slice _ (fun x aq=>?_) fun x aq y aK=>?_
    · obtain ⟨w,_,rfl⟩:=List.mem_map.1 aq
      exact fun e=>by have:=yO w;rw [e] at this;cases this
    · obtain ⟨w,hw,rfl⟩:=List.mem_map.1 aq
      have aa:=av w hw
      rw [ik,cZ] at aa
      rw [ik,cZ] at aK
      cases aa with
      |agg _ ai=>exact ai y aK
  · refine .slice _ (fun x aq=>?_) fun x aq y aK=>?_
    · obtain ⟨p,_,rfl⟩:=List.mem_map.1 aq
      exact fun e=>by have:=yP p;rw [e] at this;cases this
    · obtain ⟨p,aU,rfl⟩:=List.mem_map.1 aq
      have aa:=aN p aU
      rw [iB,iO] at aa
      rw [iB,iO] at aK
      cases aa with
      |agg _ ai=>exact ai y aK
theorem CS (v:a7):ho (cj v):=CR _ v (Nat.lt_succ_self _)
theorem TC (p:aD×a7):ho (ct p):=by
 have aa:=CS p.2
 rw [ik,cZ] at aa
 cases aa with
 |agg _ ai=>
  rw [iB,iO]
  refine .agg _ fun y aK=>?_
  rcases List.mem_cons.1 aK with rfl|aK
  · exact .str _
  · exact ai y aK
theorem TD (l:List (aD×a7)):ho (bj ct l):=by
 refine .slice _ (fun x aq=>?_) fun x aq y aK=>?_
 · obtain ⟨p,_,rfl⟩:=List.mem_map.1 aq
   exact fun e=>by have:=yP p;rw [e] at this;cases this
 · obtain ⟨p,aU,rfl⟩:=List.mem_map.1 aq
   have aa:=TC p
   rw [iB,iO] at aa
   rw [iB,iO] at aK
   cases aa with
   |agg _ ai=>exact ai y aK
theorem TE (l:List aD):ho (.slice false (l.map cS)):=by
 refine .slice _ (fun x aq=>?_) fun x aq y aK=>?_
 · obtain ⟨s,_,rfl⟩:=List.mem_map.1 aq
   exact List.cons_ne_nil _ _
 · obtain ⟨s,_,rfl⟩:=List.mem_map.1 aq
   rw [List.mem_singleton.1 (show y∈[U.str s] from aK)];exact .str _
theorem TF (l:List a7):ho (.slice false (l.map cj)):=by
 refine .slice _ (fun x aq=>?_) fun x aq y aK=>?_
 · obtain ⟨w,_,rfl⟩:=List.mem_map.1 aq
   exact fun e=>by have:=yO w;rw [e] at this;cases this
 · obtain ⟨w,hw,rfl⟩:=List.mem_map.1 aq
   have aa:=CS w
   rw [ik,cZ] at aa
   rw [ik,cZ] at aK
   cases aa with
   |agg _ ai=>exact ai y aK
theorem JE:∀(n:Nat) (e:ax),eg e<n→ho (cx e)
 |0,_,h=>absurd h (Nat.not_lt_zero _)
 |n+1,e,h=>by
  rw [e9,cy]
  have av:∀x∈e.a,ho (cx x):=fun x aq=>JE n x (by have:=ns aq;omega)
  refine .agg _ fun y aK=>?_
  simp only [List.mem_cons,List.not_mem_nil,or_false] at aK
  rcases aK with rfl|rfl|rfl|rfl|rfl|rfl|rfl|rfl|rfl|rfl
  · exact .int _ _ (by decide)
  · exact .int _ _ (by decide)
  · exact .int _ _ (by decide)
  · exact .str _
  · exact TF _
  · exact TD _
  · exact .str _
  · exact .str _
  · refine .slice _ (fun x aq=>?_) fun x aq y aK=>?_
    · obtain ⟨w,_,rfl⟩:=List.mem_map.1 aq
      exact fun q=>by have:=CQ w;rw [q] at this;cases this
    · obtain ⟨w,hw,rfl⟩:=List.mem_map.1 aq
      have aa:=av w hw
      rw [e9,cy] at aa
      rw [e9,cy] at aK
      cases aa with
      |agg _ ai=>exact ai y aK
  · exact TE _
theorem TG (e:ax):ho (cx e):=JE _ e (Nat.lt_succ_self _)
end Go.Proofs
end
section
namespace Go.Proofs
open Go Go.ba Go.RowKit Go.WideShapes Go.ChangeShapes
set_option maxRecDepth 100000
section
variable {bk:{H:Type}→DataW H→Nat} {bkA:{H:Type}→List (DataW H)→Nat}
def r3 (x:cz):Nat:=(x.parts.map fun p=>dG p.2).sum
def tU (s:a6):Nat:=(s.ins.map fun p=>bP p.2).sum+(s.res.map r3).sum+(s.outs.map fun p=>dG p.2).sum
theorem TH (cd:kl bk bkA) (J:∀{H:Type} (d:DataW H),1≤bk d) (n:Nat):km bk Tryz.prog n 138 bM (fun p=>bP p.2):=by
 intro H enc W sp cs d ps h hw
 obtain ⟨av,p,aU,aN⟩:=p4 cd Tryz.underlying138 h hw
 obtain ⟨s,d0,a0,b0,_,pN⟩:=aN 0 _ cS (fun _=>0) rfl (fun j _=>(nO (by rfl)).toB) (by decide)
 obtain ⟨v,d1,cn,ia,_,gy⟩:=aN 1 _ cj bP rfl (fun j _=>Jy cd j) (by decide)
 simp only [ik] at gy
 have ai:=cd.at cn
 have aJ:bP v≤bk d:=by omega
 refine ⟨(s,v),aJ,av.symm,fun i ad=>?_⟩
 rw [av] at ad
 replace ad:i<6:=ad
 match i,ad with
 |0,_=>exact pN 0 (by decide)
 |1,_=>exact gy 0 (by decide)
 |2,_=>exact gy 1 (by decide)
 |3,_=>exact gy 2 (by decide)
 |4,_=>exact gy 3 (by decide)
 |5,_=>exact gy 4 (by decide)
theorem TI (cd:kl bk bkA) (J:∀{H:Type} (d:DataW H),1≤bk d) (n:Nat):km bk Tryz.prog n 144 bz (fun p=>dG p.2):=by
 intro H enc W sp cs d ps h hw
 obtain ⟨av,p,aU,aN⟩:=p4 cd Tryz.underlying144 h hw
 obtain ⟨s,d0,a0,b0,_,pN⟩:=aN 0 _ cS (fun _=>0) rfl (fun j _=>(nO (by rfl)).toB) (by decide)
 obtain ⟨e,d1,cn,ia,_,gy⟩:=aN 1 _ cx dG rfl (fun j _=>JB cd J j) (by decide)
 simp only [e9] at gy
 have ai:=cd.at cn
 have aJ:dG e≤bk d:=by omega
 refine ⟨(s,e),aJ,av.symm,fun i ad=>?_⟩
 rw [av] at ad
 replace ad:i<11:=ad
 match i,ad with
 |0,_=>exact pN 0 (by decide)
 |1,_=>exact gy 0 (by decide)
 |2,_=>exact gy 1 (by decide)
 |3,_=>exact gy 2 (by decide)
 |4,_=>exact gy 3 (by decide)
 |5,_=>exact gy 4 (by decide)
 |6,_=>exact gy 5 (by decide)
 |7,_=>exact gy 6 (by decide)
 |8,_=>exact gy 7 (by decide)
 |9,_=>exact gy 8 (by decide)
 |10,_=>exact gy 9 (by decide)
theorem TJ (cd:kl bk bkA) (J:∀{H:Type} (d:DataW H),1≤bk d) (n:Nat):km bk Tryz.prog n 145 bz (fun p=>dG p.2):=by
 intro H enc W sp cs d ps h hw
 obtain ⟨av,p,aU,aN⟩:=p4 cd Tryz.underlying145 h hw
 obtain ⟨s,d0,a0,b0,_,pN⟩:=aN 0 _ cS (fun _=>0) rfl (fun j _=>(nO (by rfl)).toB) (by decide)
 obtain ⟨e,d1,cn,ia,_,gy⟩:=aN 1 _ cx dG rfl (fun j _=>JB cd J j) (by decide)
 simp only [e9] at gy
 have ai:=cd.at cn
 have aJ:dG e≤bk d:=by omega
 refine ⟨(s,e),aJ,av.symm,fun i ad=>?_⟩
 rw [av] at ad
 replace ad:i<11:=ad
 match i,ad with
 |0,_=>exact pN 0 (by decide)
 |1,_=>exact gy 0 (by decide)
 |2,_=>exact gy 1 (by decide)
 |3,_=>exact gy 2 (by decide)
 |4,_=>exact gy 3 (by decide)
 |5,_=>exact gy 4 (by decide)
 |6,_=>exact gy 5 (by decide)
 |7,_=>exact gy 6 (by decide)
 |8,_=>exact gy 7 (by decide)
 |9,_=>exact gy 8 (by decide)
 |10,_=>exact gy 9 (by decide)
theorem TK (cd:kl bk bkA) (J:∀{H:Type} (d:DataW H),1≤bk d) (n:Nat):km bk Tryz.prog n 142 bK r3:=by
 intro H enc W sp cs d ps h hw
 obtain ⟨av,p,aU,aN⟩:=p4 cd Tryz.underlying142 h hw
 obtain ⟨k,d0,a0,b0,_,pN⟩:=aN 0 _ cS (fun _=>0) rfl (fun j _=>(nO (by rfl)).toB) (by decide)
 obtain ⟨s,d1,cn,ia,_,gy⟩:=aN 1 _ cS (fun _=>0) rfl (fun j _=>(nO (by rfl)).toB) (by decide)
 obtain ⟨q,d2,a2,jX,_,CT⟩:=aN 2 _ (bj bz) _ rfl (fun j _=>pe cd (by rfl) (by rfl) (by decide) (by decide) (fun _=>rfl) (fun i ad=>TI cd J i)) (by decide)
 have ai:=cd.at a2
 replace jX:(q.map fun p=>dG p.2).sum≤bk d2:=jX
 have aJ:r3 ⟨k,s,q⟩≤bk d:=by
  show (q.map fun p=>dG p.2).sum≤_;omega
 refine ⟨⟨k,s,q⟩,aJ,av.symm,fun i ad=>?_⟩
 rw [av] at ad
 replace ad:i<3:=ad
 match i,ad with
 |0,_=>exact pN 0 (by decide)
 |1,_=>exact gy 0 (by decide)
 |2,_=>exact CT 0 (by decide)
theorem TL (cd:kl bk bkA) (J:∀{H:Type} (d:DataW H),1≤bk d) (n:Nat):km bk Tryz.prog n 62 bB tU:=by
 intro H enc W sp cs d ps h hw
 obtain ⟨av,p,aU,aN⟩:=p4 cd Tryz.underlying62 h hw
 obtain ⟨s,d0,a0,b0,_,pN⟩:=aN 0 _ cS (fun _=>0) rfl (fun j _=>(nO (by rfl)).toB) (by decide)
 obtain ⟨x,d1,cn,ia,_,gy⟩:=aN 1 _ (bj bM) _ rfl (fun j _=>pe cd (by rfl) (by rfl) (by decide) (by decide) (fun _=>rfl) (fun i ad=>TH cd J i)) (by decide)
 obtain ⟨y,d2,a2,jX,_,CT⟩:=aN 2 _ (bj bK) _ rfl (fun j _=>pe cd (by rfl) (by rfl) (by decide) (by decide) (fun _=>rfl) (fun i ad=>TK cd J i)) (by decide)
 obtain ⟨z,d3,a3,hM,_,TM⟩:=aN 3 _ (bj bz) _ rfl (fun j _=>pe cd (by rfl) (by rfl) (by decide) (by decide) (fun _=>rfl) (fun i ad=>TJ cd J i)) (by decide)
 have ai:=CP cd (by decide) (by decide) cn a2 a3
 replace ia:(x.map fun p=>bP p.2).sum≤bk d1:=ia
 replace jX:(y.map r3).sum≤bk d2:=jX
 replace hM:(z.map fun p=>dG p.2).sum≤bk d3:=hM
 have aJ:tU ⟨s,x,y,z⟩≤bk d:=by
  show (x.map fun p=>bP p.2).sum+(y.map r3).sum+(z.map fun p=>dG p.2).sum≤_;omega
 refine ⟨⟨s,x,y,z⟩,aJ,av.symm,fun i ad=>?_⟩
 rw [av] at ad
 replace ad:i<4:=ad
 match i,ad with
 |0,_=>exact pN 0 (by decide)
 |1,_=>exact gy 0 (by decide)
 |2,_=>exact CT 0 (by decide)
 |3,_=>exact TM 0 (by decide)
end
theorem TN {s:a6} (h:tU s≤1048576):tS s:=by
 unfold tU at h
 refine ⟨fun p aU=>?_,fun x aq p aU=>?_,fun p aU=>?_⟩
 · have:=wz (fun p:aD×a7=>bP p.2) aU;omega
 · have J:=wz r3 aq
   have aa:=wz (fun p:aD×ax=>dG p.2) aU
   have ai:r3 x=(x.parts.map fun p=>dG p.2).sum:=rfl
   omega
 · have:=wz (fun p:aD×ax=>dG p.2) aU;omega
theorem wA {α:Type} {f:α→U} (gg:∀x,(f x).cells≠[]) (h:∀x,∀y∈(f x).cells,ho y) (l:List α):ho (.slice false (l.map f)):=by
 refine .slice _ (fun x aq=>?_) fun x aq y aK=>?_
 · obtain ⟨p,_,rfl⟩:=List.mem_map.1 aq
   exact gg p
 · obtain ⟨p,_,rfl⟩:=List.mem_map.1 aq
   exact h p y aK
theorem TO (p:aD×a7):∀y∈(bM p).cells,ho y:=fun y aK=>by
 have aa:=CS p.2
 rw [ik] at aa
 rcases List.mem_cons.1 (show y∈U.str p.1::(cZ p.2).cells from aK) with rfl|aK
 · exact .str _
 · cases aa with
   |agg _ ai=>exact ai y aK
theorem JF (p:aD×ax):∀y∈(bz p).cells,ho y:=fun y aK=>by
 have aa:=TG p.2
 rw [e9] at aa
 rcases List.mem_cons.1 (show y∈U.str p.1::(cy p.2).cells from aK) with rfl|aK
 · exact .str _
 · cases aa with
   |agg _ ai=>exact ai y aK
theorem TP (x:cz):∀y∈(bK x).cells,ho y:=fun y aK=>by
 replace aK:y∈[U.str x.kind, .str x.name, .slice false (x.parts.map bz)]:=aK
 simp only [List.mem_cons,List.not_mem_nil,or_false] at aK
 rcases aK with rfl|rfl|rfl
 · exact .str _
 · exact .str _
 · exact wA (f:=bz) (fun _=>List.cons_ne_nil _ _) JF _
theorem TQ (x:a6):∀y∈(bB x).cells,ho y:=fun y aK=>by
 replace aK:y∈[U.str x.name, .slice false (x.ins.map bM), .slice false (x.res.map bK), .slice false (x.outs.map bz)]:=aK
 simp only [List.mem_cons,List.not_mem_nil,or_false] at aK
 rcases aK with rfl|rfl|rfl|rfl
 · exact .str _
 · exact wA (f:=bM) (fun _=>List.cons_ne_nil _ _) TO _
 · exact wA (f:=bK) (fun _=>List.cons_ne_nil _ _) TP _
 · exact wA (f:=bz) (fun _=>List.cons_ne_nil _ _) JF _
end Go.Proofs
end
