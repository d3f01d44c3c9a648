import Derived.Test.YtaeknjhnpmhcmaaCk2
import Derived.Test.YtaeknjhnpmhcmaaProg
import Derived.Test.YtaeknjhnpmhcmaaPx14
import Derived.Test.YtaeknjhnpmhcmaaWxz
section
namespace Go.Proofs
open Go Go.Aw Go.Sx
set_option maxRecDepth 100000
def insE : List (Str × Val) → Int
  | [] => 0
  | p :: r => if nameV p.1 = true ∧ p.2.kind ≤ 3 ∧ chk p.2 = 0 then insE r else 3
noncomputable def prtF (l : List (Str × Exp)) : Nat → Int → Int
  | 0, _ => 0
  | n + 1, i => if nameV (gI l i).1 = true ∧ (0 < i → Op.bytesLess (gI l (i - 1)).1 (gI l i).1 = true) then (if exF (gI l i).2 = 0 then prtF l n (i + 1) else exF (gI l i).2) else 3
noncomputable def prtE (l : List (Str × Exp)) : Int := prtF l l.length 0
noncomputable def resE : List ResT → Int
  | [] => 0
  | x :: r => if nameV x.kind = true ∧ nameV x.name = true then (if 6 < (x.parts.length : Int) then 2 else if prtE x.parts = 0 then resE r else prtE x.parts) else 3
noncomputable def outE : List (Str × Exp) → Int
  | [] => 0
  | p :: r => if nameV p.1 = true then (if exF p.2 = 0 then outE r else exF p.2) else 3
noncomputable def stkR (s : StkT) (b : Int) : Int := if b ≠ 0 then b else outE s.outs
noncomputable def stkK (s : StkT) (a : Int) : Int := if a ≠ 0 then a else stkR s (resE s.res)
noncomputable def stkE (s : StkT) : Int := if nameV s.name = false then 3 else if 8 < (s.ins.length : Int) ∨ 8 < (s.res.length : Int) ∨ 8 < (s.outs.length : Int) then 2 else stkK s (insE s.ins)
theorem insE_drop {l : List (Str × Val)} {i : Int} (h0 : 0 ≤ i) (hi : i < l.length) : insE (l.drop i.toNat) = if nameV (gI l i).1 = true ∧ (gI l i).2.kind ≤ 3 ∧ chk (gI l i).2 = 0 then insE (l.drop (i + 1).toNat) else 3 := by rw [drop_gI h0 hi, insE]
theorem resE_drop {l : List ResT} {i : Int} (h0 : 0 ≤ i) (hi : i < l.length) : resE (l.drop i.toNat) = if nameV (gI l i).kind = true ∧ nameV (gI l i).name = true then (if 6 < ((gI l i).parts.length : Int) then 2 else if prtE (gI l i).parts = 0 then resE (l.drop (i + 1).toNat) else prtE (gI l i).parts) else 3 := by rw [drop_gI h0 hi, resE]
theorem outE_drop {l : List (Str × Exp)} {i : Int} (h0 : 0 ≤ i) (hi : i < l.length) : outE (l.drop i.toNat) = if nameV (gI l i).1 = true then (if exF (gI l i).2 = 0 then outE (l.drop (i + 1).toNat) else exF (gI l i).2) else 3 := by rw [drop_gI h0 hi, outE]
theorem prtF_step {l : List (Str × Exp)} {i : Int} (hi : i < l.length) : prtF l ((l.length : Int) - i).toNat i = if nameV (gI l i).1 = true ∧ (0 < i → Op.bytesLess (gI l (i - 1)).1 (gI l i).1 = true) then (if exF (gI l i).2 = 0 then prtF l ((l.length : Int) - (i + 1)).toNat (i + 1) else exF (gI l i).2) else 3 := by
  have e : ((l.length : Int) - i).toNat = ((l.length : Int) - (i + 1)).toNat + 1 := by omega
  rw [e, prtF]
theorem prtF_end {l : List (Str × Exp)} {i : Int} (hi : (l.length : Int) ≤ i) : prtF l ((l.length : Int) - i).toNat i = 0 := by
  rw [show ((l.length : Int) - i).toNat = 0 by omega, prtF]
theorem prtE_eq (l : List (Str × Exp)) : prtE l = prtF l ((l.length : Int) - 0).toNat 0 := by rw [prtE]; congr 1
theorem stkK_no {s : StkT} {a : Int} (h : a ≠ 0) : stkK s a = a := by rw [stkK, if_pos h]
theorem stkR_no {s : StkT} {a : Int} (h : a ≠ 0) : stkR s a = a := by rw [stkR, if_pos h]
set_option maxHeartbeats 2000000 in
theorem u_VNm (s : Str)  (m : AMem)  (K : AV → AMem → Prop) (hK : K (.bool (nameV s)) m) : ACalls Try.prog 22 [.str s] m K := by
 refine enter (c := cf [] [0] [5, 8] [] [] []) (vs := [.av (.str s)]) (L := []) (m := m) false tbOk Try.mixed Try.func22 rfl (k := 1) (by show fnOk [] _ _ _ = true; decide +kernel) rfl (Good.nil m) ?_
 refine ⟨fun F0 => ?_⟩
 have hbd0_0 : s.length ≤ 140737488355328 := F0 0
 refine sq ?_
 refine lp (σ := Int) [] [0, 6, 7] 0 (fun i => ([(0, vS s), (6, vI (s.length : Int)), (7, vI i)], [], m)) (fun i => 0 ≤ i ∧ i ≤ s.length ∧ nmF s true = nmF (s.drop i.toNat) (i == 0)) (fun i => s.length - i.toNat) (0) ⟨rfl, rfl⟩ ?_ ?_
 · try dsimp only
   exact ⟨by omega, by omega, by simp⟩
 rintro i hI
 refine sq ?_
 refine an (fun h1 => ?_) (fun h1 => ?_)
 · refine sq ?_
   refine an (by omega) ?_
   refine mg [0, 6, 7] 30 (((decide (((gI s i).toNat : Int) < 97)) || (decide (122 < ((gI s i).toNat : Int)))) && (((i == 0) || (decide (((gI s i).toNat : Int) < 48))) || (decide (57 < ((gI s i).toNat : Int))))) ?_ ?_
   · repeat' first
      | exact ⟨⟨_, rfl, by grind [SB.val]⟩, rfl⟩
      | refine an (fun _ => ?_) (fun _ => ?_)
   refine an (fun h2 => ?_) (fun h2 => ?_)
   · replace h2 : ((((gI s i).toNat : Int) < 97) ∨ (122 < ((gI s i).toNat : Int))) ∧ (((i = 0) ∨ (((gI s i).toNat : Int) < 48)) ∨ (57 < ((gI s i).toNat : Int))) := ⟨((borT (bandL h2)).imp (fun q => (of_decide_eq_true q)) (fun q => (of_decide_eq_true q))), ((borT (bandR h2)).imp (fun q => ((borT q).imp (fun q => (eq_of_beq q)) (fun q => (of_decide_eq_true q)))) (fun q => (of_decide_eq_true q)))⟩
     refine rt0 rfl fun _ => K_eq hK ?_
     show AV.bool (nameV s) = AV.bool false
     refine congrArg AV.bool ?_
     have hb : (letC (gI s i) || (!(i == 0) && digC (gI s i))) = false := by
       rw [Bool.eq_false_iff]; intro hh; simp [letC, digC] at hh; omega
     rw [nameV, hI.2.2, nmF_step hI.1 h1, hb]; rfl
   replace h2 : ((97 ≤ ((gI s i).toNat : Int)) ∧ (((gI s i).toNat : Int) ≤ 122)) ∨ (((i ≠ 0) ∧ (48 ≤ ((gI s i).toNat : Int))) ∧ (((gI s i).toNat : Int) ≤ 57)) := ((bandF h2).imp (fun q => ⟨(Int.not_lt.1 (of_decide_eq_false (borL q))), (Int.not_lt.1 (of_decide_eq_false (borR q)))⟩) (fun q => ⟨⟨(ne_of_beq_false (borL (borL q))), (Int.not_lt.1 (of_decide_eq_false (borR (borL q))))⟩, (Int.not_lt.1 (of_decide_eq_false (borR q)))⟩))
   refine an (by omega) ?_
   refine ⟨(i + 1), ⟨rfl, rfl⟩, ?_, ?_⟩
   · try dsimp only
     have hb : (letC (gI s i) || (!(i == 0) && digC (gI s i))) = true := by simp [letC, digC]; omega
     exact ⟨by omega, by omega, by rw [hI.2.2, nmF_step hI.1 h1, hb]; rfl⟩
   try dsimp only
   omega
 refine mg [] 2 ((!(s == ([]))) && (decide ((s.length : Int) ≤ 12))) ?_ ?_
 · repeat' first
    | exact ⟨⟨_, rfl, by grind [SB.val]⟩, rfl⟩
    | refine an (fun _ => ?_) (fun _ => ?_)
 refine rt0 rfl fun _ => K_eq hK ?_
 show AV.bool (nameV s) = AV.bool ((!(s == ([]))) && (decide ((s.length : Int) ≤ 12)))
 refine congrArg AV.bool ?_
 have ha : nmF s true = true := by rw [hI.2.2, List.drop_eq_nil_of_le (by omega)]; rfl
 rw [nameV, ha]; cases s <;> simp
set_option maxHeartbeats 4000000 in
theorem u_CheckStack (s : StkT)  (m : AMem)  (K : AV → AMem → Prop) (hK : K (.err 61 (stkE s)) m) : ACalls Try.prog 10 [stkAV s] m K := by
 refine enter (c := cf [] [0] [3, 8, 14, 21] [] [] []) (vs := [.av (stkAV s)]) (L := []) (m := m) true tbOk Try.mixed Try.func10 rfl (k := 1) (by show fnOk [] _ _ _ = true; decide +kernel) rfl (Good.nil m) ?_
 refine ⟨fun F0 => ?_⟩
 have hbd0_0 : s.name.length ≤ 140737488355328 := (F0 0 0 (Nat.le_of_ble_eq_true rfl))
 have hbd0_1 : s.ins.length ≤ 140737488355328 := bd_map (F0 0 1 (Nat.le_of_ble_eq_true rfl))
 have hbd0_2 : s.res.length ≤ 140737488355328 := bd_map (F0 0 2 (Nat.le_of_ble_eq_true rfl))
 have hbd0_3 : s.outs.length ≤ 140737488355328 := bd_map (F0 0 3 (Nat.le_of_ble_eq_true rfl))
 refine sq ?_
 refine call0 (fun _ => u_VNm s.name) rfl ?_
 refine an (fun h1 => ?_) (fun h1 => ?_)
 · refine sq ?_
   refine mg [1] 33 (((decide (8 < (s.ins.length : Int))) || (decide (8 < (s.res.length : Int)))) || (decide (8 < (s.outs.length : Int)))) ?_ ?_
   · repeat' first
      | exact ⟨⟨_, rfl, by grind [SB.val]⟩, rfl⟩
      | refine an (fun _ => ?_) (fun _ => ?_)
      | refine ln ?_
   refine an (fun h2 => ?_) (fun h2 => ?_)
   · replace h2 : ((8 < (s.ins.length : Int)) ∨ (8 < (s.res.length : Int))) ∨ (8 < (s.outs.length : Int)) := ((borT h2).imp (fun q => ((borT q).imp (fun q => (of_decide_eq_true q)) (fun q => (of_decide_eq_true q)))) (fun q => (of_decide_eq_true q)))
     have e0 : stkE s = (2 : Int) := by
      rw [stkE, if_neg (by rw [h1]; simp), if_pos (by omega)]
     rw [e0] at hK
     exact rt0 rfl fun _ => hK
   replace h2 : (((s.ins.length : Int) ≤ 8) ∧ ((s.res.length : Int) ≤ 8)) ∧ ((s.outs.length : Int) ≤ 8) := ⟨⟨(Int.not_lt.1 (of_decide_eq_false (borL (borL h2)))), (Int.not_lt.1 (of_decide_eq_false (borR (borL h2))))⟩, (Int.not_lt.1 (of_decide_eq_false (borR h2)))⟩
   refine sq ?_
   refine ln ?_
   refine lp (σ := Int) [] [1, 36, 37, 38] 1 (fun i => ([(1, .loc 0 0), (36, vL (s.ins.map inAV)), (37, vI (s.ins.length : Int)), (38, vI i)], [.cells [vS s.name, vL (s.ins.map inAV), vL (s.res.map resAV), vL (s.outs.map prtAV)]], m)) (fun i => 0 ≤ i ∧ i ≤ s.ins.length ∧ stkE s = stkK s (insE (s.ins.drop i.toNat))) (fun i => s.ins.length - i.toNat) (0) ⟨rfl, rfl⟩ ?_ ?_
   · try dsimp only
     exact ⟨by omega, by omega, by rw [stkE, if_neg (by rw [h1]; simp), if_neg (by omega)]; rfl⟩
   rintro i hI
   refine sq ?_
   refine an (fun h3 => ?_) (fun h3 => ?_)
   · refine sq ?_
     refine ix (by omega) ?_
     refine mg [1, 36, 37, 38] 51 ((!(nameV ((gI s.ins i).1))) || (!(decide (((gI s.ins i).2).kind ≤ 3) && (chk ((gI s.ins i).2) == 0)))) ?_ ?_
     · repeat' first
        | exact ⟨⟨_, rfl, by grind [SB.val]⟩, rfl⟩
        | refine an (fun _ => ?_) (fun _ => ?_)
        | refine call0 (fun _ => u_VNm ((gI s.ins i).1)) rfl ?_
        | refine call0 (fun _ => u_plain ((gI s.ins i).2)) rfl ?_
     refine an (fun h4 => ?_) (fun h4 => ?_)
     · replace h4 : (nameV ((gI s.ins i).1) = false) ∨ ((decide (((gI s.ins i).2).kind ≤ 3) && (chk ((gI s.ins i).2) == 0)) = false) := ((borT h4).imp (fun q => (bnT q)) (fun q => (bnT q)))
       have e0 : stkE s = (3 : Int) := by
        rw [hI.2.2, insE_drop hI.1 h3, if_neg (fun q => by rcases h4 with h | h <;> simp_all), stkK_no (by decide)]
       rw [e0] at hK
       exact rt0 rfl fun _ => hK
     replace h4 : (nameV ((gI s.ins i).1) = true) ∧ ((decide (((gI s.ins i).2).kind ≤ 3) && (chk ((gI s.ins i).2) == 0)) = true) := ⟨(bnF (borL h4)), (bnF (borR h4))⟩
     refine an (by omega) ?_
     refine ⟨(i + 1), ⟨rfl, rfl⟩, ?_, ?_⟩
     · try dsimp only
       exact ⟨by omega, by omega, by rw [hI.2.2, insE_drop hI.1 h3, if_pos ⟨h4.1, by have := h4.2; simp at this; exact this⟩]⟩
     try dsimp only
     omega
   refine sq ?_
   refine ln ?_
   refine lp (σ := Int) [] [1, 55, 56, 57] 1 (fun i2 => ([(1, .loc 0 0), (55, vL (s.res.map resAV)), (56, vI (s.res.length : Int)), (57, vI i2)], [.cells [vS s.name, vL (s.ins.map inAV), vL (s.res.map resAV), vL (s.outs.map prtAV)]], m)) (fun i2 => 0 ≤ i2 ∧ i2 ≤ s.res.length ∧ stkE s = stkR s (resE (s.res.drop i2.toNat))) (fun i2 => s.res.length - i2.toNat) (0) ⟨rfl, rfl⟩ ?_ ?_
   · try dsimp only
     exact ⟨by omega, by omega, by rw [hI.2.2, List.drop_eq_nil_of_le (by omega)]; rfl⟩
   rintro i2 hI2
   refine sq ?_
   refine an (fun h5 => ?_) (fun h5 => ?_)
   · refine sq ?_
     refine ix (by omega) ?_
     refine sq ?_
     refine mg [1, 6, 55, 56, 57] 70 ((!(nameV ((gI s.res i2).kind))) || (!(nameV ((gI s.res i2).name)))) ?_ ?_
     · repeat' first
        | exact ⟨⟨_, rfl, by grind [SB.val]⟩, rfl⟩
        | refine an (fun _ => ?_) (fun _ => ?_)
        | refine call0 (fun _ => u_VNm ((gI s.res i2).kind)) rfl ?_
        | refine call0 (fun _ => u_VNm ((gI s.res i2).name)) rfl ?_
     refine an (fun h6 => ?_) (fun h6 => ?_)
     · replace h6 : (nameV ((gI s.res i2).kind) = false) ∨ (nameV ((gI s.res i2).name) = false) := ((borT h6).imp (fun q => (bnT q)) (fun q => (bnT q)))
       have e0 : stkE s = (3 : Int) := by
        rw [hI2.2.2, resE_drop hI2.1 h5, if_neg (fun q => by rcases h6 with h | h <;> simp_all), stkR_no (by decide)]
       rw [e0] at hK
       exact rt0 rfl fun _ => hK
     replace h6 : (nameV ((gI s.res i2).kind) = true) ∧ (nameV ((gI s.res i2).name) = true) := ⟨(bnF (borL h6)), (bnF (borR h6))⟩
     refine sq ?_
     refine ln ?_
     refine an (fun h7 => ?_) (fun h7 => ?_)
     · have e0 : stkE s = (2 : Int) := by
        rw [hI2.2.2, resE_drop hI2.1 h5, if_pos h6, if_pos h7, stkR_no (by decide)]
       rw [e0] at hK
       exact rt0 rfl fun _ => hK
     refine ln ?_
     refine lp (σ := Int) [] [1, 6, 55, 56, 57, 78, 79, 80] 2 (fun k => ([(1, .loc 0 0), (6, .loc 1 0), (55, vL (s.res.map resAV)), (56, vI (s.res.length : Int)), (57, vI i2), (78, vL (((gI s.res i2).parts).map prtAV)), (79, vI (((gI s.res i2).parts).length : Int)), (80, vI k)], [.cells [vS s.name, vL (s.ins.map inAV), vL (s.res.map resAV), vL (s.outs.map prtAV)], .cells [vS ((gI s.res i2).kind), vS ((gI s.res i2).name), vL (((gI s.res i2).parts).map prtAV)]], m)) (fun k => 0 ≤ k ∧ k ≤ (gI s.res i2).parts.length ∧ prtE (gI s.res i2).parts = prtF (gI s.res i2).parts (((gI s.res i2).parts.length : Int) - k).toNat k) (fun k => (gI s.res i2).parts.length - k.toNat) (0) ⟨rfl, rfl⟩ ?_ ?_
     · try dsimp only
       exact ⟨by omega, by omega, prtE_eq _⟩
     rintro k hI3
     refine sq ?_
     refine an (fun h8 => ?_) (fun h8 => ?_)
     · refine sq ?_
       refine ix (by omega) ?_
       refine sq ?_
       refine mg [1, 6, 8, 55, 56, 57, 78, 79, 80] 104 ((!(nameV ((gI ((gI s.res i2).parts) k).1))) || ((decide (0 < k)) && (!(Op.bytesLess ((gI ((gI s.res i2).parts) (k - 1)).1) ((gI ((gI s.res i2).parts) k).1))))) ?_ ?_
       · repeat' first
          | exact ⟨⟨_, rfl, by grind [SB.val]⟩, rfl⟩
          | refine an (fun _ => ?_) (fun _ => ?_)
          | refine pure0 (fun _ => u_VNm ((gI ((gI s.res i2).parts) k).1)) ?_
          | refine an (by omega) ?_
          | refine ix (by omega) ?_
       refine an (fun h9 => ?_) (fun h9 => ?_)
       · replace h9 : (nameV ((gI ((gI s.res i2).parts) k).1) = false) ∨ ((0 < k) ∧ (Op.bytesLess ((gI ((gI s.res i2).parts) (k - 1)).1) ((gI ((gI s.res i2).parts) k).1) = false)) := ((borT h9).imp (fun q => (bnT q)) (fun q => ⟨(of_decide_eq_true (bandL q)), (bnT (bandR q))⟩))
         have e0 : stkE s = (3 : Int) := by
          have q : prtE (gI s.res i2).parts = 3 := by
           rw [hI3.2.2, prtF_step h8, if_neg (fun q => by rcases h9 with h | h; (· rw [h] at q; cases q.1); (· have := q.2 h.1; rw [h.2] at this; cases this))]
          rw [hI2.2.2, resE_drop hI2.1 h5, if_pos h6, if_neg (by omega), if_neg (by omega), q, stkR_no (by decide)]
         rw [e0] at hK
         exact rt0 rfl fun _ => hK
       replace h9 : (nameV ((gI ((gI s.res i2).parts) k).1) = true) ∧ ((k ≤ 0) ∨ (Op.bytesLess ((gI ((gI s.res i2).parts) (k - 1)).1) ((gI ((gI s.res i2).parts) k).1) = true)) := ⟨(bnF (borL h9)), ((bandF (borR h9)).imp (fun q => (Int.not_lt.1 (of_decide_eq_false q))) (fun q => (bnF q)))⟩
       refine call0 (fun _ => u_LCheck ((gI ((gI s.res i2).parts) k).2)) rfl ?_
       refine an (fun h10 => ?_) (fun h10 => ?_)
       · refine an (by omega) ?_
         refine ⟨(k + 1), ⟨rfl, rfl⟩, ?_, ?_⟩
         · try dsimp only
           exact ⟨by omega, by omega, by rw [hI3.2.2, prtF_step h8, if_pos ⟨h9.1, fun q => h9.2.resolve_left (by omega)⟩, if_pos h10]⟩
         try dsimp only
         omega
       have e0 : stkE s = (exF ((gI ((gI s.res i2).parts) k).2) : Int) := by
        have q : prtE (gI s.res i2).parts = exF (gI (gI s.res i2).parts k).2 := by
         rw [hI3.2.2, prtF_step h8, if_pos ⟨h9.1, fun q => h9.2.resolve_left (by omega)⟩, if_neg h10]
        rw [hI2.2.2, resE_drop hI2.1 h5, if_pos h6, if_neg (by omega), if_neg (by rw [q]; exact h10), q, stkR_no h10]
       rw [e0] at hK
       exact rt0 rfl fun _ => hK
     refine an (by omega) ?_
     refine ⟨(i2 + 1), ⟨rfl, rfl⟩, ?_, ?_⟩
     · try dsimp only
       have q : prtE (gI s.res i2).parts = 0 := by rw [hI3.2.2, prtF_end (by omega)]
       exact ⟨by omega, by omega, by rw [hI2.2.2, resE_drop hI2.1 h5, if_pos h6, if_neg (by omega), if_pos q]⟩
     try dsimp only
     omega
   refine sq ?_
   refine ln ?_
   refine lp (σ := Int) [] [115, 116, 117] 1 (fun i3 => ([(115, vL (s.outs.map prtAV)), (116, vI (s.outs.length : Int)), (117, vI i3)], [.cells [vS s.name, vL (s.ins.map inAV), vL (s.res.map resAV), vL (s.outs.map prtAV)]], m)) (fun i3 => 0 ≤ i3 ∧ i3 ≤ s.outs.length ∧ stkE s = outE (s.outs.drop i3.toNat)) (fun i3 => s.outs.length - i3.toNat) (0) ⟨rfl, rfl⟩ ?_ ?_
   · try dsimp only
     exact ⟨by omega, by omega, by rw [hI2.2.2, List.drop_eq_nil_of_le (by omega)]; rfl⟩
   rintro i3 hI3
   refine sq ?_
   refine an (fun h11 => ?_) (fun h11 => ?_)
   · refine sq ?_
     refine ix (by omega) ?_
     refine sq ?_
     refine call0 (fun _ => u_VNm ((gI s.outs i3).1)) rfl ?_
     refine an (fun h12 => ?_) (fun h12 => ?_)
     · refine call0 (fun _ => u_LCheck ((gI s.outs i3).2)) rfl ?_
       refine an (fun h13 => ?_) (fun h13 => ?_)
       · refine an (by omega) ?_
         refine ⟨(i3 + 1), ⟨rfl, rfl⟩, ?_, ?_⟩
         · try dsimp only
           exact ⟨by omega, by omega, by rw [hI3.2.2, outE_drop hI3.1 h11, if_pos h12, if_pos h13]⟩
         try dsimp only
         omega
       have e0 : stkE s = (exF ((gI s.outs i3).2) : Int) := by
        rw [hI3.2.2, outE_drop hI3.1 h11, if_pos h12, if_neg h13]
       rw [e0] at hK
       exact rt0 rfl fun _ => hK
     have e0 : stkE s = (3 : Int) := by
      rw [hI3.2.2, outE_drop hI3.1 h11, if_neg (by rw [h12]; simp)]
     rw [e0] at hK
     exact rt0 rfl fun _ => hK
   have e0 : stkE s = (0 : Int) := by
    rw [hI3.2.2, List.drop_eq_nil_of_le (by omega)]; rfl
   rw [e0] at hK
   exact rt0 rfl fun _ => hK
 have e0 : stkE s = (3 : Int) := by
  rw [stkE, if_pos h1]
 rw [e0] at hK
 exact rt0 rfl fun _ => hK
end Go.Proofs
end
section
namespace Go.Proofs
open Go Go.Aw Go.Sx
set_option maxRecDepth 100000
theorem chk_cnt {v : Val} (h : chk v = 0) : depV v ≤ 60 ∧ shpF (depV v + 1) v = true := by
  unfold chk at h
  split at h
  · rename_i h1
    have q := cntF_ok _ _ _ _ (by omega) h1
    exact ⟨by omega, shE_t h⟩
  · simp at h
theorem node_sz {e : Exp} (h : NodeOk e) : depV e.v ≤ 61 ∧ e.n.length ≤ e.a.length := by
  have hz : depV zV = 1 := by decide
  unfold NodeOk at h
  rcases h with ⟨_, _, _, ⟨_, h1⟩, _, h2⟩ | ⟨h1, h2⟩
  · have := (chk_cnt h1).1
    rw [h2]; simp; omega
  · rw [h1, hz]
    refine ⟨by decide, ?_⟩
    rcases h2 with ⟨_, _, _, _, h⟩ | ⟨_, _, _, _, h⟩ | ⟨_, _, _, _, h⟩ | ⟨_, _, _, _, h⟩ | ⟨_, _, _, h⟩ | ⟨_, _, _, h, _⟩ | ⟨_, _, _, _, h⟩ <;> first | (rw [h]; simp; done) | omega
mutual
theorem fm_szE : ∀ e : Exp, fmE e → (szE e : Int) + 1 ≤ 64 * xcE e
  | .mk k v s t a n, h => by
    have h1 := node_sz ((fmE_eq _).1 h).1
    have h2 := fm_szL a ((fmE_eq _).1 h).2
    simp only [Exp.v, Exp.n, Exp.a] at h1
    simp only [szE, xcE]
    omega
theorem fm_szL : ∀ l : List Exp, fmL l → (szL l : Int) + l.length ≤ 64 * xcL l
  | [], _ => by simp [szL, xcL]
  | e :: r, h => by
    simp only [fmL] at h
    have h1 := fm_szE e h.1
    have h2 := fm_szL r h.2
    simp only [szL, xcL, List.length_cons]
    omega
end
theorem exF_sz {e : Exp} (h : exF e = 0) : szE e ≤ 1000000000 := by
  have h1 := exF_0 h
  have h2 := fm_szE e h1.1
  omega
theorem insE_all : ∀ {l : List (Str × Val)}, insE l = 0 → ∀ p ∈ l, nameV p.1 = true ∧ chk p.2 = 0
  | [], _, p, hp => by cases hp
  | x :: r, h, p, hp => by
    rw [insE] at h
    split at h
    · rename_i c
      rcases List.mem_cons.1 hp with rfl | hp
      · exact ⟨c.1, c.2.2⟩
      · exact insE_all h p hp
    · cases h
theorem prtF_all {l : List (Str × Exp)} : ∀ (n : Nat) (i : Int), 0 ≤ i → prtF l n i = 0 → ∀ j : Int, i ≤ j → j < i + n → exF (gI l j).2 = 0
  | 0, i, _, _, j, h1, h2 => by omega
  | n + 1, i, h0, h, j, h1, h2 => by
    rw [prtF] at h
    split at h
    · split at h
      · rename_i c
        rcases Int.lt_or_le i j with q | q
        · exact prtF_all n (i + 1) (by omega) h j (by omega) (by omega)
        · rw [show j = i by omega]; exact c
      · rename_i c; exact absurd h c
    · cases h
theorem prtE_all {l : List (Str × Exp)} (h : prtE l = 0) : ∀ p ∈ l, exF p.2 = 0 := by
  intro p hp
  obtain ⟨k, hk, rfl⟩ := List.getElem_of_mem hp
  have := prtF_all l.length 0 (Int.le_refl _) h (k : Int) (by omega) (by omega)
  simpa [gI, List.getD_eq_getElem?_getD, hk] using this
theorem resE_all : ∀ {l : List ResT}, resE l = 0 → ∀ x ∈ l, x.parts.length ≤ 6 ∧ ∀ p ∈ x.parts, exF p.2 = 0
  | [], _, p, hp => by cases hp
  | y :: r, h, x, hx => by
    rw [resE] at h
    split at h
    · split at h
      · cases h
      · rename_i c
        split at h
        · rename_i c2
          rcases List.mem_cons.1 hx with rfl | hx
          · exact ⟨by omega, prtE_all c2⟩
          · exact resE_all h x hx
        · rename_i c2; exact absurd h c2
    · cases h
theorem outE_all : ∀ {l : List (Str × Exp)}, outE l = 0 → ∀ p ∈ l, exF p.2 = 0
  | [], _, p, hp => by cases hp
  | x :: r, h, p, hp => by
    rw [outE] at h
    split at h
    · split at h
      · rename_i c
        rcases List.mem_cons.1 hp with rfl | hp
        · exact c
        · exact outE_all h p hp
      · rename_i c; exact absurd h c
    · cases h
structure StkOk (s : StkT) : Prop where
  li : s.ins.length ≤ 8
  lr : s.res.length ≤ 8
  lo : s.outs.length ≤ 8
  i : ∀ p ∈ s.ins, nameV p.1 = true ∧ chk p.2 = 0
  r : ∀ x ∈ s.res, x.parts.length ≤ 6 ∧ ∀ p ∈ x.parts, exF p.2 = 0
  o : ∀ p ∈ s.outs, exF p.2 = 0
theorem stk_ok {s : StkT} (h : stkE s = 0) : StkOk s := by
  unfold stkE at h
  split at h
  · cases h
  · split at h
    · cases h
    · rename_i c
      unfold stkK at h
      split at h
      · rename_i c2; exact absurd h c2
      · rename_i c2
        unfold stkR at h
        split at h
        · rename_i c3; exact absurd h c3
        · rename_i c3
          exact ⟨by omega, by omega, by omega, insE_all (by simpa using c2), resE_all (by simpa using c3), outE_all h⟩
set_option maxHeartbeats 4000000 in
theorem u_CopyS (s : StkT) (hc : stkE s = 0) (m : AMem)  (K : AV → AMem → Prop) (hK : K (stkAV s) m) : ACalls Try.prog 19 [stkAV s] m K := by
 have hs := stk_ok hc
 have hli := hs.li
 have hlr := hs.lr
 have hlo := hs.lo
 refine enter (c := cf [] [0] [] [5999, 14999, 21999] [5, 14, 21] []) (vs := [.av (stkAV s)]) (L := []) (m := m) false tbOk Try.mixed Try.func19 rfl (k := 1) (by show fnOk [5999, 14999, 21999] _ _ _ = true; decide +kernel) rfl (Good.nil m) ?_
 refine ⟨fun F0 => ?_⟩
 have hbd0_0 : s.name.length ≤ 140737488355328 := (F0 0 0 (Nat.le_of_ble_eq_true rfl))
 have hbd0_1 : s.ins.length ≤ 140737488355328 := bd_map (F0 0 1 (Nat.le_of_ble_eq_true rfl))
 have hbd0_2 : s.res.length ≤ 140737488355328 := bd_map (F0 0 2 (Nat.le_of_ble_eq_true rfl))
 have hbd0_3 : s.outs.length ≤ 140737488355328 := bd_map (F0 0 3 (Nat.le_of_ble_eq_true rfl))
 refine sq ?_
 refine ln ?_
 refine lp (σ := Int × List (Str × Val)) [] [1, 2, 3, 17, 18, 19] 3 (fun ⟨i, xs⟩ => ([(1, .loc 0 0), (2, .loc 1 0), (3, .loc 2 0), (17, vL (s.ins.map inAV)), (18, vI (s.ins.length : Int)), (19, vI i)], [.cells [vS s.name, vL (s.ins.map inAV), vL (s.res.map resAV), vL (s.outs.map prtAV)], .cells [vS ([]), .own [], .own [], .own []], .cells [vS s.name, .own (xs.map inAV), .own [], .own []]], m)) (fun ⟨i, xs⟩ => 0 ≤ i ∧ i ≤ s.ins.length ∧ xs = s.ins.take i.toNat) (fun ⟨i, xs⟩ => s.ins.length - i.toNat) (0, []) ⟨rfl, rfl⟩ ?_ ?_
 · try dsimp only
   exact ⟨by omega, by omega, rfl⟩
 rintro ⟨i, xs⟩ hI
 dsimp only at hI
 have hxl : (xs.length : Int) = i := by rw [hI.2.2, List.length_take]; omega
 refine sq ?_
 refine an (fun h1 => ?_) (fun h1 => ?_)
 · refine sq ?_
   refine ix (by omega) ?_
   refine rgA tbOk Try.mixed (σ := Unit) (.f 0 (.f 2 (.f 4 (.o 1 (.o 3 (.s 5 (.s 6 (.s 7 (.s 8 (.s 9 (.f 10 (.s 11 .d))))))) (.o 5 (.o 3 (.s 6 (.s 7 (.s 8 (.s 9 (.f 10 (.s 11 .d)))))) (.o 6 (.s 3 (.s 7 (.s 8 (.s 9 (.f 10 (.s 11 .d)))))) .z)) .z)) (.o 3 (.o 1 (.s 5 (.s 6 (.s 7 (.s 8 (.s 9 (.f 10 (.s 11 .d))))))) (.o 5 (.o 1 (.s 6 (.s 7 (.s 8 (.s 9 (.f 10 (.s 11 .d)))))) (.o 6 (.o 1 (.s 7 (.s 8 (.s 9 (.f 10 (.s 11 .d))))) (.o 7 (.o 1 (.s 8 (.s 9 (.f 10 (.s 11 .d)))) (.o 8 (.s 1 (.s 9 (.f 10 (.s 11 .d)))) .z)) .z)) .z)) .z)) (.o 5 (.o 1 (.o 3 (.s 6 (.s 7 (.s 8 (.s 9 (.f 10 (.s 11 .d)))))) (.o 6 (.s 3 (.s 7 (.s 8 (.s 9 (.f 10 (.s 11 .d)))))) .z)) (.o 3 (.o 1 (.s 6 (.s 7 (.s 8 (.s 9 (.f 10 (.s 11 .d)))))) (.o 6 (.o 1 (.s 7 (.s 8 (.s 9 (.f 10 (.s 11 .d))))) (.o 7 (.o 1 (.s 8 (.s 9 (.f 10 (.s 11 .d)))) (.o 8 (.s 1 (.s 9 (.f 10 (.s 11 .d)))) .z)) .z)) .z)) (.o 6 (.o 1 (.s 3 (.s 7 (.s 8 (.s 9 (.f 10 (.s 11 .d)))))) (.o 3 (.o 1 (.s 7 (.s 8 (.s 9 (.f 10 (.s 11 .d))))) (.o 7 (.o 1 (.s 8 (.s 9 (.f 10 (.s 11 .d)))) (.o 8 (.s 1 (.s 9 (.f 10 (.s 11 .d)))) .z)) .z)) .z)) .z))) .z)))))) [] [1, 2, 3, 17, 18, 19] 4 (fun _ => ([(1, .loc 0 0), (2, .loc 1 0), (3, .loc 2 0), (17, vL (s.ins.map inAV)), (18, vI (s.ins.length : Int)), (19, vI i)], [.cells [vS s.name, vL (s.ins.map inAV), vL (s.res.map resAV), vL (s.outs.map prtAV)], .cells [vS ([]), .own [], .own [], .own []], .cells [vS s.name, .own ((xs ++ ([(gI s.ins i)] : List (Str × Val))).map inAV), .own [], .own []], .cells [vS ((gI s.ins i).1), vI (((gI s.ins i).2).kind), vI (((gI s.ins i).2).n), vS (((gI s.ins i).2).s), vL ((((gI s.ins i).2).l).map valIn), vL ((((gI s.ins i).2).f).map fldIn)]], m)) (fun _ => True) (by decide +kernel) ?_ ?_
   · rintro _ hy5
     try dsimp only at hy5
     refine an (by omega) ?_
     refine ⟨(i + 1, xs ++ ([(gI s.ins i)] : List (Str × Val))), ⟨rfl, rfl⟩, ?_, ?_⟩
     · try dsimp only
       exact ⟨by omega, by omega, by rw [take_succ_gI hI.1 (by assumption), ← hI.2.2]⟩
     try dsimp only
     omega
   repeat' first
    | refine ⟨(), ⟨rfl, rfl⟩, trivial⟩
    | refine call0 (fun _ => u_Copy ((gI s.ins i).2) (okV_small _ _ (Nat.lt_succ_self _) (by have := (chk_cnt (hs.i _ (gI_mem hI.1 (by assumption))).2).1; omega))) rfl ?_
    | refine ap inAV xs ([(gI s.ins i)] : List (Str × Val)) rfl rfl (fun _ => ⟨rfl, rfl⟩) (by (simp only [List.length_append, List.length_cons, List.length_nil]; omega)) ?_
    | refine ⟨?_, ?_, ?_, trivial⟩
    | refine ⟨?_, ?_, trivial⟩
 obtain rfl : xs = s.ins := by have := hI.2.2; rwa [take_full (by omega)] at this
 refine sq ?_
 refine ln ?_
 refine lp (σ := Int × List ResT) [] [1, 2, 3, 36, 37, 38] 3 (fun ⟨i2, ys⟩ => ([(1, .loc 0 0), (2, .loc 1 0), (3, .loc 2 0), (36, vL (s.res.map resAV)), (37, vI (s.res.length : Int)), (38, vI i2)], [.cells [vS s.name, vL (s.ins.map inAV), vL (s.res.map resAV), vL (s.outs.map prtAV)], .cells [vS ([]), .own [], .own [], .own []], .cells [vS s.name, .own (s.ins.map inAV), .own (ys.map resAV), .own []]], m)) (fun ⟨i2, ys⟩ => 0 ≤ i2 ∧ i2 ≤ s.res.length ∧ ys = s.res.take i2.toNat) (fun ⟨i2, ys⟩ => s.res.length - i2.toNat) (0, []) ⟨rfl, rfl⟩ ?_ ?_
 · try dsimp only
   exact ⟨by omega, by omega, rfl⟩
 rintro ⟨i2, ys⟩ hI2
 dsimp only at hI2
 have hyl : (ys.length : Int) = i2 := by rw [hI2.2.2, List.length_take]; omega
 refine sq ?_
 refine an (fun h2 => ?_) (fun h2 => ?_)
 · have hp6 := (hs.r _ (gI_mem hI2.1 h2)).1
   refine sq ?_
   refine ix (by omega) ?_
   refine sq ?_
   refine ln ?_
   refine lp (σ := Int × List (Str × Exp)) [] [1, 2, 3, 8, 36, 37, 38, 48, 49, 50] 5 (fun ⟨k, ps⟩ => ([(1, .loc 0 0), (2, .loc 1 0), (3, .loc 2 0), (8, .loc 4 0), (36, vL (s.res.map resAV)), (37, vI (s.res.length : Int)), (38, vI i2), (48, vL (((gI s.res i2).parts).map prtAV)), (49, vI (((gI s.res i2).parts).length : Int)), (50, vI k)], [.cells [vS s.name, vL (s.ins.map inAV), vL (s.res.map resAV), vL (s.outs.map prtAV)], .cells [vS ([]), .own [], .own [], .own []], .cells [vS s.name, .own (s.ins.map inAV), .own (ys.map resAV), .own []], .cells [vS ((gI s.res i2).kind), vS ((gI s.res i2).name), vL (((gI s.res i2).parts).map prtAV)], .cells [vS ((gI s.res i2).kind), vS ((gI s.res i2).name), .own (ps.map prtAV)]], m)) (fun ⟨k, ps⟩ => 0 ≤ k ∧ k ≤ (gI s.res i2).parts.length ∧ ps = (gI s.res i2).parts.take k.toNat) (fun ⟨k, ps⟩ => (gI s.res i2).parts.length - k.toNat) (0, []) ⟨rfl, rfl⟩ ?_ ?_
   · try dsimp only
     exact ⟨by omega, by omega, rfl⟩
   rintro ⟨k, ps⟩ hI3
   dsimp only at hI3
   have hpl : (ps.length : Int) = k := by rw [hI3.2.2, List.length_take]; omega
   refine sq ?_
   refine an (fun h3 => ?_) (fun h3 => ?_)
   · refine sq ?_
     refine ix (by omega) ?_
     refine rgA tbOk Try.mixed (σ := Unit) (.f 0 (.f 2 (.f 4 (.o 1 (.o 3 (.s 5 (.s 6 (.s 7 (.s 8 (.s 9 (.f 10 (.s 11 .d))))))) (.o 5 (.o 3 (.s 6 (.s 7 (.s 8 (.s 9 (.f 10 (.s 11 .d)))))) (.o 6 (.s 3 (.s 7 (.s 8 (.s 9 (.f 10 (.s 11 .d)))))) .z)) .z)) (.o 3 (.o 1 (.s 5 (.s 6 (.s 7 (.s 8 (.s 9 (.f 10 (.s 11 .d))))))) (.o 5 (.o 1 (.s 6 (.s 7 (.s 8 (.s 9 (.f 10 (.s 11 .d)))))) (.o 6 (.o 1 (.s 7 (.s 8 (.s 9 (.f 10 (.s 11 .d))))) (.o 7 (.o 1 (.s 8 (.s 9 (.f 10 (.s 11 .d)))) (.o 8 (.s 1 (.s 9 (.f 10 (.s 11 .d)))) .z)) .z)) .z)) .z)) (.o 5 (.o 1 (.o 3 (.s 6 (.s 7 (.s 8 (.s 9 (.f 10 (.s 11 .d)))))) (.o 6 (.s 3 (.s 7 (.s 8 (.s 9 (.f 10 (.s 11 .d)))))) .z)) (.o 3 (.o 1 (.s 6 (.s 7 (.s 8 (.s 9 (.f 10 (.s 11 .d)))))) (.o 6 (.o 1 (.s 7 (.s 8 (.s 9 (.f 10 (.s 11 .d))))) (.o 7 (.o 1 (.s 8 (.s 9 (.f 10 (.s 11 .d)))) (.o 8 (.s 1 (.s 9 (.f 10 (.s 11 .d)))) .z)) .z)) .z)) (.o 6 (.o 1 (.s 3 (.s 7 (.s 8 (.s 9 (.f 10 (.s 11 .d)))))) (.o 3 (.o 1 (.s 7 (.s 8 (.s 9 (.f 10 (.s 11 .d))))) (.o 7 (.o 1 (.s 8 (.s 9 (.f 10 (.s 11 .d)))) (.o 8 (.s 1 (.s 9 (.f 10 (.s 11 .d)))) .z)) .z)) .z)) .z))) .z)))))) [] [1, 2, 3, 8, 36, 37, 38, 48, 49, 50] 6 (fun _ => ([(1, .loc 0 0), (2, .loc 1 0), (3, .loc 2 0), (8, .loc 4 0), (36, vL (s.res.map resAV)), (37, vI (s.res.length : Int)), (38, vI i2), (48, vL (((gI s.res i2).parts).map prtAV)), (49, vI (((gI s.res i2).parts).length : Int)), (50, vI k)], [.cells [vS s.name, vL (s.ins.map inAV), vL (s.res.map resAV), vL (s.outs.map prtAV)], .cells [vS ([]), .own [], .own [], .own []], .cells [vS s.name, .own (s.ins.map inAV), .own (ys.map resAV), .own []], .cells [vS ((gI s.res i2).kind), vS ((gI s.res i2).name), vL (((gI s.res i2).parts).map prtAV)], .cells [vS ((gI s.res i2).kind), vS ((gI s.res i2).name), .own ((ps ++ ([(gI ((gI s.res i2).parts) k)] : List (Str × Exp))).map prtAV)], .cells [vS ((gI ((gI s.res i2).parts) k).1), vI (((gI ((gI s.res i2).parts) k).2).kind), vI ((((gI ((gI s.res i2).parts) k).2).v).kind), vI ((((gI ((gI s.res i2).parts) k).2).v).n), vS ((((gI ((gI s.res i2).parts) k).2).v).s), vL (((((gI ((gI s.res i2).parts) k).2).v).l).map valIn), vL (((((gI ((gI s.res i2).parts) k).2).v).f).map fldIn), vS (((gI ((gI s.res i2).parts) k).2).s), vS (((gI ((gI s.res i2).parts) k).2).t), vL ((((gI ((gI s.res i2).parts) k).2).a).map expIn), vL ((((gI ((gI s.res i2).parts) k).2).n).map strAV)]], m)) (fun _ => True) (by decide +kernel) ?_ ?_
     · rintro _ hy14
       try dsimp only at hy14
       refine an (by omega) ?_
       refine ⟨(k + 1, ps ++ ([(gI ((gI s.res i2).parts) k)] : List (Str × Exp))), ⟨rfl, rfl⟩, ?_, ?_⟩
       · try dsimp only
         exact ⟨by omega, by omega, by rw [take_succ_gI hI3.1 (by assumption), ← hI3.2.2]⟩
       try dsimp only
       omega
     repeat' first
      | refine ⟨(), ⟨rfl, rfl⟩, trivial⟩
      | refine call0 (fun _ => u_CopyExpr ((gI ((gI s.res i2).parts) k).2) (exF_sz (by first | exact (hs.r _ (gI_mem hI2.1 (by assumption))).2 _ (gI_mem hI3.1 (by assumption)) | exact hs.o _ (gI_mem hI3.1 (by assumption))))) rfl ?_
      | refine ap prtAV ps ([(gI ((gI s.res i2).parts) k)] : List (Str × Exp)) rfl rfl (fun _ => ⟨rfl, rfl⟩) (by (simp only [List.length_append, List.length_cons, List.length_nil]; omega)) ?_
      | refine ⟨?_, ?_, ?_, trivial⟩
      | refine ⟨?_, ?_, trivial⟩
   refine ap resAV ys ([(⟨(gI s.res i2).kind, (gI s.res i2).name, ps⟩ : ResT)] : List ResT) rfl rfl (fun _ => ⟨rfl, rfl⟩) (by (simp only [List.length_append, List.length_cons, List.length_nil]; omega)) ?_
   refine an (by omega) ?_
   refine ⟨(i2 + 1, ys ++ ([(⟨(gI s.res i2).kind, (gI s.res i2).name, ps⟩ : ResT)] : List ResT)), ⟨rfl, rfl⟩, ?_, ?_⟩
   · try dsimp only
     have hps : ps = (gI s.res i2).parts := by have := hI3.2.2; rwa [take_full (by omega)] at this
     exact ⟨by omega, by omega, by rw [take_succ_gI hI2.1 (by assumption), ← hI2.2.2, hps]⟩
   try dsimp only
   omega
 obtain rfl : ys = s.res := by have := hI2.2.2; rwa [take_full (by omega)] at this
 refine sq ?_
 refine ln ?_
 refine lp (σ := Int × List (Str × Exp)) [] [2, 3, 74, 75, 76] 3 (fun ⟨i3, zs⟩ => ([(2, .loc 1 0), (3, .loc 2 0), (74, vL (s.outs.map prtAV)), (75, vI (s.outs.length : Int)), (76, vI i3)], [.cells [vS s.name, vL (s.ins.map inAV), vL (s.res.map resAV), vL (s.outs.map prtAV)], .cells [vS ([]), .own [], .own [], .own []], .cells [vS s.name, .own (s.ins.map inAV), .own (s.res.map resAV), .own (zs.map prtAV)]], m)) (fun ⟨i3, zs⟩ => 0 ≤ i3 ∧ i3 ≤ s.outs.length ∧ zs = s.outs.take i3.toNat) (fun ⟨i3, zs⟩ => s.outs.length - i3.toNat) (0, []) ⟨rfl, rfl⟩ ?_ ?_
 · try dsimp only
   exact ⟨by omega, by omega, rfl⟩
 rintro ⟨i3, zs⟩ hI3
 dsimp only at hI3
 have hzl : (zs.length : Int) = i3 := by rw [hI3.2.2, List.length_take]; omega
 refine sq ?_
 refine an (fun h4 => ?_) (fun h4 => ?_)
 · refine sq ?_
   refine ix (by omega) ?_
   refine rgA tbOk Try.mixed (σ := Unit) (.f 0 (.f 2 (.f 4 (.o 1 (.o 3 (.s 5 (.s 6 (.s 7 (.s 8 (.s 9 (.f 10 (.s 11 .d))))))) (.o 5 (.o 3 (.s 6 (.s 7 (.s 8 (.s 9 (.f 10 (.s 11 .d)))))) (.o 6 (.s 3 (.s 7 (.s 8 (.s 9 (.f 10 (.s 11 .d)))))) .z)) .z)) (.o 3 (.o 1 (.s 5 (.s 6 (.s 7 (.s 8 (.s 9 (.f 10 (.s 11 .d))))))) (.o 5 (.o 1 (.s 6 (.s 7 (.s 8 (.s 9 (.f 10 (.s 11 .d)))))) (.o 6 (.o 1 (.s 7 (.s 8 (.s 9 (.f 10 (.s 11 .d))))) (.o 7 (.o 1 (.s 8 (.s 9 (.f 10 (.s 11 .d)))) (.o 8 (.s 1 (.s 9 (.f 10 (.s 11 .d)))) .z)) .z)) .z)) .z)) (.o 5 (.o 1 (.o 3 (.s 6 (.s 7 (.s 8 (.s 9 (.f 10 (.s 11 .d)))))) (.o 6 (.s 3 (.s 7 (.s 8 (.s 9 (.f 10 (.s 11 .d)))))) .z)) (.o 3 (.o 1 (.s 6 (.s 7 (.s 8 (.s 9 (.f 10 (.s 11 .d)))))) (.o 6 (.o 1 (.s 7 (.s 8 (.s 9 (.f 10 (.s 11 .d))))) (.o 7 (.o 1 (.s 8 (.s 9 (.f 10 (.s 11 .d)))) (.o 8 (.s 1 (.s 9 (.f 10 (.s 11 .d)))) .z)) .z)) .z)) (.o 6 (.o 1 (.s 3 (.s 7 (.s 8 (.s 9 (.f 10 (.s 11 .d)))))) (.o 3 (.o 1 (.s 7 (.s 8 (.s 9 (.f 10 (.s 11 .d))))) (.o 7 (.o 1 (.s 8 (.s 9 (.f 10 (.s 11 .d)))) (.o 8 (.s 1 (.s 9 (.f 10 (.s 11 .d)))) .z)) .z)) .z)) .z))) .z)))))) [] [2, 3, 74, 75, 76] 4 (fun _ => ([(2, .loc 1 0), (3, .loc 2 0), (74, vL (s.outs.map prtAV)), (75, vI (s.outs.length : Int)), (76, vI i3)], [.cells [vS s.name, vL (s.ins.map inAV), vL (s.res.map resAV), vL (s.outs.map prtAV)], .cells [vS ([]), .own [], .own [], .own []], .cells [vS s.name, .own (s.ins.map inAV), .own (s.res.map resAV), .own ((zs ++ ([(gI s.outs i3)] : List (Str × Exp))).map prtAV)], .cells [vS ((gI s.outs i3).1), vI (((gI s.outs i3).2).kind), vI ((((gI s.outs i3).2).v).kind), vI ((((gI s.outs i3).2).v).n), vS ((((gI s.outs i3).2).v).s), vL (((((gI s.outs i3).2).v).l).map valIn), vL (((((gI s.outs i3).2).v).f).map fldIn), vS (((gI s.outs i3).2).s), vS (((gI s.outs i3).2).t), vL ((((gI s.outs i3).2).a).map expIn), vL ((((gI s.outs i3).2).n).map strAV)]], m)) (fun _ => True) (by decide +kernel) ?_ ?_
   · rintro _ hy21
     try dsimp only at hy21
     refine an (by omega) ?_
     refine ⟨(i3 + 1, zs ++ ([(gI s.outs i3)] : List (Str × Exp))), ⟨rfl, rfl⟩, ?_, ?_⟩
     · try dsimp only
       exact ⟨by omega, by omega, by rw [take_succ_gI hI3.1 (by assumption), ← hI3.2.2]⟩
     try dsimp only
     omega
   repeat' first
    | refine ⟨(), ⟨rfl, rfl⟩, trivial⟩
    | refine call0 (fun _ => u_CopyExpr ((gI s.outs i3).2) (exF_sz (by first | exact (hs.r _ (gI_mem hI2.1 (by assumption))).2 _ (gI_mem hI3.1 (by assumption)) | exact hs.o _ (gI_mem hI3.1 (by assumption))))) rfl ?_
    | refine ap prtAV zs ([(gI s.outs i3)] : List (Str × Exp)) rfl rfl (fun _ => ⟨rfl, rfl⟩) (by (simp only [List.length_append, List.length_cons, List.length_nil]; omega)) ?_
    | refine ⟨?_, ?_, ?_, trivial⟩
    | refine ⟨?_, ?_, trivial⟩
 refine rt0 rfl fun _ => ?_
 show K (.agg [.str s.name, .slice false (s.ins.map inAV), .slice false (s.res.map resAV), .slice false (zs.map prtAV)]) m
 have hz : zs = s.outs := by have := hI3.2.2; rwa [take_full (by omega)] at this
 rw [hz]; exact hK
end Go.Proofs
end
section
namespace Go.Proofs
open Go Go.Aw Go.Sx
set_option maxRecDepth 100000
def onceF (l : List Int) (n : Int) : List Int := if n ∈ l then l else l ++ [n]
theorem once_step {l : List Int} {n i : Int} (h0 : 0 ≤ i) (hi : i < l.length) (h : n ∉ l.take i.toNat) (hn : gI l i ≠ n) : n ∉ l.take (i + 1).toNat := by
  rw [take_succ_gI h0 hi, List.mem_append, List.mem_singleton]
  rintro (q | q)
  · exact h q
  · exact hn q.symm
theorem onceF_len (l : List Int) (n : Int) : (onceF l n).length ≤ l.length + 1 := by unfold onceF; split <;> simp
theorem u_add (l : List Int) (n : Int) (hl : l.length ≤ 1000000) (m : AMem)  (K : AV → AMem → Prop) (hK : K (.slice true ((onceF l n).map intAV)) m) : ACallsO Try.prog 35 0 [.slice true (l.map intAV), .int .i64 n] m K := by
 refine enterO (j := 0) (c := cf [1000016] [] [] [] [] []) (vs := [.own (l.map intAV), .av (.int .i64 n)]) (L := []) (m := m) false tbOk Try.mixed Try.func35 rfl (k := 2) (by show fnOk [] _ _ _ = true; decide +kernel) rfl (Good.nil m) ?_
 refine sq ?_
 refine ln ?_
 refine lp (σ := Int) [] [0, 1, 7, 8, 9] 0 (fun i => ([(0, .own (l.map intAV)), (1, vI n), (7, vL (l.map intAV)), (8, vI (l.length : Int)), (9, vI i)], [], m)) (fun i => 0 ≤ i ∧ i ≤ l.length ∧ n ∉ l.take i.toNat) (fun i => l.length - i.toNat) (0) ⟨rfl, rfl⟩ ?_ ?_
 · try dsimp only
   exact ⟨by omega, by omega, by simp⟩
 rintro i hI
 refine sq ?_
 refine an (fun h1 => ?_) (fun h1 => ?_)
 · refine sq ?_
   refine ix (by omega) ?_
   refine an (fun h2 => ?_) (fun h2 => ?_)
   · refine rt0 rfl fun _ => ?_
     show K (.slice true (l.map intAV)) m
     have q : onceF l n = l := if_pos (by rw [← h2]; exact gI_mem hI.1 h1)
     rw [q] at hK; exact hK
   refine an (by omega) ?_
   refine ⟨(i + 1), ⟨rfl, rfl⟩, ?_, ?_⟩
   · try dsimp only
     exact ⟨by omega, by omega, once_step hI.1 h1 hI.2.2 h2⟩
   try dsimp only
   omega
 refine ap intAV l ([n] : List Int) rfl rfl (fun _ => ⟨rfl, rfl⟩) (by (simp only [List.length_append, List.length_cons, List.length_nil]; omega)) ?_
 refine rt0 rfl fun _ => ?_
 show K (.slice true ((l ++ ([n] : List Int)).map intAV)) m
 have q : onceF l n = l ++ [n] := if_neg (by have := hI.2.2; rwa [take_full (by omega)] at this)
 rw [q] at hK; exact hK
end Go.Proofs
end
section
namespace Go.Proofs
open Go Go.Aw Go.Sx
set_option maxRecDepth 100000
structure Lk3 where
  er : Int
  st : List Int
  zs : List (List Int)
def lkAt (S : StkT) (W : List StkT) (e : Exp) : Int :=
  if e.kind = 2 then idxF (S.ins.map Prod.fst) e.s
  else if e.kind = 3 then idxF (S.res.map ResT.name) e.s
  else if e.kind = 4 then (if 0 ≤ idxF (W.map StkT.name) e.s then (if idxF ((gI W (idxF (W.map StkT.name) e.s)).outs.map Prod.fst) e.t < 0 then -1 else idxF (W.map StkT.name) e.s) else idxF (W.map StkT.name) e.s)
  else 0
def look (S : StkT) (W : List StkT) (inn : Int) (σ : Lk3) (e : Exp) : Lk3 :=
  ⟨if lkAt S W e < 0 ∧ σ.er = 0 then 7 else σ.er,
   if e.kind = 4 ∧ 0 ≤ idxF (W.map StkT.name) e.s then onceF σ.st (idxF (W.map StkT.name) e.s) else σ.st,
   if e.kind = 3 ∧ 0 ≤ idxF (S.res.map ResT.name) e.s ∧ 0 ≤ inn then σ.zs.set inn.toNat (onceF (gI σ.zs inn) (idxF (S.res.map ResT.name) e.s)) else σ.zs⟩
structure Bd3 (n : Int) (nr : Nat) (σ : Lk3) : Prop where
  s : (σ.st.length : Int) ≤ n
  z : ∀ z ∈ σ.zs, (z.length : Int) ≤ n
  l : σ.zs.length = nr
theorem Bd3.mono {n n' : Int} {nr : Nat} {σ : Lk3} (h : Bd3 n nr σ) (hn : n ≤ n') : Bd3 n' nr σ := ⟨by have := h.s; omega, fun z hz => by have := h.z z hz; omega, h.l⟩
theorem Bd3.look {n : Int} {nr : Nat} {σ : Lk3} (h : Bd3 n nr σ) (S : StkT) (W : List StkT) (inn : Int) (hi : inn < nr) (e : Exp) : Bd3 (n + 1) nr (look S W inn σ e) := by
  have hs := h.s
  refine ⟨?_, fun z hz => ?_, ?_⟩
  · show ((if _ then _ else _ : List Int).length : Int) ≤ _
    split
    · have := onceF_len σ.st (idxF (W.map StkT.name) e.s); omega
    · omega
  · replace hz : z ∈ (if e.kind = 3 ∧ 0 ≤ idxF (S.res.map ResT.name) e.s ∧ 0 ≤ inn then σ.zs.set inn.toNat (onceF (gI σ.zs inn) (idxF (S.res.map ResT.name) e.s)) else σ.zs) := hz
    split at hz
    · rename_i c
      rcases List.mem_or_eq_of_mem_set hz with hz | rfl
      · have := h.z z hz; omega
      · have h1 := onceF_len (gI σ.zs inn) (idxF (S.res.map ResT.name) e.s)
        have h2 := h.z _ (gI_mem c.2.2 (by rw [h.l]; exact hi))
        omega
    · have := h.z z hz; omega
  · show (if _ then _ else _ : List (List Int)).length = _
    split
    · rw [List.length_set]; exact h.l
    · exact h.l
set_option maxHeartbeats 4000000 in
theorem u_look (S : StkT) (W : List StkT) (nd od : List (List Int)) (inn : Int) (nr : Nat) (p1 pin p8 pj p2 pw p7 p6 : Nat) (σ : Lk3) (e : Exp) (n : Int) (hi : inn < nr) (hB : Bd3 n nr σ) (hn : n ≤ 1000000) (hW : W.length ≤ 1000) (m : AMem) (gd : Gd [p1, pin, pj, p8, pw, p2, p7, p6] m) (K : AV → AMem → Prop) (hK : K (.tuple []) (AMem.wth m [(p1, .cells [.str S.name, .slice false (S.ins.map inAV), .slice false (S.res.map resAV), .slice false (S.outs.map prtAV)]), (pin, .cells [.int .i64 inn]), (pj, .cells (ownC intAV ((look S W inn σ e).zs))), (p8, .cells [.ms ⟨pj, 0, none⟩ nr nr]), (pw, .cells [.slice true (W.map stkAV), .slice true (nd.map (lstAV intAV)), .slice true (od.map (lstAV intAV))]), (p2, .cells [.ptr ⟨pw, 0, none⟩]), (p7, .cells [.slice true (((look S W inn σ e).st).map intAV)]), (p6, .cells [.err 61 ((look S W inn σ e).er)])])) : ACalls Try.prog 34 [expTop e, .ptr ⟨p1, 0, none⟩, .ptr ⟨pin, 0, none⟩, .ptr ⟨p8, 0, none⟩, .ptr ⟨p2, 0, none⟩, .ptr ⟨p7, 0, none⟩, .ptr ⟨p6, 0, none⟩] (AMem.wth m [(p1, .cells [.str S.name, .slice false (S.ins.map inAV), .slice false (S.res.map resAV), .slice false (S.outs.map prtAV)]), (pin, .cells [.int .i64 inn]), (pj, .cells (ownC intAV σ.zs)), (p8, .cells [.ms ⟨pj, 0, none⟩ nr nr]), (pw, .cells [.slice true (W.map stkAV), .slice true (nd.map (lstAV intAV)), .slice true (od.map (lstAV intAV))]), (p2, .cells [.ptr ⟨pw, 0, none⟩]), (p7, .cells [.slice true (σ.st.map intAV)]), (p6, .cells [.err 61 σ.er])]) K := by
 have hzl := hB.l
 refine enter (c := cf [1000036, 1000038, 1000052, 1000054, 1000074] [] [7, 15] [8999, 10999, 13999] [8, 10, 13] [p1, pin, pj, p8, pw, p2, p7, p6]) (vs := [.av (expTop e), .loc 0 0, .loc 1 0, .loc 3 0, .loc 5 0, .loc 6 0, .loc 7 0]) (L := [.cells [vS S.name, vL (S.ins.map inAV), vL (S.res.map resAV), vL (S.outs.map prtAV)], .cells [vI inn], .obj (.cells (ownC intAV σ.zs)), .cells [.ms 2 nr nr], .cells [.own (W.map stkAV), .own (nd.map (lstAV intAV)), .own (od.map (lstAV intAV))], .cells [.loc 4 0], .cells [.own (σ.st.map intAV)], .cells [.av (.err 61 σ.er)]]) (m := m) false tbOk Try.mixed Try.func34 rfl (k := 7) (by show fnOk [8999, 10999, 13999] _ _ _ = true; decide +kernel) rfl (gd.good rfl) ?_
 refine sq ?_
 refine an (fun h1 => ?_) (fun h1 => ?_)
 · refine call0 (fun _ => u_findInput S.ins e.s) rfl ?_
   refine mg [6] 73 ((decide (idxF (S.ins.map Prod.fst) e.s < 0)) && (σ.er == 0)) ?_ ?_
   · repeat' first
      | exact ⟨⟨_, rfl, by grind [SB.val]⟩, rfl⟩
      | refine an (fun _ => ?_) (fun _ => ?_)
   refine an (fun h2 => ?_) (fun h2 => ?_)
   · replace h2 : (idxF (S.ins.map Prod.fst) e.s < 0) ∧ (σ.er = 0) := ⟨(of_decide_eq_true (bandL h2)), (eq_of_beq (bandR h2))⟩
     refine mke tbOk 61 rfl rfl ?_
     have e0 : look S W inn σ e = ((⟨7, σ.st, σ.zs⟩ : Lk3) : Lk3) := by
      simp only [look, lkAt]; grind
     rw [e0] at hK
     exact rt rfl fun _ => hK
   replace h2 : (0 ≤ idxF (S.ins.map Prod.fst) e.s) ∨ (σ.er ≠ 0) := ((bandF h2).imp (fun q => (Int.not_lt.1 (of_decide_eq_false q))) (fun q => (ne_of_beq_false q)))
   have e0 : look S W inn σ e = ((⟨σ.er, σ.st, σ.zs⟩ : Lk3) : Lk3) := by
    simp only [look, lkAt]; grind
   rw [e0] at hK
   exact rt rfl fun _ => hK
 refine an (fun h3 => ?_) (fun h3 => ?_)
 · refine call0 (fun _ => u_findResource S.res e.s) rfl ?_
   refine mg [2, 3, 6, 8] 30 ((decide (0 ≤ idxF (S.res.map ResT.name) e.s)) && (decide (0 ≤ inn))) ?_ ?_
   · repeat' first
      | exact ⟨⟨_, rfl, by grind [SB.val]⟩, rfl⟩
      | refine an (fun _ => ?_) (fun _ => ?_)
   refine an (fun h4 => ?_) (fun h4 => ?_)
   · replace h4 : (0 ≤ idxF (S.res.map ResT.name) e.s) ∧ (0 ≤ inn) := ⟨(of_decide_eq_true (bandL h4)), (of_decide_eq_true (bandR h4))⟩
     refine rgA tbOk Try.mixed (σ := Unit) (.f 6 (.o 0 (.o 1 (.o 2 (.s 3 (.s 4 (.s 5 (.s 7 (.s 8 (.s 9 .d)))))) (.o 3 (.s 2 (.s 4 (.s 5 (.s 7 (.s 8 (.s 9 .d)))))) .z)) (.o 2 (.o 1 (.s 3 (.s 4 (.s 5 (.s 7 (.s 8 (.s 9 .d)))))) (.o 3 (.o 1 (.s 4 (.s 5 (.s 7 (.s 8 (.s 9 .d))))) (.o 4 (.o 1 (.s 5 (.s 7 (.s 8 (.s 9 .d)))) (.o 5 (.o 1 (.s 7 (.s 8 (.s 9 .d))) (.o 7 (.s 1 (.s 8 (.s 9 .d))) .z)) .z)) .z)) .z)) (.o 3 (.o 1 (.s 2 (.s 4 (.s 5 (.s 7 (.s 8 (.s 9 .d)))))) (.o 2 (.o 1 (.s 4 (.s 5 (.s 7 (.s 8 (.s 9 .d))))) (.o 4 (.o 1 (.s 5 (.s 7 (.s 8 (.s 9 .d)))) (.o 5 (.o 1 (.s 7 (.s 8 (.s 9 .d))) (.o 7 (.s 1 (.s 8 (.s 9 .d))) .z)) .z)) .z)) .z)) .z))) (.o 1 (.o 0 (.o 2 (.s 3 (.s 4 (.s 5 (.s 7 (.s 8 (.s 9 .d)))))) (.o 3 (.s 2 (.s 4 (.s 5 (.s 7 (.s 8 (.s 9 .d)))))) .z)) (.o 2 (.o 0 (.s 3 (.s 4 (.s 5 (.s 7 (.s 8 (.s 9 .d)))))) (.o 3 (.o 0 (.s 4 (.s 5 (.s 7 (.s 8 (.s 9 .d))))) (.o 4 (.o 0 (.s 5 (.s 7 (.s 8 (.s 9 .d)))) (.o 5 (.o 0 (.s 7 (.s 8 (.s 9 .d))) (.o 7 (.s 0 (.s 8 (.s 9 .d))) .z)) .z)) .z)) .z)) (.o 3 (.o 0 (.s 2 (.s 4 (.s 5 (.s 7 (.s 8 (.s 9 .d)))))) (.o 2 (.o 0 (.s 4 (.s 5 (.s 7 (.s 8 (.s 9 .d))))) (.o 4 (.o 0 (.s 5 (.s 7 (.s 8 (.s 9 .d)))) (.o 5 (.o 0 (.s 7 (.s 8 (.s 9 .d))) (.o 7 (.s 0 (.s 8 (.s 9 .d))) .z)) .z)) .z)) .z)) .z))) (.o 2 (.o 0 (.o 1 (.s 3 (.s 4 (.s 5 (.s 7 (.s 8 (.s 9 .d)))))) (.o 3 (.o 1 (.s 4 (.s 5 (.s 7 (.s 8 (.s 9 .d))))) (.o 4 (.o 1 (.s 5 (.s 7 (.s 8 (.s 9 .d)))) (.o 5 (.o 1 (.s 7 (.s 8 (.s 9 .d))) (.o 7 (.s 1 (.s 8 (.s 9 .d))) .z)) .z)) .z)) .z)) (.o 1 (.o 0 (.s 3 (.s 4 (.s 5 (.s 7 (.s 8 (.s 9 .d)))))) (.o 3 (.o 0 (.s 4 (.s 5 (.s 7 (.s 8 (.s 9 .d))))) (.o 4 (.o 0 (.s 5 (.s 7 (.s 8 (.s 9 .d)))) (.o 5 (.o 0 (.s 7 (.s 8 (.s 9 .d))) (.o 7 (.s 0 (.s 8 (.s 9 .d))) .z)) .z)) .z)) .z)) (.o 3 (.o 0 (.o 1 (.s 4 (.s 5 (.s 7 (.s 8 (.s 9 .d))))) (.o 4 (.o 1 (.s 5 (.s 7 (.s 8 (.s 9 .d)))) (.o 5 (.o 1 (.s 7 (.s 8 (.s 9 .d))) (.o 7 (.s 1 (.s 8 (.s 9 .d))) .z)) .z)) .z)) (.o 1 (.o 0 (.s 4 (.s 5 (.s 7 (.s 8 (.s 9 .d))))) (.o 4 (.o 0 (.s 5 (.s 7 (.s 8 (.s 9 .d)))) (.o 5 (.o 0 (.s 7 (.s 8 (.s 9 .d))) (.o 7 (.s 0 (.s 8 (.s 9 .d))) .z)) .z)) .z)) (.o 4 (.o 0 (.o 1 (.s 5 (.s 7 (.s 8 (.s 9 .d)))) (.o 5 (.o 1 (.s 7 (.s 8 (.s 9 .d))) (.o 7 (.s 1 (.s 8 (.s 9 .d))) .z)) .z)) (.o 1 (.o 0 (.s 5 (.s 7 (.s 8 (.s 9 .d)))) (.o 5 (.o 0 (.s 7 (.s 8 (.s 9 .d))) (.o 7 (.s 0 (.s 8 (.s 9 .d))) .z)) .z)) (.o 5 (.o 0 (.o 1 (.s 7 (.s 8 (.s 9 .d))) (.o 7 (.s 1 (.s 8 (.s 9 .d))) .z)) (.o 1 (.o 0 (.s 7 (.s 8 (.s 9 .d))) (.o 7 (.s 0 (.s 8 (.s 9 .d))) .z)) (.o 7 (.o 0 (.s 1 (.s 8 (.s 9 .d))) (.o 1 (.s 0 (.s 8 (.s 9 .d))) .z)) .z))) .z))) .z))) .z))) (.o 3 (.o 0 (.o 1 (.s 2 (.s 4 (.s 5 (.s 7 (.s 8 (.s 9 .d)))))) (.o 2 (.o 1 (.s 4 (.s 5 (.s 7 (.s 8 (.s 9 .d))))) (.o 4 (.o 1 (.s 5 (.s 7 (.s 8 (.s 9 .d)))) (.o 5 (.o 1 (.s 7 (.s 8 (.s 9 .d))) (.o 7 (.s 1 (.s 8 (.s 9 .d))) .z)) .z)) .z)) .z)) (.o 1 (.o 0 (.s 2 (.s 4 (.s 5 (.s 7 (.s 8 (.s 9 .d)))))) (.o 2 (.o 0 (.s 4 (.s 5 (.s 7 (.s 8 (.s 9 .d))))) (.o 4 (.o 0 (.s 5 (.s 7 (.s 8 (.s 9 .d)))) (.o 5 (.o 0 (.s 7 (.s 8 (.s 9 .d))) (.o 7 (.s 0 (.s 8 (.s 9 .d))) .z)) .z)) .z)) .z)) (.o 2 (.o 0 (.o 1 (.s 4 (.s 5 (.s 7 (.s 8 (.s 9 .d))))) (.o 4 (.o 1 (.s 5 (.s 7 (.s 8 (.s 9 .d)))) (.o 5 (.o 1 (.s 7 (.s 8 (.s 9 .d))) (.o 7 (.s 1 (.s 8 (.s 9 .d))) .z)) .z)) .z)) (.o 1 (.o 0 (.s 4 (.s 5 (.s 7 (.s 8 (.s 9 .d))))) (.o 4 (.o 0 (.s 5 (.s 7 (.s 8 (.s 9 .d)))) (.o 5 (.o 0 (.s 7 (.s 8 (.s 9 .d))) (.o 7 (.s 0 (.s 8 (.s 9 .d))) .z)) .z)) .z)) (.o 4 (.o 0 (.o 1 (.s 5 (.s 7 (.s 8 (.s 9 .d)))) (.o 5 (.o 1 (.s 7 (.s 8 (.s 9 .d))) (.o 7 (.s 1 (.s 8 (.s 9 .d))) .z)) .z)) (.o 1 (.o 0 (.s 5 (.s 7 (.s 8 (.s 9 .d)))) (.o 5 (.o 0 (.s 7 (.s 8 (.s 9 .d))) (.o 7 (.s 0 (.s 8 (.s 9 .d))) .z)) .z)) (.o 5 (.o 0 (.o 1 (.s 7 (.s 8 (.s 9 .d))) (.o 7 (.s 1 (.s 8 (.s 9 .d))) .z)) (.o 1 (.o 0 (.s 7 (.s 8 (.s 9 .d))) (.o 7 (.s 0 (.s 8 (.s 9 .d))) .z)) (.o 7 (.o 0 (.s 1 (.s 8 (.s 9 .d))) (.o 1 (.s 0 (.s 8 (.s 9 .d))) .z)) .z))) .z))) .z))) .z))) .z))))) [] [6, 8] 9 (fun _ => ([(6, .loc 7 0), (8, vI (idxF (S.res.map ResT.name) e.s))], [.cells [vS S.name, vL (S.ins.map inAV), vL (S.res.map resAV), vL (S.outs.map prtAV)], .cells [vI inn], .obj (.cells (ownC intAV (σ.zs.set (inn).toNat (onceF (gI σ.zs inn) (idxF (S.res.map ResT.name) e.s))))), .cells [.ms 2 nr nr], .cells [.own (W.map stkAV), .own (nd.map (lstAV intAV)), .own (od.map (lstAV intAV))], .cells [.loc 4 0], .cells [.own (σ.st.map intAV)], .cells [.av (.err 61 σ.er)], .cells [vI e.kind, vI e.v.kind, vI e.v.n, vS e.v.s, vL (e.v.l.map valIn), vL (e.v.f.map fldIn), vS e.s, vS e.t, vL (e.a.map expIn), vL (e.n.map strAV)]], m)) (fun _ => True) (by decide +kernel) ?_ ?_
     · rintro _ hy8
       try dsimp only at hy8
       refine mg [6] 73 ((decide (idxF (S.res.map ResT.name) e.s < 0)) && (σ.er == 0)) ?_ ?_
       · repeat' first
          | exact ⟨⟨_, rfl, by grind [SB.val]⟩, rfl⟩
          | refine an (fun _ => ?_) (fun _ => ?_)
       refine an (fun h5 => ?_) (fun h5 => ?_)
       · replace h5 : (idxF (S.res.map ResT.name) e.s < 0) ∧ (σ.er = 0) := ⟨(of_decide_eq_true (bandL h5)), (eq_of_beq (bandR h5))⟩
         refine mke tbOk 61 rfl rfl ?_
         have e0 : look S W inn σ e = ((⟨7, σ.st, σ.zs.set (inn).toNat (onceF (gI σ.zs inn) (idxF (S.res.map ResT.name) e.s))⟩ : Lk3) : Lk3) := by
          simp only [look, lkAt]; grind
         rw [e0] at hK
         exact rt rfl fun _ => hK
       replace h5 : (0 ≤ idxF (S.res.map ResT.name) e.s) ∨ (σ.er ≠ 0) := ((bandF h5).imp (fun q => (Int.not_lt.1 (of_decide_eq_false q))) (fun q => (ne_of_beq_false q)))
       have e0 : look S W inn σ e = ((⟨σ.er, σ.st, σ.zs.set (inn).toNat (onceF (gI σ.zs inn) (idxF (S.res.map ResT.name) e.s))⟩ : Lk3) : Lk3) := by
        simp only [look, lkAt]; grind
       rw [e0] at hK
       exact rt rfl fun _ => hK
     repeat' first
      | refine ⟨(), ⟨rfl, rfl⟩, trivial⟩
      | refine ldo tbOk intAV σ.zs rfl rfl rfl (by omega) ?_
      | refine callO (.own ((onceF (gI σ.zs inn) (idxF (S.res.map ResT.name) e.s)).map intAV)) rfl rfl rfl (fun bs mm K hK => u_add (gI σ.zs inn) (idxF (S.res.map ResT.name) e.s) (by have := hB.z (gI σ.zs inn) (gI_mem (i := inn) (by omega) (by omega)); omega) mm K hK) ?_
      | refine sto tbOk ((ownC intAV σ.zs).set (inn).toNat (.slice false ((gI σ.zs inn).map intAV))) (ownC intAV (σ.zs.set (inn).toNat (onceF (gI σ.zs inn) (idxF (S.res.map ResT.name) e.s)))) rfl rfl rfl rfl ⟨by omega, by simp only [List.length_set, ownC_len]; omega⟩ (own_set ..) ?_
      | refine an (by omega) ?_
      | refine ⟨?_, ?_, ?_, ?_, trivial⟩
      | refine ⟨?_, ?_, ?_, trivial⟩
      | refine ⟨?_, ?_, trivial⟩
   replace h4 : (idxF (S.res.map ResT.name) e.s < 0) ∨ (inn < 0) := ((bandF h4).imp (fun q => (Int.not_le.1 (of_decide_eq_false q))) (fun q => (Int.not_le.1 (of_decide_eq_false q))))
   refine mg [6] 73 ((decide (idxF (S.res.map ResT.name) e.s < 0)) && (σ.er == 0)) ?_ ?_
   · repeat' first
      | exact ⟨⟨_, rfl, by grind [SB.val]⟩, rfl⟩
      | refine an (fun _ => ?_) (fun _ => ?_)
   refine an (fun h6 => ?_) (fun h6 => ?_)
   · replace h6 : (idxF (S.res.map ResT.name) e.s < 0) ∧ (σ.er = 0) := ⟨(of_decide_eq_true (bandL h6)), (eq_of_beq (bandR h6))⟩
     refine mke tbOk 61 rfl rfl ?_
     have e0 : look S W inn σ e = ((⟨7, σ.st, σ.zs⟩ : Lk3) : Lk3) := by
      simp only [look, lkAt]; grind
     rw [e0] at hK
     exact rt rfl fun _ => hK
   replace h6 : (0 ≤ idxF (S.res.map ResT.name) e.s) ∨ (σ.er ≠ 0) := ((bandF h6).imp (fun q => (Int.not_lt.1 (of_decide_eq_false q))) (fun q => (ne_of_beq_false q)))
   have e0 : look S W inn σ e = ((⟨σ.er, σ.st, σ.zs⟩ : Lk3) : Lk3) := by
    simp only [look, lkAt]; grind
   rw [e0] at hK
   exact rt rfl fun _ => hK
 refine an (fun h7 => ?_) (fun h7 => ?_)
 · refine rgA tbOk Try.mixed (σ := Unit) (.f 5 (.o 0 (.f 1 (.f 2 (.f 3 (.o 4 (.s 6 (.s 7 (.s 8 .d))) (.o 6 (.s 4 (.s 7 (.s 8 .d))) .z))))) (.o 6 (.s 0 (.f 1 (.f 2 (.f 3 (.s 4 (.s 7 (.s 8 .d))))))) .z))) [] [4, 5, 6, 7, 8] 9 (fun _ => ([(4, .loc 5 0), (5, .loc 6 0), (6, .loc 7 0), (7, .loc 8 0), (8, vI (idxF (W.map StkT.name) e.s))], [.cells [vS S.name, vL (S.ins.map inAV), vL (S.res.map resAV), vL (S.outs.map prtAV)], .cells [vI inn], .obj (.cells (ownC intAV σ.zs)), .cells [.ms 2 nr nr], .cells [.own (W.map stkAV), .own (nd.map (lstAV intAV)), .own (od.map (lstAV intAV))], .cells [.loc 4 0], .cells [.own (σ.st.map intAV)], .cells [.av (.err 61 σ.er)], .cells [vI e.kind, vI e.v.kind, vI e.v.n, vS e.v.s, vL (e.v.l.map valIn), vL (e.v.f.map fldIn), vS e.s, vS e.t, vL (e.a.map expIn), vL (e.n.map strAV)]], m)) (fun _ => True) (by decide +kernel) ?_ ?_
   · rintro _ hy10
     try dsimp only at hy10
     refine an (fun h8 => ?_) (fun h8 => ?_)
     · have hge : idxF (W.map StkT.name) e.s < W.length := by
         rcases idxF_ge (l := W.map StkT.name) (s := e.s) with h | ⟨_, h⟩
         · omega
         · rwa [List.length_map] at h
       refine callO (.own ((onceF σ.st (idxF (W.map StkT.name) e.s)).map intAV)) rfl rfl rfl (fun bs mm K hK => u_add σ.st (idxF (W.map StkT.name) e.s) (by have := hB.s; omega) mm K hK) ?_
       refine rgA tbOk Try.mixed (σ := Unit) (.f 5 (.f 9 (.o 0 (.f 1 (.f 2 (.f 3 (.o 4 (.o 6 (.o 7 (.o 8 (.s 10 (.s 11 (.s 12 .d))) (.o 10 (.s 8 (.s 11 (.s 12 .d))) .z)) (.o 10 (.s 7 (.s 8 (.s 11 (.s 12 .d)))) .z)) (.o 10 (.s 6 (.s 7 (.s 8 (.s 11 (.s 12 .d))))) .z)) (.o 10 (.s 4 (.s 6 (.s 7 (.s 8 (.s 11 (.s 12 .d)))))) .z))))) (.o 10 (.s 0 (.f 1 (.f 2 (.f 3 (.s 4 (.s 6 (.s 7 (.s 8 (.s 11 (.s 12 .d)))))))))) .z)))) [] [6, 8, 67] 9 (fun _ => ([(6, .loc 7 0), (8, vI (idxF (W.map StkT.name) e.s)), (67, vB (decide (idxF (((gI W (idxF (W.map StkT.name) e.s)).outs).map Prod.fst) e.t < 0)))], [.cells [vS S.name, vL (S.ins.map inAV), vL (S.res.map resAV), vL (S.outs.map prtAV)], .cells [vI inn], .obj (.cells (ownC intAV σ.zs)), .cells [.ms 2 nr nr], .cells [.own (W.map stkAV), .own (nd.map (lstAV intAV)), .own (od.map (lstAV intAV))], .cells [.loc 4 0], .cells [.own ((onceF σ.st (idxF (W.map StkT.name) e.s)).map intAV)], .cells [.av (.err 61 σ.er)], .cells [vI e.kind, vI e.v.kind, vI e.v.n, vS e.v.s, vL (e.v.l.map valIn), vL (e.v.f.map fldIn), vS e.s, vS e.t, vL (e.a.map expIn), vL (e.n.map strAV)]], m)) (fun _ => True) (by decide +kernel) ?_ ?_
       · rintro _ hy13
         try dsimp only at hy13
         refine an (fun h9 => ?_) (fun h9 => ?_)
         · refine mg [6] 73 ((decide (-1 < 0)) && (σ.er == 0)) ?_ ?_
           · repeat' first
              | exact ⟨⟨_, rfl, by grind [SB.val]⟩, rfl⟩
              | refine an (fun _ => ?_) (fun _ => ?_)
           refine an (fun h10 => ?_) (fun h10 => ?_)
           · replace h10 : (-1 < 0) ∧ (σ.er = 0) := ⟨(of_decide_eq_true (bandL h10)), (eq_of_beq (bandR h10))⟩
             refine mke tbOk 61 rfl rfl ?_
             have e0 : look S W inn σ e = ((⟨7, (onceF σ.st (idxF (W.map StkT.name) e.s)), σ.zs⟩ : Lk3) : Lk3) := by
              simp only [look, lkAt]; grind
             rw [e0] at hK
             exact rt rfl fun _ => hK
           replace h10 : (0 ≤ -1) ∨ (σ.er ≠ 0) := ((bandF h10).imp (fun q => (Int.not_lt.1 (of_decide_eq_false q))) (fun q => (ne_of_beq_false q)))
           have e0 : look S W inn σ e = ((⟨σ.er, (onceF σ.st (idxF (W.map StkT.name) e.s)), σ.zs⟩ : Lk3) : Lk3) := by
            simp only [look, lkAt]; grind
           rw [e0] at hK
           exact rt rfl fun _ => hK
         refine mg [6] 73 ((decide (idxF (W.map StkT.name) e.s < 0)) && (σ.er == 0)) ?_ ?_
         · repeat' first
            | exact ⟨⟨_, rfl, by grind [SB.val]⟩, rfl⟩
            | refine an (fun _ => ?_) (fun _ => ?_)
         refine an (fun h11 => ?_) (fun h11 => ?_)
         · replace h11 : (idxF (W.map StkT.name) e.s < 0) ∧ (σ.er = 0) := ⟨(of_decide_eq_true (bandL h11)), (eq_of_beq (bandR h11))⟩
           refine mke tbOk 61 rfl rfl ?_
           have e0 : look S W inn σ e = ((⟨7, (onceF σ.st (idxF (W.map StkT.name) e.s)), σ.zs⟩ : Lk3) : Lk3) := by
            simp only [look, lkAt]; grind
           rw [e0] at hK
           exact rt rfl fun _ => hK
         replace h11 : (0 ≤ idxF (W.map StkT.name) e.s) ∨ (σ.er ≠ 0) := ((bandF h11).imp (fun q => (Int.not_lt.1 (of_decide_eq_false q))) (fun q => (ne_of_beq_false q)))
         have e0 : look S W inn σ e = ((⟨σ.er, (onceF σ.st (idxF (W.map StkT.name) e.s)), σ.zs⟩ : Lk3) : Lk3) := by
          simp only [look, lkAt]; grind
         rw [e0] at hK
         exact rt rfl fun _ => hK
       repeat' first
        | refine ⟨(), ⟨rfl, rfl⟩, trivial⟩
        | refine call0 (fun _ => u_findOutput ((gI W (idxF (W.map StkT.name) e.s)).outs) e.t) rfl ?_
        | refine ix (by omega) ?_
        | refine ⟨?_, ?_, trivial⟩
     refine mg [6] 73 ((decide (idxF (W.map StkT.name) e.s < 0)) && (σ.er == 0)) ?_ ?_
     · repeat' first
        | exact ⟨⟨_, rfl, by grind [SB.val]⟩, rfl⟩
        | refine an (fun _ => ?_) (fun _ => ?_)
     refine an (fun h12 => ?_) (fun h12 => ?_)
     · replace h12 : (idxF (W.map StkT.name) e.s < 0) ∧ (σ.er = 0) := ⟨(of_decide_eq_true (bandL h12)), (eq_of_beq (bandR h12))⟩
       refine mke tbOk 61 rfl rfl ?_
       have e0 : look S W inn σ e = ((⟨7, σ.st, σ.zs⟩ : Lk3) : Lk3) := by
        simp only [look, lkAt]; grind
       rw [e0] at hK
       exact rt rfl fun _ => hK
     replace h12 : (0 ≤ idxF (W.map StkT.name) e.s) ∨ (σ.er ≠ 0) := ((bandF h12).imp (fun q => (Int.not_lt.1 (of_decide_eq_false q))) (fun q => (ne_of_beq_false q)))
     have e0 : look S W inn σ e = ((⟨σ.er, σ.st, σ.zs⟩ : Lk3) : Lk3) := by
      simp only [look, lkAt]; grind
     rw [e0] at hK
     exact rt rfl fun _ => hK
   repeat' first
    | refine ⟨(), ⟨rfl, rfl⟩, trivial⟩
    | refine call0 (fun _ => u_findStack W e.s) rfl ?_
    | refine ⟨?_, ?_, trivial⟩
 refine mg [6] 73 ((decide (0 < 0)) && (σ.er == 0)) ?_ ?_
 · repeat' first
    | exact ⟨⟨_, rfl, by grind [SB.val]⟩, rfl⟩
    | refine an (fun _ => ?_) (fun _ => ?_)
 refine an (fun h13 => ?_) (fun h13 => ?_)
 · replace h13 : ((0 : Int) < 0) ∧ (σ.er = 0) := ⟨(of_decide_eq_true (bandL h13)), (eq_of_beq (bandR h13))⟩
   refine mke tbOk 61 rfl rfl ?_
   have e0 : look S W inn σ e = ((⟨7, σ.st, σ.zs⟩ : Lk3) : Lk3) := by
    simp only [look, lkAt]; grind
   rw [e0] at hK
   exact rt rfl fun _ => hK
 replace h13 : ((0 : Int) ≤ 0) ∨ (σ.er ≠ 0) := ((bandF h13).imp (fun q => (Int.not_lt.1 (of_decide_eq_false q))) (fun q => (ne_of_beq_false q)))
 have e0 : look S W inn σ e = ((⟨σ.er, σ.st, σ.zs⟩ : Lk3) : Lk3) := by
  simp only [look, lkAt]; grind
 rw [e0] at hK
 exact rt rfl fun _ => hK
end Go.Proofs
end
section
namespace Go.Proofs
open Go Go.Aw Go.Sx
set_option maxRecDepth 100000
mutual
def subsE : Exp → List Exp
  | .mk k v s t a n => .mk k v s t a n :: subsL a
def subsL : List Exp → List Exp
  | [] => []
  | e :: r => subsE e ++ subsL r
end
theorem subsE_eq (e : Exp) : subsE e = e :: subsL e.a := by cases e with | mk k v s t a n => simp only [subsE, Exp.a]
theorem subsL_drop {l : List Exp} {i : Int} (h0 : 0 ≤ i) (hi : i < l.length) : subsL (l.drop i.toNat) = subsE (gI l i) ++ subsL (l.drop (i + 1).toNat) := by rw [drop_gI h0 hi, subsL]
def walkS (S : StkT) (W : List StkT) (inn : Int) (σ : Lk3) (e : Exp) : Lk3 := (subsE e).foldl (look S W inn) σ
mutual
theorem subsE_len : ∀ e : Exp, ((subsE e).length : Int) = xcE e
  | .mk k v s t a n => by
    have h := subsL_len a
    simp only [subsE, xcE, List.length_cons]; omega
theorem subsL_len : ∀ l : List Exp, ((subsL l).length : Int) = xcL l
  | [] => by simp [subsL, xcL]
  | e :: r => by
    have h1 := subsE_len e
    have h2 := subsL_len r
    simp only [subsL, xcL, List.length_append]; omega
end
theorem Bd3.fold {nr : Nat} {S : StkT} {W : List StkT} {inn : Int} (hi : inn < nr) : ∀ (l : List Exp) {n : Int} {σ : Lk3}, Bd3 n nr σ → Bd3 (n + l.length) nr (l.foldl (Go.Proofs.look S W inn) σ)
  | [], n, σ, h => by simpa using h
  | e :: r, n, σ, h => by
    have h1 := Bd3.fold (S := S) (W := W) hi r (h.look S W inn hi e)
    rw [List.foldl_cons, List.length_cons]
    exact h1.mono (by omega)
theorem Bd3.walk {n : Int} {nr : Nat} {S : StkT} {W : List StkT} {inn : Int} (hi : inn < nr) {σ : Lk3} (h : Bd3 n nr σ) (e : Exp) : Bd3 (n + xcE e) nr (walkS S W inn σ e) := by
  have := Bd3.fold (S := S) (W := W) hi (subsE e) h
  rw [subsE_len] at this; exact this
set_option maxHeartbeats 4000000 in
theorem u_walk1 (S : StkT) (W : List StkT) (nd od : List (List Int)) (inn : Int) (nr : Nat) (p1 pin p8 pj p2 pw p7 p6 : Nat) (σ : Lk3) (e : Exp) (k : Nat) (n : Int) (ih : ∀ x : Exp, depE x < k → ∀ (p1 pin p8 pj p2 pw p7 p6 : Nat) (σ : Lk3) (n : Int), Bd3 n nr σ → n + xcE x ≤ 1000000 → ∀ (m : AMem), Gd [p1, pin, pj, p8, pw, p2, p7, p6] m → ∀ (K : AV → AMem → Prop), K (.tuple []) (AMem.wth m [(p1, .cells [.str S.name, .slice false (S.ins.map inAV), .slice false (S.res.map resAV), .slice false (S.outs.map prtAV)]), (pin, .cells [.int .i64 inn]), (pj, .cells (ownC intAV ((walkS S W inn σ x).zs))), (p8, .cells [.ms ⟨pj, 0, none⟩ nr nr]), (pw, .cells [.slice true (W.map stkAV), .slice true (nd.map (lstAV intAV)), .slice true (od.map (lstAV intAV))]), (p2, .cells [.ptr ⟨pw, 0, none⟩]), (p7, .cells [.slice true (((walkS S W inn σ x).st).map intAV)]), (p6, .cells [.err 61 ((walkS S W inn σ x).er)])]) → ACalls Try.prog 33 [expTop x, .func (.func 34) [] [.ptr ⟨p1, 0, none⟩, .ptr ⟨pin, 0, none⟩, .ptr ⟨p8, 0, none⟩, .ptr ⟨p2, 0, none⟩, .ptr ⟨p7, 0, none⟩, .ptr ⟨p6, 0, none⟩]] (AMem.wth m [(p1, .cells [.str S.name, .slice false (S.ins.map inAV), .slice false (S.res.map resAV), .slice false (S.outs.map prtAV)]), (pin, .cells [.int .i64 inn]), (pj, .cells (ownC intAV σ.zs)), (p8, .cells [.ms ⟨pj, 0, none⟩ nr nr]), (pw, .cells [.slice true (W.map stkAV), .slice true (nd.map (lstAV intAV)), .slice true (od.map (lstAV intAV))]), (p2, .cells [.ptr ⟨pw, 0, none⟩]), (p7, .cells [.slice true (σ.st.map intAV)]), (p6, .cells [.err 61 σ.er])]) K) (hd : depE e < k + 1) (hi : inn < nr) (hB : Bd3 n nr σ) (hn : n + xcE e ≤ 1000000) (hW : W.length ≤ 1000) (m : AMem) (gd : Gd [p1, pin, pj, p8, pw, p2, p7, p6] m) (K : AV → AMem → Prop) (hK : K (.tuple []) (AMem.wth m [(p1, .cells [.str S.name, .slice false (S.ins.map inAV), .slice false (S.res.map resAV), .slice false (S.outs.map prtAV)]), (pin, .cells [.int .i64 inn]), (pj, .cells (ownC intAV ((walkS S W inn σ e).zs))), (p8, .cells [.ms ⟨pj, 0, none⟩ nr nr]), (pw, .cells [.slice true (W.map stkAV), .slice true (nd.map (lstAV intAV)), .slice true (od.map (lstAV intAV))]), (p2, .cells [.ptr ⟨pw, 0, none⟩]), (p7, .cells [.slice true (((walkS S W inn σ e).st).map intAV)]), (p6, .cells [.err 61 ((walkS S W inn σ e).er)])])) : ACalls Try.prog 33 [expTop e, .func (.func 34) [] [.ptr ⟨p1, 0, none⟩, .ptr ⟨pin, 0, none⟩, .ptr ⟨p8, 0, none⟩, .ptr ⟨p2, 0, none⟩, .ptr ⟨p7, 0, none⟩, .ptr ⟨p6, 0, none⟩]] (AMem.wth m [(p1, .cells [.str S.name, .slice false (S.ins.map inAV), .slice false (S.res.map resAV), .slice false (S.outs.map prtAV)]), (pin, .cells [.int .i64 inn]), (pj, .cells (ownC intAV σ.zs)), (p8, .cells [.ms ⟨pj, 0, none⟩ nr nr]), (pw, .cells [.slice true (W.map stkAV), .slice true (nd.map (lstAV intAV)), .slice true (od.map (lstAV intAV))]), (p2, .cells [.ptr ⟨pw, 0, none⟩]), (p7, .cells [.slice true (σ.st.map intAV)]), (p6, .cells [.err 61 σ.er])]) K := by
 have hx := xcE_eq e
 have hxl := (xc_depL e.a).1
 refine enter (c := cf [] [0] [] [] [] [p1, pin, pj, p8, pw, p2, p7, p6]) (vs := [.av (expTop e), .fn 34 [] [.loc 0 0, .loc 1 0, .loc 3 0, .loc 5 0, .loc 6 0, .loc 7 0]]) (L := [.cells [vS S.name, vL (S.ins.map inAV), vL (S.res.map resAV), vL (S.outs.map prtAV)], .cells [vI inn], .obj (.cells (ownC intAV σ.zs)), .cells [.ms 2 nr nr], .cells [.own (W.map stkAV), .own (nd.map (lstAV intAV)), .own (od.map (lstAV intAV))], .cells [.loc 4 0], .cells [.own (σ.st.map intAV)], .cells [.av (.err 61 σ.er)]]) (m := m) false tbOk Try.mixed Try.func33 rfl (k := 2) (by show fnOk [] _ _ _ = true; decide +kernel) rfl (gd.good rfl) ?_
 refine ⟨fun F0 => ?_⟩
 have hbd0_3 : e.v.s.length ≤ 140737488355328 := (F0 0 3 (Nat.le_of_ble_eq_true rfl))
 have hbd0_4 : e.v.l.length ≤ 140737488355328 := bd_map (F0 0 4 (Nat.le_of_ble_eq_true rfl))
 have hbd0_5 : e.v.f.length ≤ 140737488355328 := bd_map (F0 0 5 (Nat.le_of_ble_eq_true rfl))
 have hbd0_6 : e.s.length ≤ 140737488355328 := (F0 0 6 (Nat.le_of_ble_eq_true rfl))
 have hbd0_7 : e.t.length ≤ 140737488355328 := (F0 0 7 (Nat.le_of_ble_eq_true rfl))
 have hbd0_8 : e.a.length ≤ 140737488355328 := bd_map (F0 0 8 (Nat.le_of_ble_eq_true rfl))
 have hbd0_9 : e.n.length ≤ 140737488355328 := bd_map (F0 0 9 (Nat.le_of_ble_eq_true rfl))
 refine callM [0, 1, 2, 3, 4, 5, 6, 7] [.cells [vS S.name, vL (S.ins.map inAV), vL (S.res.map resAV), vL (S.outs.map prtAV)], .cells [vI inn], .obj (.cells (ownC intAV ((look S W inn σ e).zs))), .cells [.ms 2 nr nr], .cells [.own (W.map stkAV), .own (nd.map (lstAV intAV)), .own (od.map (lstAV intAV))], .cells [.loc 4 0], .cells [.own (((look S W inn σ e).st).map intAV)], .cells [.av (.err 61 ((look S W inn σ e).er))]] (.tup []) rfl (fun bs mm gd => u_look S W nd od inn nr (bs.getD 0 0) (bs.getD 1 0) (bs.getD 3 0) (bs.getD 2 0) (bs.getD 5 0) (bs.getD 4 0) (bs.getD 6 0) (bs.getD 7 0) σ e _ hi hB (by omega) hW mm gd) ?_
 refine ln ?_
 refine lp (σ := Int × Lk3) [] [1, 10, 11, 12] 9 (fun ⟨i, τ⟩ => ([(1, .fn 34 [] [.loc 0 0, .loc 1 0, .loc 3 0, .loc 5 0, .loc 6 0, .loc 7 0]), (10, vL (e.a.map expIn)), (11, vI (e.a.length : Int)), (12, vI i)], [.cells [vS S.name, vL (S.ins.map inAV), vL (S.res.map resAV), vL (S.outs.map prtAV)], .cells [vI inn], .obj (.cells (ownC intAV τ.zs)), .cells [.ms 2 nr nr], .cells [.own (W.map stkAV), .own (nd.map (lstAV intAV)), .own (od.map (lstAV intAV))], .cells [.loc 4 0], .cells [.own (τ.st.map intAV)], .cells [.av (.err 61 τ.er)], .cells [vI e.kind, vI e.v.kind, vI e.v.n, vS e.v.s, vL (e.v.l.map valIn), vL (e.v.f.map fldIn), vS e.s, vS e.t, vL (e.a.map expIn), vL (e.n.map strAV)]], m)) (fun ⟨i, τ⟩ => 0 ≤ i ∧ i ≤ e.a.length ∧ (subsL (e.a.drop i.toNat)).foldl (look S W inn) τ = walkS S W inn σ e ∧ Bd3 (n + xcE e - xcL (e.a.drop i.toNat)) nr τ) (fun ⟨i, τ⟩ => e.a.length - i.toNat) (0, (look S W inn σ e)) ⟨rfl, rfl⟩ ?_ ?_
 · try dsimp only
   exact ⟨by omega, by omega, by rw [walkS, subsE_eq]; rfl, (hB.look S W inn hi e).mono (by show n + 1 ≤ n + xcE e - xcL e.a; omega)⟩
 rintro ⟨i, τ⟩ hI
 dsimp only at hI
 refine sq ?_
 refine an (fun h1 => ?_) (fun h1 => ?_)
 · have hs := xcL_drop hI.1 h1
   have hp := (xc_dep (gI e.a i)).1
   have hq := (xc_depL (e.a.drop (i + 1).toNat)).1
   refine sq ?_
   refine ixg expTop expIn_eq (by omega) ?_
   refine callM [0, 1, 2, 3, 4, 5, 6, 7] [.cells [vS S.name, vL (S.ins.map inAV), vL (S.res.map resAV), vL (S.outs.map prtAV)], .cells [vI inn], .obj (.cells (ownC intAV ((walkS S W inn τ (gI e.a i)).zs))), .cells [.ms 2 nr nr], .cells [.own (W.map stkAV), .own (nd.map (lstAV intAV)), .own (od.map (lstAV intAV))], .cells [.loc 4 0], .cells [.own (((walkS S W inn τ (gI e.a i)).st).map intAV)], .cells [.av (.err 61 ((walkS S W inn τ (gI e.a i)).er))]] (.tup []) rfl (fun bs mm gd => ih (gI e.a i) (by have := depE_mem (gI_mem (l := e.a) (i := i) hI.1 (by assumption)); omega) (bs.getD 0 0) (bs.getD 1 0) (bs.getD 3 0) (bs.getD 2 0) (bs.getD 5 0) (bs.getD 4 0) (bs.getD 6 0) (bs.getD 7 0) τ _ hI.2.2.2 (by omega) mm gd) ?_
   refine an (by omega) ?_
   refine ⟨(i + 1, (walkS S W inn τ (gI e.a i))), ⟨rfl, rfl⟩, ?_, ?_⟩
   · try dsimp only
     exact ⟨by omega, by omega, by rw [← hI.2.2.1, subsL_drop hI.1 h1, List.foldl_append]; rfl, (hI.2.2.2.walk hi (gI e.a i)).mono (by omega)⟩
   try dsimp only
   omega
 refine rt rfl fun _ => ?_
 show K (.tuple []) (AMem.wth m [(p1, .cells [.str S.name, .slice false (S.ins.map inAV), .slice false (S.res.map resAV), .slice false (S.outs.map prtAV)]), (pin, .cells [.int .i64 inn]), (pj, .cells (ownC intAV τ.zs)), (p8, .cells [.ms ⟨pj, 0, none⟩ nr nr]), (pw, .cells [.slice true (W.map stkAV), .slice true (nd.map (lstAV intAV)), .slice true (od.map (lstAV intAV))]), (p2, .cells [.ptr ⟨pw, 0, none⟩]), (p7, .cells [.slice true (τ.st.map intAV)]), (p6, .cells [.err 61 τ.er])])
 have q := hI.2.2.1
 rw [List.drop_eq_nil_of_le (by omega)] at q
 rw [← q] at hK; exact hK
theorem u_walk (S : StkT) (W : List StkT) (nd od : List (List Int)) (inn : Int) (nr : Nat) (hi : inn < nr) (hW : W.length ≤ 1000) : ∀ (k : Nat) (e : Exp), depE e < k → ∀ (p1 pin p8 pj p2 pw p7 p6 : Nat) (σ : Lk3) (n : Int), Bd3 n nr σ → n + xcE e ≤ 1000000 → ∀ (m : AMem), Gd [p1, pin, pj, p8, pw, p2, p7, p6] m → ∀ (K : AV → AMem → Prop), K (.tuple []) (AMem.wth m [(p1, .cells [.str S.name, .slice false (S.ins.map inAV), .slice false (S.res.map resAV), .slice false (S.outs.map prtAV)]), (pin, .cells [.int .i64 inn]), (pj, .cells (ownC intAV ((walkS S W inn σ e).zs))), (p8, .cells [.ms ⟨pj, 0, none⟩ nr nr]), (pw, .cells [.slice true (W.map stkAV), .slice true (nd.map (lstAV intAV)), .slice true (od.map (lstAV intAV))]), (p2, .cells [.ptr ⟨pw, 0, none⟩]), (p7, .cells [.slice true (((walkS S W inn σ e).st).map intAV)]), (p6, .cells [.err 61 ((walkS S W inn σ e).er)])]) → ACalls Try.prog 33 [expTop e, .func (.func 34) [] [.ptr ⟨p1, 0, none⟩, .ptr ⟨pin, 0, none⟩, .ptr ⟨p8, 0, none⟩, .ptr ⟨p2, 0, none⟩, .ptr ⟨p7, 0, none⟩, .ptr ⟨p6, 0, none⟩]] (AMem.wth m [(p1, .cells [.str S.name, .slice false (S.ins.map inAV), .slice false (S.res.map resAV), .slice false (S.outs.map prtAV)]), (pin, .cells [.int .i64 inn]), (pj, .cells (ownC intAV σ.zs)), (p8, .cells [.ms ⟨pj, 0, none⟩ nr nr]), (pw, .cells [.slice true (W.map stkAV), .slice true (nd.map (lstAV intAV)), .slice true (od.map (lstAV intAV))]), (p2, .cells [.ptr ⟨pw, 0, none⟩]), (p7, .cells [.slice true (σ.st.map intAV)]), (p6, .cells [.err 61 σ.er])]) K
  | 0, _, h => absurd h (Nat.not_lt_zero _)
  | k + 1, e, h => fun p1 pin p8 pj p2 pw p7 p6 σ n hB hn m gd K hK => u_walk1 S W nd od inn nr p1 pin p8 pj p2 pw p7 p6 σ e k n (fun x hx => u_walk S W nd od inn nr hi hW k x hx) h hi hB hn hW m gd K hK
end Go.Proofs
end
section
namespace Go.Proofs
open Go Go.Aw Go.Sx
set_option maxRecDepth 100000
def tagE (i : Int) (p : Str × Exp) : Int × Exp := (i, p.2)
def occR : List ResT → Int → List (Int × Exp)
  | [], _ => []
  | x :: r, i => x.parts.map (tagE i) ++ occR r (i + 1)
def occ (S : StkT) : List (Int × Exp) := occR S.res 0 ++ S.outs.map (tagE (-1))
def eachS (S : StkT) (W : List StkT) (σ : Lk3) (q : Int × Exp) : Lk3 := walkS S W q.1 σ q.2
def exprsS (S : StkT) (W : List StkT) (σ : Lk3) : Lk3 := (occ S).foldl (eachS S W) σ
theorem occR_drop {l : List ResT} {i : Int} (h0 : 0 ≤ i) (hi : i < l.length) : occR (l.drop i.toNat) i = (gI l i).parts.map (tagE i) ++ occR (l.drop (i + 1).toNat) (i + 1) := by rw [drop_gI h0 hi, occR]
theorem each_drop {l : List (Str × Exp)} {j k : Int} (h0 : 0 ≤ k) (hk : k < l.length) (r : List (Int × Exp)) : (l.drop k.toNat).map (tagE j) ++ r = (j, (gI l k).2) :: ((l.drop (k + 1).toNat).map (tagE j) ++ r) := by rw [drop_gI h0 hk]; rfl
set_option maxHeartbeats 4000000 in
theorem u_each (S : StkT) (W : List StkT) (nd od : List (List Int)) (inn : Int) (nr : Nat) (p1 p8 pj p2 pw p7 p6 : Nat) (σ : Lk3) (e : Exp) (n : Int) (hi : inn < nr) (hB : Bd3 n nr σ) (hn : n + xcE e ≤ 1000000) (hW : W.length ≤ 1000) (m : AMem) (gd : Gd [p1, pj, p8, pw, p2, p7, p6] m) (K : AV → AMem → Prop) (hK : K (.tuple []) (AMem.wth m [(p1, .cells [.str S.name, .slice false (S.ins.map inAV), .slice false (S.res.map resAV), .slice false (S.outs.map prtAV)]), (pj, .cells (ownC intAV ((walkS S W inn σ e).zs))), (p8, .cells [.ms ⟨pj, 0, none⟩ nr nr]), (pw, .cells [.slice true (W.map stkAV), .slice true (nd.map (lstAV intAV)), .slice true (od.map (lstAV intAV))]), (p2, .cells [.ptr ⟨pw, 0, none⟩]), (p7, .cells [.slice true (((walkS S W inn σ e).st).map intAV)]), (p6, .cells [.err 61 ((walkS S W inn σ e).er)])])) : ACalls Try.prog 32 [.int .i64 inn, expTop e, .ptr ⟨p1, 0, none⟩, .ptr ⟨p8, 0, none⟩, .ptr ⟨p2, 0, none⟩, .ptr ⟨p7, 0, none⟩, .ptr ⟨p6, 0, none⟩] (AMem.wth m [(p1, .cells [.str S.name, .slice false (S.ins.map inAV), .slice false (S.res.map resAV), .slice false (S.outs.map prtAV)]), (pj, .cells (ownC intAV σ.zs)), (p8, .cells [.ms ⟨pj, 0, none⟩ nr nr]), (pw, .cells [.slice true (W.map stkAV), .slice true (nd.map (lstAV intAV)), .slice true (od.map (lstAV intAV))]), (p2, .cells [.ptr ⟨pw, 0, none⟩]), (p7, .cells [.slice true (σ.st.map intAV)]), (p6, .cells [.err 61 σ.er])]) K := by
 refine enter (c := cf [] [] [] [] [] [p1, pj, p8, pw, p2, p7, p6]) (vs := [.av (.int .i64 inn), .av (expTop e), .loc 0 0, .loc 2 0, .loc 4 0, .loc 5 0, .loc 6 0]) (L := [.cells [vS S.name, vL (S.ins.map inAV), vL (S.res.map resAV), vL (S.outs.map prtAV)], .obj (.cells (ownC intAV σ.zs)), .cells [.ms 1 nr nr], .cells [.own (W.map stkAV), .own (nd.map (lstAV intAV)), .own (od.map (lstAV intAV))], .cells [.loc 3 0], .cells [.own (σ.st.map intAV)], .cells [.av (.err 61 σ.er)]]) (m := m) false tbOk Try.mixed Try.func32 rfl (k := 7) (by show fnOk [] _ _ _ = true; decide +kernel) rfl (gd.good rfl) ?_
 refine callM [0, 7, 1, 2, 3, 4, 5, 6] [.cells [vS S.name, vL (S.ins.map inAV), vL (S.res.map resAV), vL (S.outs.map prtAV)], .cells [vI inn], .obj (.cells (ownC intAV ((walkS S W inn σ e).zs))), .cells [.ms 1 nr nr], .cells [.own (W.map stkAV), .own (nd.map (lstAV intAV)), .own (od.map (lstAV intAV))], .cells [.loc 3 0], .cells [.own (((walkS S W inn σ e).st).map intAV)], .cells [.av (.err 61 ((walkS S W inn σ e).er))]] (.tup []) rfl (fun bs mm gd => u_walk S W nd od inn nr hi hW (depE e + 1) e (Nat.lt_succ_self _) (bs.getD 0 0) (bs.getD 7 0) (bs.getD 2 0) (bs.getD 1 0) (bs.getD 4 0) (bs.getD 3 0) (bs.getD 5 0) (bs.getD 6 0) σ n hB hn mm gd) ?_
 exact rt rfl fun _ => hK
set_option maxHeartbeats 4000000 in
theorem u_exprs (S : StkT) (W : List StkT) (nd od : List (List Int)) (nr : Nat) (p1 p8 pj p2 pw p7 p6 : Nat) (σ : Lk3) (hs : StkOk S) (hB : Bd3 0 nr σ) (hnr : nr = S.res.length) (hW : W.length ≤ 1000) (m : AMem) (gd : Gd [p1, pj, p8, pw, p2, p7, p6] m) (K : AV → AMem → Prop) (hK : K (.tuple []) (AMem.wth m [(p1, .cells [.str S.name, .slice false (S.ins.map inAV), .slice false (S.res.map resAV), .slice false (S.outs.map prtAV)]), (pj, .cells (ownC intAV ((exprsS S W σ).zs))), (p8, .cells [.ms ⟨pj, 0, none⟩ nr nr]), (pw, .cells [.slice true (W.map stkAV), .slice true (nd.map (lstAV intAV)), .slice true (od.map (lstAV intAV))]), (p2, .cells [.ptr ⟨pw, 0, none⟩]), (p7, .cells [.slice true (((exprsS S W σ).st).map intAV)]), (p6, .cells [.err 61 ((exprsS S W σ).er)])])) : ACalls Try.prog 31 [stkAV S, .func (.func 32) [] [.ptr ⟨p1, 0, none⟩, .ptr ⟨p8, 0, none⟩, .ptr ⟨p2, 0, none⟩, .ptr ⟨p7, 0, none⟩, .ptr ⟨p6, 0, none⟩]] (AMem.wth m [(p1, .cells [.str S.name, .slice false (S.ins.map inAV), .slice false (S.res.map resAV), .slice false (S.outs.map prtAV)]), (pj, .cells (ownC intAV σ.zs)), (p8, .cells [.ms ⟨pj, 0, none⟩ nr nr]), (pw, .cells [.slice true (W.map stkAV), .slice true (nd.map (lstAV intAV)), .slice true (od.map (lstAV intAV))]), (p2, .cells [.ptr ⟨pw, 0, none⟩]), (p7, .cells [.slice true (σ.st.map intAV)]), (p6, .cells [.err 61 σ.er])]) K := by
 have hlr := hs.lr
 have hlo := hs.lo
 refine enter (c := cf [] [0] [] [] [] [p1, pj, p8, pw, p2, p7, p6]) (vs := [.av (stkAV S), .fn 32 [] [.loc 0 0, .loc 2 0, .loc 4 0, .loc 5 0, .loc 6 0]]) (L := [.cells [vS S.name, vL (S.ins.map inAV), vL (S.res.map resAV), vL (S.outs.map prtAV)], .obj (.cells (ownC intAV σ.zs)), .cells [.ms 1 nr nr], .cells [.own (W.map stkAV), .own (nd.map (lstAV intAV)), .own (od.map (lstAV intAV))], .cells [.loc 3 0], .cells [.own (σ.st.map intAV)], .cells [.av (.err 61 σ.er)]]) (m := m) false tbOk Try.mixed Try.func31 rfl (k := 2) (by show fnOk [] _ _ _ = true; decide +kernel) rfl (gd.good rfl) ?_
 refine ⟨fun F0 => ?_⟩
 have hbd0_0 : S.name.length ≤ 140737488355328 := (F0 0 0 (Nat.le_of_ble_eq_true rfl))
 have hbd0_1 : S.ins.length ≤ 140737488355328 := bd_map (F0 0 1 (Nat.le_of_ble_eq_true rfl))
 have hbd0_2 : S.res.length ≤ 140737488355328 := bd_map (F0 0 2 (Nat.le_of_ble_eq_true rfl))
 have hbd0_3 : S.outs.length ≤ 140737488355328 := bd_map (F0 0 3 (Nat.le_of_ble_eq_true rfl))
 refine sq ?_
 refine ln ?_
 refine lp (σ := Int × Lk3) [] [1, 2, 11, 12, 13] 8 (fun ⟨i, τ⟩ => ([(1, .fn 32 [] [.loc 0 0, .loc 2 0, .loc 4 0, .loc 5 0, .loc 6 0]), (2, .loc 7 0), (11, vL (S.res.map resAV)), (12, vI (S.res.length : Int)), (13, vI i)], [.cells [vS S.name, vL (S.ins.map inAV), vL (S.res.map resAV), vL (S.outs.map prtAV)], .obj (.cells (ownC intAV τ.zs)), .cells [.ms 1 nr nr], .cells [.own (W.map stkAV), .own (nd.map (lstAV intAV)), .own (od.map (lstAV intAV))], .cells [.loc 3 0], .cells [.own (τ.st.map intAV)], .cells [.av (.err 61 τ.er)], .cells [vS S.name, vL (S.ins.map inAV), vL (S.res.map resAV), vL (S.outs.map prtAV)]], m)) (fun ⟨i, τ⟩ => 0 ≤ i ∧ i ≤ S.res.length ∧ (occR (S.res.drop i.toNat) i ++ S.outs.map (tagE (-1))).foldl (eachS S W) τ = exprsS S W σ ∧ Bd3 (1000 * i) nr τ) (fun ⟨i, τ⟩ => S.res.length - i.toNat) (0, σ) ⟨rfl, rfl⟩ ?_ ?_
 · try dsimp only
   exact ⟨by omega, by omega, rfl, hB.mono (by omega)⟩
 rintro ⟨i, τ⟩ hI
 dsimp only at hI
 refine sq ?_
 refine an (fun h1 => ?_) (fun h1 => ?_)
 · have hp6 := (hs.r _ (gI_mem hI.1 h1)).1
   refine sq ?_
   refine ix (by omega) ?_
   refine ln ?_
   refine lp (σ := Int × Lk3) [] [1, 2, 4, 11, 12, 13, 19, 20, 21] 9 (fun ⟨k, υ⟩ => ([(1, .fn 32 [] [.loc 0 0, .loc 2 0, .loc 4 0, .loc 5 0, .loc 6 0]), (2, .loc 7 0), (4, vI i), (11, vL (S.res.map resAV)), (12, vI (S.res.length : Int)), (13, vI i), (19, vL (((gI S.res i).parts).map prtAV)), (20, vI (((gI S.res i).parts).length : Int)), (21, vI k)], [.cells [vS S.name, vL (S.ins.map inAV), vL (S.res.map resAV), vL (S.outs.map prtAV)], .obj (.cells (ownC intAV υ.zs)), .cells [.ms 1 nr nr], .cells [.own (W.map stkAV), .own (nd.map (lstAV intAV)), .own (od.map (lstAV intAV))], .cells [.loc 3 0], .cells [.own (υ.st.map intAV)], .cells [.av (.err 61 υ.er)], .cells [vS S.name, vL (S.ins.map inAV), vL (S.res.map resAV), vL (S.outs.map prtAV)], .cells [vS ((gI S.res i).kind), vS ((gI S.res i).name), vL (((gI S.res i).parts).map prtAV)]], m)) (fun ⟨k, υ⟩ => 0 ≤ k ∧ k ≤ (gI S.res i).parts.length ∧ (((gI S.res i).parts.drop k.toNat).map (tagE i) ++ (occR (S.res.drop (i + 1).toNat) (i + 1) ++ S.outs.map (tagE (-1)))).foldl (eachS S W) υ = exprsS S W σ ∧ Bd3 (1000 * i + 60 * k) nr υ) (fun ⟨k, υ⟩ => (gI S.res i).parts.length - k.toNat) (0, τ) ⟨rfl, rfl⟩ ?_ ?_
   · try dsimp only
     exact ⟨by omega, by omega, by rw [← hI.2.2.1, occR_drop hI.1 h1, List.append_assoc]; rfl, hI.2.2.2.mono (by omega)⟩
   rintro ⟨k, υ⟩ hI2
   dsimp only at hI2
   refine sq ?_
   refine an (fun h2 => ?_) (fun h2 => ?_)
   · refine sq ?_
     refine ix (by omega) ?_
     refine callM [0, 1, 2, 3, 4, 5, 6] [.cells [vS S.name, vL (S.ins.map inAV), vL (S.res.map resAV), vL (S.outs.map prtAV)], .obj (.cells (ownC intAV ((walkS S W i υ ((gI ((gI S.res i).parts) k).2)).zs))), .cells [.ms 1 nr nr], .cells [.own (W.map stkAV), .own (nd.map (lstAV intAV)), .own (od.map (lstAV intAV))], .cells [.loc 3 0], .cells [.own (((walkS S W i υ ((gI ((gI S.res i).parts) k).2)).st).map intAV)], .cells [.av (.err 61 ((walkS S W i υ ((gI ((gI S.res i).parts) k).2)).er))]] (.tup []) rfl (fun bs mm gd => u_each S W nd od i nr (bs.getD 0 0) (bs.getD 2 0) (bs.getD 1 0) (bs.getD 4 0) (bs.getD 3 0) (bs.getD 5 0) (bs.getD 6 0) υ ((gI ((gI S.res i).parts) k).2) _ (by omega) (by first | exact hI2.2.2.2 | exact hI.2.2.2) (by first | (have := (exF_0 ((hs.r _ (gI_mem hI.1 (by assumption))).2 _ (gI_mem hI2.1 (by assumption)))).2.1; omega) | (have := (exF_0 (hs.o _ (gI_mem hI2.1 (by assumption)))).2.1; omega)) hW mm gd) ?_
     refine an (by omega) ?_
     refine ⟨(k + 1, (walkS S W i υ ((gI ((gI S.res i).parts) k).2))), ⟨rfl, rfl⟩, ?_, ?_⟩
     · try dsimp only
       have hx := (exF_0 ((hs.r _ (gI_mem hI.1 h1)).2 _ (gI_mem hI2.1 h2))).2.1
       exact ⟨by omega, by omega, by rw [← hI2.2.2.1, each_drop hI2.1 h2]; rfl, (hI2.2.2.2.walk (by omega) _).mono (by omega)⟩
     try dsimp only
     omega
   refine an (by omega) ?_
   refine ⟨(i + 1, υ), ⟨rfl, rfl⟩, ?_, ?_⟩
   · try dsimp only
     have q := hI2.2.2.1
     rw [List.drop_eq_nil_of_le (by omega)] at q
     exact ⟨by omega, by omega, q, hI2.2.2.2.mono (by omega)⟩
   try dsimp only
   omega
 refine ln ?_
 refine lp (σ := Int × Lk3) [] [1, 33, 34, 35] 8 (fun ⟨j, φ⟩ => ([(1, .fn 32 [] [.loc 0 0, .loc 2 0, .loc 4 0, .loc 5 0, .loc 6 0]), (33, vL (S.outs.map prtAV)), (34, vI (S.outs.length : Int)), (35, vI j)], [.cells [vS S.name, vL (S.ins.map inAV), vL (S.res.map resAV), vL (S.outs.map prtAV)], .obj (.cells (ownC intAV φ.zs)), .cells [.ms 1 nr nr], .cells [.own (W.map stkAV), .own (nd.map (lstAV intAV)), .own (od.map (lstAV intAV))], .cells [.loc 3 0], .cells [.own (φ.st.map intAV)], .cells [.av (.err 61 φ.er)], .cells [vS S.name, vL (S.ins.map inAV), vL (S.res.map resAV), vL (S.outs.map prtAV)]], m)) (fun ⟨j, φ⟩ => 0 ≤ j ∧ j ≤ S.outs.length ∧ ((S.outs.drop j.toNat).map (tagE (-1)) ++ []).foldl (eachS S W) φ = exprsS S W σ ∧ Bd3 (10000 + 60 * j) nr φ) (fun ⟨j, φ⟩ => S.outs.length - j.toNat) (0, τ) ⟨rfl, rfl⟩ ?_ ?_
 · try dsimp only
   have q := hI.2.2.1
   rw [List.drop_eq_nil_of_le (by omega)] at q
   exact ⟨by omega, by omega, by rw [List.append_nil]; exact q, hI.2.2.2.mono (by omega)⟩
 rintro ⟨j, φ⟩ hI2
 dsimp only at hI2
 refine sq ?_
 refine an (fun h3 => ?_) (fun h3 => ?_)
 · refine sq ?_
   refine ix (by omega) ?_
   refine callM [0, 1, 2, 3, 4, 5, 6] [.cells [vS S.name, vL (S.ins.map inAV), vL (S.res.map resAV), vL (S.outs.map prtAV)], .obj (.cells (ownC intAV ((walkS S W (-1) φ ((gI S.outs j).2)).zs))), .cells [.ms 1 nr nr], .cells [.own (W.map stkAV), .own (nd.map (lstAV intAV)), .own (od.map (lstAV intAV))], .cells [.loc 3 0], .cells [.own (((walkS S W (-1) φ ((gI S.outs j).2)).st).map intAV)], .cells [.av (.err 61 ((walkS S W (-1) φ ((gI S.outs j).2)).er))]] (.tup []) rfl (fun bs mm gd => u_each S W nd od (-1) nr (bs.getD 0 0) (bs.getD 2 0) (bs.getD 1 0) (bs.getD 4 0) (bs.getD 3 0) (bs.getD 5 0) (bs.getD 6 0) φ ((gI S.outs j).2) _ (by omega) (by first | exact hI2.2.2.2 | exact hI.2.2.2) (by first | (have := (exF_0 ((hs.r _ (gI_mem hI.1 (by assumption))).2 _ (gI_mem hI2.1 (by assumption)))).2.1; omega) | (have := (exF_0 (hs.o _ (gI_mem hI2.1 (by assumption)))).2.1; omega)) hW mm gd) ?_
   refine an (by omega) ?_
   refine ⟨(j + 1, (walkS S W (-1) φ ((gI S.outs j).2))), ⟨rfl, rfl⟩, ?_, ?_⟩
   · try dsimp only
     have hx := (exF_0 (hs.o _ (gI_mem hI2.1 h3))).2.1
     exact ⟨by omega, by omega, by rw [← hI2.2.2.1, each_drop hI2.1 h3]; rfl, (hI2.2.2.2.walk (by omega) _).mono (by omega)⟩
   try dsimp only
   omega
 refine rt rfl fun _ => ?_
 show K (.tuple []) (AMem.wth m [(p1, .cells [.str S.name, .slice false (S.ins.map inAV), .slice false (S.res.map resAV), .slice false (S.outs.map prtAV)]), (pj, .cells (ownC intAV φ.zs)), (p8, .cells [.ms ⟨pj, 0, none⟩ nr nr]), (pw, .cells [.slice true (W.map stkAV), .slice true (nd.map (lstAV intAV)), .slice true (od.map (lstAV intAV))]), (p2, .cells [.ptr ⟨pw, 0, none⟩]), (p7, .cells [.slice true (φ.st.map intAV)]), (p6, .cells [.err 61 φ.er])])
 have q := hI2.2.2.1
 rw [List.drop_eq_nil_of_le (by omega)] at q
 rw [← q] at hK; exact hK
end Go.Proofs
end
section
namespace Go.Proofs
open Go Go.Aw
set_option maxRecDepth 100000
theorem u_New_ok (needs : List (List Int)) (hE : newE needs = 0) (hs : needs.length ≤ 1048576) (hl : ∀ l ∈ needs, l.length ≤ 1048576) (m : AMem) (K : AV → AMem → Prop) (hK : ∀ g, m g = none → K (.tuple [.ptr ⟨g, 0, none⟩, .err 61 0]) (AMem.wth m [(g, .cells [.slice true (needs.map (lstAV intAV))])])) : ACalls Try.prog 36 [.slice false (needs.map (lstAV intAV))] m K :=
  u_New needs hs hl m K (fun h => absurd hE h) (fun _ => hK)
theorem u_New_err (needs : List (List Int)) (hE : newE needs ≠ 0) (hs : needs.length ≤ 1048576) (hl : ∀ l ∈ needs, l.length ≤ 1048576) (m : AMem) (K : AV → AMem → Prop) (hK : K (.tuple [.nilptr, .err 61 (newE needs)]) m) : ACalls Try.prog 36 [.slice false (needs.map (lstAV intAV))] m K :=
  u_New needs hs hl m K (fun _ => hK) (fun h => absurd h hE)
theorem newE_zero {needs : List (List Int)} (h : newE needs = 0) : needs.length ≤ 64 ∧ okN needs = true := by
  unfold newE at h
  split at h
  · cases h
  · split at h
    · rename_i h1 h2; exact ⟨by omega, h2⟩
    · cases h
theorem flatW_len {needs : List (List Int)} (hn : needs.length ≤ 64) : (wavesR needs).1.flatten.length ≤ 65 * 64 := by
  have h := wavesR_len needs
  refine Nat.le_trans (flat_len (B := 64) (fun w hw => Nat.le_trans (h.2 w hw) hn)) (Nat.mul_le_mul_right _ (by omega))
def wavR (needs : List (List Int)) : List Int × Int := if newE needs ≠ 0 then ([], newE needs) else ((wavesR needs).1.flatten, (wavesR needs).2)
theorem u_wavesE (needs : List (List Int)) (hE : newE needs ≠ 0) (hs : needs.length ≤ 1048576) (hl : ∀ l ∈ needs, l.length ≤ 1048576) (m : AMem)  (K : AV → AMem → Prop) (hK : K (.tuple [.slice false ((wavR needs).1.map intAV), .err 61 (wavR needs).2]) m) : ACalls Try.prog 21 [.slice false (needs.map (lstAV intAV))] m K := by
 refine acalls_enter Try.func21 rfl (by decide) (Nat.le_of_ble_eq_true rfl) ?_
 show AWP _ _ _ _ [(0, .slice false (needs.map (lstAV intAV)))] m
 refine awp_reg2_seq [] [0] (by decide) ?_
 intro K1 hK1
 refine ⟨trivial, trivial, ?_⟩
 show K1 [(0, .slice false (needs.map (lstAV intAV)))] m
 refine hK1 _ _ ?_; clear hK1 K1
 refine awp_reg2_seq [] [4, 5] (by decide) ?_
 intro K1 hK1
 refine ⟨trivial, ?_⟩
 refine u_New_err needs hE hs hl _ _ ?_
 refine ⟨trivial, (Nat.le_of_ble_eq_true rfl), (Nat.le_of_ble_eq_true rfl), trivial, trivial, ?_⟩
 show K1 [(4, .nilptr), (5, .err 61 (newE needs))] m
 refine hK1 _ _ ?_; clear hK1 K1
 refine awp_seq_k ?_; intro K2 hK2
 refine awp_reg2_seq [] [4, 5, 12] (by decide) ?_
 intro K1 hK1
 refine ⟨trivial, ⟨rfl, rfl⟩, ?_⟩
 show K1 [(4, .nilptr), (5, .err 61 (newE needs)), (12, .bool (!((newE needs) == 0)))] m
 refine hK1 _ _ ?_; clear hK1 K1
 refine awp_cond rfl rfl (fun h1 => ?_) (fun h1 => ?_)
 ·
  replace h1 : (newE needs) ≠ 0 := (ne_of_beq_false (bnT h1))
  refine awp_reg2_seq [] [2, 3] (by decide) ?_
  intro K1 hK1
  refine ⟨trivial, trivial, trivial, ?_⟩
  show K1 [(2, .slice true []), (3, .err 61 (newE needs))] m
  refine hK1 _ _ ?_; clear hK1 K1
  refine awp_strip 2 rfl ?_
  refine awp_keep [2, 3] (by decide) ?_
  show AWP _ _ _ _ [(2, .slice false []), (3, .err 61 (newE needs))] m
  refine awp_ret ?_
  refine ⟨trivial, trivial, m, fun _ _ h => h, ?_⟩
  show K (.tuple [.slice false [], .err 61 (newE needs)]) m
 
  rw [wavR, if_pos hE] at hK; exact hK
 replace h1 : (newE needs) = 0 := (eq_of_beq (bnF h1))
 exact absurd h1 hE
theorem u_waves0 (needs : List (List Int)) (hE : newE needs = 0) (hs : needs.length ≤ 1048576) (hl : ∀ l ∈ needs, l.length ≤ 1048576) (m : AMem)  (K : AV → AMem → Prop) (hK : K (.tuple [.slice false ((wavR needs).1.map intAV), .err 61 (wavR needs).2]) m) : ACalls Try.prog 21 [.slice false (needs.map (lstAV intAV))] m K := by
 have hz := newE_zero hE
 have hz1 := hz.1
 have hok := hz.2
 refine acalls_enter Try.func21 rfl (by decide) (Nat.le_of_ble_eq_true rfl) ?_
 show AWP _ _ _ _ [(0, .slice false (needs.map (lstAV intAV)))] m
 refine awp_reg2_seq [] [0] (by decide) ?_
 intro K1 hK1
 refine ⟨trivial, trivial, ?_⟩
 show K1 [(0, .slice false (needs.map (lstAV intAV)))] m
 refine hK1 _ _ ?_; clear hK1 K1
 refine awp_reg2_seq [] [4, 5] (by decide) ?_
 intro K1 hK1
 refine ⟨trivial, ?_⟩
 refine u_New_ok needs hE hs hl _ _ ?_
 intro b1 hb1
 have hFb1 : m b1 = none := wth_none (m := m) (L := []) hb1
 have hNb1 : ([b1] : List Nat).Nodup := wth_nodup (m := m) (L := []) hb1 List.nodup_nil
 show aopsR _ _ _ _ _ _ (AMem.wth m [(b1, .cells [.slice true (needs.map (lstAV intAV))])])
 refine ⟨trivial, (Nat.le_of_ble_eq_true rfl), (Nat.le_of_ble_eq_true rfl), trivial, trivial, ?_⟩
 show K1 [(4, .ptr ⟨b1, 0, none⟩), (5, .err 61 0)] (AMem.wth m [(b1, .cells [.slice true (needs.map (lstAV intAV))])])
 refine hK1 _ _ ?_; clear hK1 K1
 refine awp_seq_k ?_; intro K2 hK2
 refine awp_reg2_seq [] [4, 5, 12] (by decide) ?_
 intro K1 hK1
 refine ⟨trivial, ⟨rfl, rfl⟩, ?_⟩
 show K1 [(4, .ptr ⟨b1, 0, none⟩), (5, .err 61 0), (12, .bool false)] _
 refine hK1 _ _ ?_; clear hK1 K1
 refine awp_cond rfl rfl (fun hcz => ?_) (fun hcz => ?_)
 ·
  cases hcz
 clear hcz
 refine awp_skip ?_
 refine hK2 _ _ ?_; clear hK2
 refine awp_reg2_seq [] [2, 3] (by decide) ?_
 intro K1 hK1
 refine ⟨trivial, ?_⟩
 refine u_Order b1 needs hok hz.1 hl _ _ ?_
 show aopsR _ _ _ _ _ _ (AMem.wth m [(b1, .cells [.slice true (needs.map (lstAV intAV))])])
 refine ⟨(Nat.le_of_ble_eq_true rfl), (Nat.le_of_ble_eq_true rfl), trivial, trivial, ?_⟩
 show K1 [(2, .slice false (((wavesR needs).1.flatten).map intAV)), (3, .err 61 ((wavesR needs).2))] (AMem.wth m [(b1, .cells [.slice true (needs.map (lstAV intAV))])])
 refine hK1 _ _ ?_; clear hK1 K1
 refine awp_ret ?_
 refine ⟨trivial, trivial, m, (wth_sub2 (m := m) [(b1, .cells [.slice true (needs.map (lstAV intAV))])] [] hNb1 (by simp only [List.map_cons, List.map_nil, List.forall_mem_cons]; exact ⟨hFb1, fun _ h => by cases h⟩)), ?_⟩
 show K (.tuple [.slice false (((wavesR needs).1.flatten).map intAV), .err 61 ((wavesR needs).2)]) m
 rw [wavR, if_neg (not_not_intro hE)] at hK; exact hK
theorem u_waves (needs : List (List Int)) (hs : needs.length ≤ 1048576) (hl : ∀ l ∈ needs, l.length ≤ 1048576) (m : AMem) (K : AV → AMem → Prop) (hK : K (.tuple [.slice false ((wavR needs).1.map intAV), .err 61 (wavR needs).2]) m) : ACalls Try.prog 21 [.slice false (needs.map (lstAV intAV))] m K := by
  by_cases hE : newE needs = 0
  · exact u_waves0 needs hE hs hl m K hK
  · exact u_wavesE needs hE hs hl m K hK
end Go.Proofs
end
section
namespace Go.Proofs
open Go Go.Aw Go.Sx
set_option maxRecDepth 100000
def sig0 (S : StkT) : Lk3 := ⟨0, [], List.replicate ((S.res.length : Int)).toNat []⟩
def stackE (S : StkT) (W : List StkT) : Int := if (exprsS S W (sig0 S)).er ≠ 0 then (exprsS S W (sig0 S)).er else (wavR (exprsS S W (sig0 S)).zs).2
def stackN (S : StkT) (W : List StkT) (nd : List (List Int)) : List (List Int) := if stackE S W = 0 then nd ++ [(exprsS S W (sig0 S)).st] else nd
def stackO (S : StkT) (W : List StkT) (od : List (List Int)) : List (List Int) := if stackE S W = 0 then od ++ [(wavR (exprsS S W (sig0 S)).zs).1] else od
theorem sig0_bd (S : StkT) : Bd3 0 ((S.res.length : Int)).toNat (sig0 S) := by
  refine ⟨by simp [sig0], fun z hz => ?_, by simp [sig0]⟩
  rw [sig0] at hz
  rw [List.eq_of_mem_replicate hz]; simp
theorem Bd3.foldE {nr : Nat} {S : StkT} {W : List StkT} (hi : ∀ q ∈ occ S, q.1 < nr ∧ xcE q.2 ≤ 60) : ∀ (l : List (Int × Exp)), (∀ q ∈ l, q ∈ occ S) → ∀ {n : Int} {σ : Lk3}, Bd3 n nr σ → Bd3 (n + 60 * l.length) nr (l.foldl (eachS S W) σ)
  | [], _, n, σ, h => by simpa using h
  | q :: r, hr, n, σ, h => by
    have h0 := hi q (hr q (List.mem_cons_self ..))
    have h1 := Bd3.foldE (S := S) (W := W) hi r (fun x hx => hr x (List.mem_cons_of_mem _ hx)) ((h.walk (S := S) (W := W) h0.1 q.2).mono (show n + xcE q.2 ≤ n + 60 by omega))
    rw [List.foldl_cons, List.length_cons]
    exact h1.mono (by omega)
theorem occR_mem : ∀ {l : List ResT} {i : Int} {q : Int × Exp}, q ∈ occR l i → i ≤ q.1 ∧ q.1 < i + l.length ∧ ∃ x ∈ l, ∃ p ∈ x.parts, p.2 = q.2
  | [], _, _, h => by cases h
  | x :: r, i, q, h => by
    rw [occR] at h
    rcases List.mem_append.1 h with h | h
    · obtain ⟨p, hp, rfl⟩ := List.mem_map.1 h
      exact ⟨Int.le_refl _, by rw [List.length_cons]; simp only [tagE]; omega, x, List.mem_cons_self .., p, hp, rfl⟩
    · obtain ⟨h1, h2, y, hy, h3⟩ := occR_mem h
      exact ⟨by omega, by rw [List.length_cons]; omega, y, List.mem_cons_of_mem _ hy, h3⟩
theorem occR_len : ∀ {l : List ResT} {i : Int}, (∀ x ∈ l, x.parts.length ≤ 6) → (occR l i).length ≤ 6 * l.length
  | [], _, _ => by simp [occR]
  | x :: r, i, h => by
    have h1 := h x (List.mem_cons_self ..)
    have h2 := occR_len (l := r) (i := i + 1) fun y hy => h y (List.mem_cons_of_mem _ hy)
    rw [occR, List.length_append, List.length_map, List.length_cons]; omega
theorem exprs_bd {S : StkT} (hs : StkOk S) (W : List StkT) : Bd3 10000 ((S.res.length : Int)).toNat (exprsS S W (sig0 S)) := by
  have hl : (occ S).length ≤ 60 := by
    have h1 := occR_len (l := S.res) (i := 0) fun x hx => (hs.r x hx).1
    have h2 := hs.lr
    have h3 := hs.lo
    rw [occ, List.length_append, List.length_map]; omega
  refine ((sig0_bd S).foldE (S := S) (W := W) (fun q hq => ?_) (occ S) fun _ h => h).mono (by omega)
  rcases List.mem_append.1 hq with h | h
  · obtain ⟨h1, h2, x, hx, p, hp, e⟩ := occR_mem h
    exact ⟨by omega, by rw [← e]; exact (exF_0 ((hs.r x hx).2 p hp)).2.1⟩
  · obtain ⟨p, hp, rfl⟩ := List.mem_map.1 h
    exact ⟨by simp only [tagE]; omega, (exF_0 (hs.o p hp)).2.1⟩
set_option maxHeartbeats 4000000 in
theorem u_stack (W : List StkT) (nd od : List (List Int)) (n : Int) (w : Nat) (h0 : 0 ≤ n) (hn : n < W.length) (hs : StkOk (gI W n)) (hW : W.length ≤ 8) (hnd : nd.length ≤ 8) (hod : od.length ≤ 8) (m : AMem) (gd : Gd [w] m) (K : AV → AMem → Prop) (hK : K (.err 61 (stackE (gI W n) W)) (AMem.wth m [(w, .cells [.slice true (W.map stkAV), .slice true ((stackN (gI W n) W nd).map (lstAV intAV)), .slice true ((stackO (gI W n) W od).map (lstAV intAV))])])) : ACalls Try.prog 20 [.ptr ⟨w, 0, none⟩, .int .i64 n] (AMem.wth m [(w, .cells [.slice true (W.map stkAV), .slice true (nd.map (lstAV intAV)), .slice true (od.map (lstAV intAV))])]) K := by
 have hlr := hs.lr
 have hbd := exprs_bd hs W
 have hzl := hbd.l
 refine enter (c := cf [] [] [] [11999, 12999] [5, 8, 11, 12] [w]) (vs := [.loc 0 0, .av (.int .i64 n)]) (L := [.cells [.own (W.map stkAV), .own (nd.map (lstAV intAV)), .own (od.map (lstAV intAV))]]) (m := m) true tbOk Try.mixed Try.func20 rfl (k := 2) (by show fnOk [11999, 12999] _ _ _ = true; decide +kernel) rfl (gd.good rfl) ?_
 refine ix (by omega) ?_
 refine ln ?_
 refine mks tbOk (fun l : (List Int) => AV.slice true (l.map intAV)) [] (((gI W n).res).length : Int) rfl rfl rfl rfl rfl rfl rfl (by omega) (by rw [show Try.prog.bytesOf 36 = 24 from rfl]; omega) (by omega) rfl ?_
 refine cvN 61 (a := 3) (j := 0) rfl rfl ?_
 refine cv0 ?_
 refine callM [2, 5, 6, 0, 1, 4, 3] [.cells [vS ((gI W n).name), vL (((gI W n).ins).map inAV), vL (((gI W n).res).map resAV), vL (((gI W n).outs).map prtAV)], .obj (.cells (ownC intAV ((exprsS (gI W n) W (sig0 (gI W n))).zs))), .cells [.ms 5 ((((gI W n).res.length : Int)).toNat) ((((gI W n).res.length : Int)).toNat)], .cells [.own (W.map stkAV), .own (nd.map (lstAV intAV)), .own (od.map (lstAV intAV))], .cells [.loc 0 0], .cells [.own (((exprsS (gI W n) W (sig0 (gI W n))).st).map intAV)], .cells [.av (.err 61 ((exprsS (gI W n) W (sig0 (gI W n))).er))]] (.tup []) rfl (fun bs mm gd => u_exprs (gI W n) W nd od _ (bs.getD 2 0) (bs.getD 6 0) (bs.getD 5 0) (bs.getD 1 0) (bs.getD 0 0) (bs.getD 4 0) (bs.getD 3 0) (sig0 (gI W n)) hs (sig0_bd _) (Int.toNat_natCast _) (by omega) mm gd) ?_
 refine sq ?_
 refine an (fun h1 => ?_) (fun h1 => ?_)
 · refine cvP 5 _ _ rfl rfl rfl ?_
   refine cvW (i := 6) intAV ((exprsS (gI W n) W (sig0 (gI W n))).zs) rfl ?_
   refine cvfM (i := 6) (a := 5) (j := 0) (w := 1) (f := (lstAV intAV)) ((exprsS (gI W n) W (sig0 (gI W n))).zs) (((exprsS (gI W n) W (sig0 (gI W n))).zs).map (lstAV intAV)) rfl rfl rfl rfl (fun _ => rfl) (by decide) (fun _ => rfl) (by exact ⟨by omega, by omega⟩) (by rw [List.take_of_length_le (by omega)]) ?_
   refine call0 (fun _ => u_waves ((exprsS (gI W n) W (sig0 (gI W n))).zs) (by omega) (fun z hz => by have := hbd.z z hz; omega)) rfl ?_
   refine sq ?_
   refine an (fun h2 => ?_) (fun h2 => ?_)
   · refine rgA tbOk Try.mixed (σ := Unit) (.o 0 (.o 1 (.f 2 (.f 3 (.f 4 (.o 5 (.s 6 (.s 7 (.s 8 (.f 9 (.f 10 (.f 11 (.s 12 .d))))))) (.o 6 (.o 5 (.s 7 (.s 8 (.f 9 (.f 10 (.f 11 (.s 12 .d)))))) (.o 7 (.s 5 (.s 8 (.f 9 (.f 10 (.f 11 (.s 12 .d)))))) .z)) .z))))) (.o 6 (.o 1 (.f 2 (.f 3 (.f 4 (.o 5 (.s 7 (.s 8 (.f 9 (.f 10 (.f 11 (.s 12 .d)))))) (.o 7 (.s 5 (.s 8 (.f 9 (.f 10 (.f 11 (.s 12 .d)))))) .z))))) (.o 7 (.s 1 (.f 2 (.f 3 (.f 4 (.s 5 (.s 8 (.f 9 (.f 10 (.f 11 (.s 12 .d)))))))))) .z)) .z)) (.o 1 (.f 2 (.f 3 (.f 4 (.o 0 (.o 5 (.s 6 (.s 7 (.s 8 (.f 9 (.f 10 (.f 11 (.s 12 .d))))))) (.o 6 (.o 5 (.s 7 (.s 8 (.f 9 (.f 10 (.f 11 (.s 12 .d)))))) (.o 7 (.s 5 (.s 8 (.f 9 (.f 10 (.f 11 (.s 12 .d)))))) .z)) .z)) (.o 5 (.o 0 (.s 6 (.s 7 (.s 8 (.f 9 (.f 10 (.f 11 (.s 12 .d))))))) (.o 6 (.o 0 (.s 7 (.s 8 (.f 9 (.f 10 (.f 11 (.s 12 .d)))))) (.o 7 (.o 0 (.s 8 (.f 9 (.f 10 (.f 11 (.s 12 .d))))) (.o 8 (.s 0 (.f 9 (.f 10 (.f 11 (.s 12 .d))))) .z)) .z)) .z)) (.o 6 (.o 0 (.o 5 (.s 7 (.s 8 (.f 9 (.f 10 (.f 11 (.s 12 .d)))))) (.o 7 (.s 5 (.s 8 (.f 9 (.f 10 (.f 11 (.s 12 .d)))))) .z)) (.o 5 (.o 0 (.s 7 (.s 8 (.f 9 (.f 10 (.f 11 (.s 12 .d)))))) (.o 7 (.o 0 (.s 8 (.f 9 (.f 10 (.f 11 (.s 12 .d))))) (.o 8 (.s 0 (.f 9 (.f 10 (.f 11 (.s 12 .d))))) .z)) .z)) (.o 7 (.o 0 (.s 5 (.s 8 (.f 9 (.f 10 (.f 11 (.s 12 .d)))))) (.o 5 (.o 0 (.s 8 (.f 9 (.f 10 (.f 11 (.s 12 .d))))) (.o 8 (.s 0 (.f 9 (.f 10 (.f 11 (.s 12 .d))))) .z)) .z)) .z))) .z)))))) (.o 6 (.o 0 (.o 1 (.f 2 (.f 3 (.f 4 (.o 5 (.s 7 (.s 8 (.f 9 (.f 10 (.f 11 (.s 12 .d)))))) (.o 7 (.s 5 (.s 8 (.f 9 (.f 10 (.f 11 (.s 12 .d)))))) .z))))) (.o 7 (.s 1 (.f 2 (.f 3 (.f 4 (.s 5 (.s 8 (.f 9 (.f 10 (.f 11 (.s 12 .d)))))))))) .z)) (.o 1 (.f 2 (.f 3 (.f 4 (.o 0 (.o 5 (.s 7 (.s 8 (.f 9 (.f 10 (.f 11 (.s 12 .d)))))) (.o 7 (.s 5 (.s 8 (.f 9 (.f 10 (.f 11 (.s 12 .d)))))) .z)) (.o 5 (.o 0 (.s 7 (.s 8 (.f 9 (.f 10 (.f 11 (.s 12 .d)))))) (.o 7 (.o 0 (.s 8 (.f 9 (.f 10 (.f 11 (.s 12 .d))))) (.o 8 (.s 0 (.f 9 (.f 10 (.f 11 (.s 12 .d))))) .z)) .z)) (.o 7 (.o 0 (.s 5 (.s 8 (.f 9 (.f 10 (.f 11 (.s 12 .d)))))) (.o 5 (.o 0 (.s 8 (.f 9 (.f 10 (.f 11 (.s 12 .d))))) (.o 8 (.s 0 (.f 9 (.f 10 (.f 11 (.s 12 .d))))) .z)) .z)) .z)))))) (.o 7 (.o 0 (.s 1 (.f 2 (.f 3 (.f 4 (.s 5 (.s 8 (.f 9 (.f 10 (.f 11 (.s 12 .d)))))))))) (.o 1 (.f 2 (.f 3 (.f 4 (.o 0 (.s 5 (.s 8 (.f 9 (.f 10 (.f 11 (.s 12 .d)))))) (.o 5 (.o 0 (.s 8 (.f 9 (.f 10 (.f 11 (.s 12 .d))))) (.o 8 (.s 0 (.f 9 (.f 10 (.f 11 (.s 12 .d))))) .z)) .z))))) .z)) .z))) .z))) [] [2, 9] 6 (fun _ => ([(2, .loc 1 0), (9, vL (((wavR ((exprsS (gI W n) W (sig0 (gI W n))).zs)).1).map intAV))], [.cells [.own (W.map stkAV), .own ((nd ++ ([(exprsS (gI W n) W (sig0 (gI W n))).st] : List (List Int))).map (lstAV intAV)), .own (od.map (lstAV intAV))], .cells [.loc 0 0], .cells [vS ((gI W n).name), vL (((gI W n).ins).map inAV), vL (((gI W n).res).map resAV), vL (((gI W n).outs).map prtAV)], .cells [.av (.err 61 ((wavR ((exprsS (gI W n) W (sig0 (gI W n))).zs)).2))], .cells [.own (((exprsS (gI W n) W (sig0 (gI W n))).st).map intAV)], .cells [vL (((exprsS (gI W n) W (sig0 (gI W n))).zs).map (lstAV intAV))]], m)) (fun _ => True) (by decide +kernel) ?_ ?_
     · rintro _ hy11
       try dsimp only at hy11
       refine rgA tbOk Try.mixed (σ := Unit) (.f 6 (.o 0 (.o 1 (.f 2 (.f 3 (.f 4 (.o 5 (.s 7 (.s 8 (.f 9 (.f 10 (.f 11 (.s 12 .d)))))) (.o 7 (.s 5 (.s 8 (.f 9 (.f 10 (.f 11 (.s 12 .d)))))) .z))))) (.o 7 (.s 1 (.f 2 (.f 3 (.f 4 (.s 5 (.s 8 (.f 9 (.f 10 (.f 11 (.s 12 .d)))))))))) .z)) (.o 1 (.f 2 (.f 3 (.f 4 (.o 0 (.o 5 (.s 7 (.s 8 (.f 9 (.f 10 (.f 11 (.s 12 .d)))))) (.o 7 (.s 5 (.s 8 (.f 9 (.f 10 (.f 11 (.s 12 .d)))))) .z)) (.o 5 (.o 0 (.s 7 (.s 8 (.f 9 (.f 10 (.f 11 (.s 12 .d)))))) (.o 7 (.o 0 (.s 8 (.f 9 (.f 10 (.f 11 (.s 12 .d))))) (.o 8 (.s 0 (.f 9 (.f 10 (.f 11 (.s 12 .d))))) .z)) .z)) (.o 7 (.o 0 (.s 5 (.s 8 (.f 9 (.f 10 (.f 11 (.s 12 .d)))))) (.o 5 (.o 0 (.s 8 (.f 9 (.f 10 (.f 11 (.s 12 .d))))) (.o 8 (.s 0 (.f 9 (.f 10 (.f 11 (.s 12 .d))))) .z)) .z)) .z)))))) (.o 7 (.o 0 (.s 1 (.f 2 (.f 3 (.f 4 (.s 5 (.s 8 (.f 9 (.f 10 (.f 11 (.s 12 .d)))))))))) (.o 1 (.f 2 (.f 3 (.f 4 (.o 0 (.s 5 (.s 8 (.f 9 (.f 10 (.f 11 (.s 12 .d)))))) (.o 5 (.o 0 (.s 8 (.f 9 (.f 10 (.f 11 (.s 12 .d))))) (.o 8 (.s 0 (.f 9 (.f 10 (.f 11 (.s 12 .d))))) .z)) .z))))) .z)) .z)))) [] [] 6 (fun _ => ([], [.cells [.own (W.map stkAV), .own ((nd ++ ([(exprsS (gI W n) W (sig0 (gI W n))).st] : List (List Int))).map (lstAV intAV)), .own ((od ++ ([(wavR ((exprsS (gI W n) W (sig0 (gI W n))).zs)).1] : List (List Int))).map (lstAV intAV))], .cells [.loc 0 0], .cells [vS ((gI W n).name), vL (((gI W n).ins).map inAV), vL (((gI W n).res).map resAV), vL (((gI W n).outs).map prtAV)], .cells [.av (.err 61 ((wavR ((exprsS (gI W n) W (sig0 (gI W n))).zs)).2))], .cells [.own (((exprsS (gI W n) W (sig0 (gI W n))).st).map intAV)], .cells [vL (((exprsS (gI W n) W (sig0 (gI W n))).zs).map (lstAV intAV))]], m)) (fun _ => True) (by decide +kernel) ?_ ?_
       · rintro _ hy12
         try dsimp only at hy12
         have e0 : stackE (gI W n) W = (0 : Int) := by
          simp [stackE, stackN, stackO, h1, h2]
         have e1 : stackN (gI W n) W nd = (nd ++ ([(exprsS (gI W n) W (sig0 (gI W n))).st] : List (List Int)) : List (List Int)) := by
          simp [stackE, stackN, stackO, h1, h2]
         have e2 : stackO (gI W n) W od = (od ++ ([(wavR ((exprsS (gI W n) W (sig0 (gI W n))).zs)).1] : List (List Int)) : List (List Int)) := by
          simp [stackE, stackN, stackO, h1, h2]
         rw [e0, e1, e2] at hK
         exact rt rfl fun _ => hK
       repeat' first
        | refine ⟨(), ⟨rfl, rfl⟩, trivial⟩
        | refine ap (lstAV intAV) od ([(wavR ((exprsS (gI W n) W (sig0 (gI W n))).zs)).1] : List (List Int)) rfl rfl (fun _ => ⟨rfl, rfl⟩) (by (simp only [List.length_append, List.length_cons, List.length_nil]; omega)) ?_
        | refine ⟨?_, ?_, ?_, trivial⟩
        | refine ⟨?_, ?_, trivial⟩
     repeat' first
      | refine ⟨(), ⟨rfl, rfl⟩, trivial⟩
      | refine ap (lstAV intAV) nd ([(exprsS (gI W n) W (sig0 (gI W n))).st] : List (List Int)) rfl rfl (fun _ => ⟨rfl, rfl⟩) (by (simp only [List.length_append, List.length_cons, List.length_nil]; omega)) ?_
      | refine ⟨?_, ?_, ?_, trivial⟩
      | refine ⟨?_, ?_, trivial⟩
   have e0 : stackE (gI W n) W = ((wavR ((exprsS (gI W n) W (sig0 (gI W n))).zs)).2 : Int) := by
    simp [stackE, stackN, stackO, h1, h2]
   have e1 : stackN (gI W n) W nd = (nd : List (List Int)) := by
    simp [stackE, stackN, stackO, h1, h2]
   have e2 : stackO (gI W n) W od = (od : List (List Int)) := by
    simp [stackE, stackN, stackO, h1, h2]
   rw [e0, e1, e2] at hK
   exact rt rfl fun _ => hK
 have e0 : stackE (gI W n) W = ((exprsS (gI W n) W (sig0 (gI W n))).er : Int) := by
  simp [stackE, stackN, stackO, h1]
 have e1 : stackN (gI W n) W nd = (nd : List (List Int)) := by
  simp [stackE, stackN, stackO, h1]
 have e2 : stackO (gI W n) W od = (od : List (List Int)) := by
  simp [stackE, stackN, stackO, h1]
 rw [e0, e1, e2] at hK
 exact rt rfl fun _ => hK
end Go.Proofs
end
section
namespace Go.Proofs
open Go Go.Aw Go.Sx
set_option maxRecDepth 100000
def fstE {α : Type} (f : α → Int) : List α → Int
  | [] => 0
  | x :: r => if f x = 0 then fstE f r else f x
theorem fstE_drop {α : Type} [Inhabited α] {f : α → Int} {l : List α} {i : Int} (h0 : 0 ≤ i) (hi : i < l.length) : fstE f (l.drop i.toNat) = if f (gI l i) = 0 then fstE f (l.drop (i + 1).toNat) else f (gI l i) := by rw [drop_gI h0 hi, fstE]
theorem fstE_all {α : Type} {f : α → Int} : ∀ {l : List α}, fstE f l = 0 ↔ ∀ x ∈ l, f x = 0
  | [] => by simp [fstE]
  | x :: r => by
    rw [fstE]
    split
    · rename_i h; rw [fstE_all]; simp [h]
    · rename_i h; simp [h]
def agn (s : StkT) : Bool := (decide (¬ (s.ins.map Prod.fst).Nodup) || decide (¬ (s.res.map ResT.name).Nodup)) || decide (¬ (s.outs.map Prod.fst).Nodup)
def needN (l : List StkT) (s : StkT) : List Int := (exprsS s l (sig0 s)).st
def ordN (l : List StkT) (s : StkT) : List Int := (wavR (exprsS s l (sig0 s)).zs).1
def needsL (l : List StkT) : List (List Int) := l.map (needN l)
def ordsL (l : List StkT) : List (List Int) := l.map (ordN l)
def ck3 (l : List StkT) (a : Int) : Int := if a ≠ 0 then a else (wavR (needsL l)).2
def ck2 (l : List StkT) (b : Bool) : Int := if b = true then 6 else ck3 l (fstE (fun s => stackE s l) l)
def ck1 (l : List StkT) (a : Int) : Int := if a ≠ 0 then a else if ¬ (l.map StkT.name).Nodup then 6 else ck2 l (l.any agn)
noncomputable def chkE (l : List StkT) : Int := if 8 < (l.length : Int) then 2 else ck1 l (fstE stkE l)
theorem any_drop {α : Type} [Inhabited α] {f : α → Bool} {l : List α} {i : Int} (h0 : 0 ≤ i) (hi : i < l.length) : (l.drop i.toNat).any f = (f (gI l i) || (l.drop (i + 1).toNat).any f) := by rw [drop_gI h0 hi]; rfl
theorem need_len {l : List StkT} {s : StkT} (hs : StkOk s) : ((needN l s).length : Int) ≤ 10000 := (exprs_bd hs l).s
theorem take_map_succ {α β : Type} [Inhabited α] (f : α → β) {l : List α} {i : Int} (h0 : 0 ≤ i) (hi : i < l.length) : (l.take (i + 1).toNat).map f = (l.take i.toNat).map f ++ [f (gI l i)] := by
  rw [take_succ_gI h0 hi, List.map_append]; rfl
set_option maxHeartbeats 8000000 in
theorem u_checked (l : List StkT)  (m : AMem)  (K : AV → AMem → Prop) (hE : chkE l ≠ 0 → K (.tuple [.nilptr, .err 61 (chkE l)]) m) (hK : chkE l = 0 → ∀ b, m b = none → K (.tuple [.ptr ⟨b, 0, none⟩, .err 61 0]) (m.upd b (some (.cells [.slice true (l.map stkAV), .slice true ((needsL l).map (lstAV intAV)), .slice true ((ordsL l).map (lstAV intAV))])))) : ACalls Try.prog 7 [.slice false (l.map stkAV)] m K := by
 refine enter (c := cf [] [0] [15] [22999] [22] []) (vs := [.av (.slice false (l.map stkAV))]) (L := []) (m := m) true tbOk Try.mixed Try.func7 rfl (k := 1) (by show fnOk [22999] _ _ _ = true; decide +kernel) rfl (Good.nil m) ?_
 refine ⟨fun F0 => ?_⟩
 have hbd0_0 : l.length ≤ 140737488355328 := bd_map (o := false) (F0 0).1
 refine sq ?_
 refine ln ?_
 refine an (fun h1 => ?_) (fun h1 => ?_)
 · refine rt0 rfl fun _ => ?_
   show K (.tuple [.nilptr, .err 61 2]) m
   have e : chkE l = 2 := by
     rw [chkE, if_pos h1]
   rw [e] at hE; exact hE (by first | decide | assumption)
 have hc1 : chkE l = ck1 l (fstE stkE l) := by rw [chkE, if_neg (by omega)]
 refine sq ?_
 refine ln ?_
 refine lp (σ := Int) [] [0, 20, 21, 22] 0 (fun i => ([(0, vL (l.map stkAV)), (20, vL (l.map stkAV)), (21, vI (l.length : Int)), (22, vI i)], [], m)) (fun i => 0 ≤ i ∧ i ≤ l.length ∧ fstE stkE l = fstE stkE (l.drop i.toNat)) (fun i => l.length - i.toNat) (0) ⟨rfl, rfl⟩ ?_ ?_
 · try dsimp only
   exact ⟨by omega, by omega, rfl⟩
 rintro i hI
 refine sq ?_
 refine an (fun h2 => ?_) (fun h2 => ?_)
 · refine sq ?_
   refine ix (by omega) ?_
   refine call0 (fun _ => u_CheckStack (gI l i)) rfl ?_
   refine an (fun h3 => ?_) (fun h3 => ?_)
   · refine an (by omega) ?_
     refine ⟨(i + 1), ⟨rfl, rfl⟩, ?_, ?_⟩
     · try dsimp only
       exact ⟨by omega, by omega, by rw [hI.2.2, fstE_drop hI.1 h2, if_pos h3]⟩
     try dsimp only
     omega
   refine rt0 rfl fun _ => ?_
   show K (.tuple [.nilptr, .err 61 (stkE (gI l i))]) m
   have e : chkE l = (stkE (gI l i)) := by
     have q : fstE stkE l = stkE (gI l i) := by rw [hI.2.2, fstE_drop hI.1 h2, if_neg h3]
     rw [hc1, q, ck1, if_pos h3]
   rw [e] at hE; exact hE (by first | decide | assumption)
 have hz0 : fstE stkE l = 0 := by rw [hI.2.2, List.drop_eq_nil_of_le (by omega)]; rfl
 have hall := fstE_all.1 hz0
 refine sq ?_
 refine call0 (fun _ => u_twiceStack l) rfl ?_
 refine an (fun h4 => ?_) (fun h4 => ?_)
 · refine rt0 rfl fun _ => ?_
   show K (.tuple [.nilptr, .err 61 6]) m
   have e : chkE l = 6 := by
     rw [hc1, ck1, if_neg (not_not_intro hz0), if_pos (of_decide_eq_true h4)]
   rw [e] at hE; exact hE (by first | decide | assumption)
 have hnm : (l.map StkT.name).Nodup := Classical.not_not.1 (of_decide_eq_false h4)
 have hc2 : chkE l = ck2 l (l.any agn) := by rw [hc1, ck1, if_neg (not_not_intro hz0), if_neg (not_not_intro hnm)]
 refine sq ?_
 refine ln ?_
 refine lp (σ := Int) [] [0, 35, 36, 37] 0 (fun i2 => ([(0, vL (l.map stkAV)), (35, vL (l.map stkAV)), (36, vI (l.length : Int)), (37, vI i2)], [], m)) (fun i2 => 0 ≤ i2 ∧ i2 ≤ l.length ∧ chkE l = ck2 l ((l.drop i2.toNat).any agn)) (fun i2 => l.length - i2.toNat) (0) ⟨rfl, rfl⟩ ?_ ?_
 · try dsimp only
   exact ⟨by omega, by omega, hc2⟩
 rintro i2 hI2
 refine sq ?_
 refine an (fun h5 => ?_) (fun h5 => ?_)
 · refine sq ?_
   refine ix (by omega) ?_
   refine mg [0, 35, 36, 37] 53 (((decide (¬ (((gI l i2).ins).map Prod.fst).Nodup)) || (decide (¬ (((gI l i2).res).map ResT.name).Nodup))) || (decide (¬ (((gI l i2).outs).map Prod.fst).Nodup))) ?_ ?_
   · repeat' first
      | exact ⟨⟨_, rfl, by grind [SB.val]⟩, rfl⟩
      | refine an (fun _ => ?_) (fun _ => ?_)
      | refine call0 (fun _ => u_twiceInput ((gI l i2).ins)) rfl ?_
      | refine call0 (fun _ => u_twiceResource ((gI l i2).res)) rfl ?_
      | refine call0 (fun _ => u_twiceOutput ((gI l i2).outs)) rfl ?_
   refine an (fun h6 => ?_) (fun h6 => ?_)
   · replace h6 : ((decide (¬ (((gI l i2).ins).map Prod.fst).Nodup) = true) ∨ (decide (¬ (((gI l i2).res).map ResT.name).Nodup) = true)) ∨ (decide (¬ (((gI l i2).outs).map Prod.fst).Nodup) = true) := ((borT h6).imp (fun q => ((borT q).imp (fun q => q) (fun q => q))) (fun q => q))
     refine rt0 rfl fun _ => ?_
     show K (.tuple [.nilptr, .err 61 6]) m
     have e : chkE l = 6 := by
       have q : agn (gI l i2) = true := by rcases h6 with (h | h) | h <;> simp [agn, h]
       rw [hI2.2.2, any_drop hI2.1 h5, q]; rfl
     rw [e] at hE; exact hE (by first | decide | assumption)
   replace h6 : ((decide (¬ (((gI l i2).ins).map Prod.fst).Nodup) = false) ∧ (decide (¬ (((gI l i2).res).map ResT.name).Nodup) = false)) ∧ (decide (¬ (((gI l i2).outs).map Prod.fst).Nodup) = false) := ⟨⟨(borL (borL h6)), (borR (borL h6))⟩, (borR h6)⟩
   refine an (by omega) ?_
   refine ⟨(i2 + 1), ⟨rfl, rfl⟩, ?_, ?_⟩
   · try dsimp only
     exact ⟨by omega, by omega, by rw [hI2.2.2, any_drop hI2.1 h5, agn, h6.1.1, h6.1.2, h6.2]; rfl⟩
   try dsimp only
   omega
 have hc3 : chkE l = ck3 l (fstE (fun s => stackE s l) l) := by rw [hI2.2.2, List.drop_eq_nil_of_le (by omega)]; rfl
 refine sq ?_
 refine ln ?_
 refine lp (σ := Int × List StkT) [] [0, 9, 58, 59, 60] 1 (fun ⟨i3, xs⟩ => ([(0, vL (l.map stkAV)), (9, .loc 0 0), (58, vL (l.map stkAV)), (59, vI (l.length : Int)), (60, vI i3)], [.cells [.own (xs.map stkAV), .own [], .own []]], m)) (fun ⟨i3, xs⟩ => 0 ≤ i3 ∧ i3 ≤ l.length ∧ xs = l.take i3.toNat) (fun ⟨i3, xs⟩ => l.length - i3.toNat) (0, []) ⟨rfl, rfl⟩ ?_ ?_
 · try dsimp only
   exact ⟨by omega, by omega, rfl⟩
 rintro ⟨i3, xs⟩ hI3
 dsimp only at hI3
 have hxl : (xs.length : Int) = i3 := by rw [hI3.2.2, List.length_take]; omega
 refine sq ?_
 refine an (fun h7 => ?_) (fun h7 => ?_)
 · refine sq ?_
   refine ix (by omega) ?_
   refine rgA tbOk Try.mixed (σ := Unit) (.f 0 (.f 1 (.f 2 (.f 3 (.f 4 (.o 5 (.s 6 (.s 7 (.s 8 (.s 9 (.f 10 (.f 11 (.f 12 (.s 13 .d)))))))) (.o 6 (.o 5 (.s 7 (.s 8 (.s 9 (.f 10 (.f 11 (.f 12 (.s 13 .d))))))) (.o 7 (.o 5 (.s 8 (.s 9 (.f 10 (.f 11 (.f 12 (.s 13 .d)))))) (.o 8 (.s 5 (.s 9 (.f 10 (.f 11 (.f 12 (.s 13 .d)))))) .z)) .z)) .z))))))) [] [0, 9, 58, 59, 60] 2 (fun _ => ([(0, vL (l.map stkAV)), (9, .loc 0 0), (58, vL (l.map stkAV)), (59, vI (l.length : Int)), (60, vI i3)], [.cells [.own ((xs ++ ([(gI l i3)] : List StkT)).map stkAV), .own [], .own []], .cells [vS ((gI l i3).name), vL (((gI l i3).ins).map inAV), vL (((gI l i3).res).map resAV), vL (((gI l i3).outs).map prtAV)]], m)) (fun _ => True) (by decide +kernel) ?_ ?_
   · rintro _ hy22
     try dsimp only at hy22
     refine an (by omega) ?_
     refine ⟨(i3 + 1, xs ++ ([(gI l i3)] : List StkT)), ⟨rfl, rfl⟩, ?_, ?_⟩
     · try dsimp only
       exact ⟨by omega, by omega, by rw [take_succ_gI hI3.1 (by assumption), ← hI3.2.2]⟩
     try dsimp only
     omega
   repeat' first
    | refine ⟨(), ⟨rfl, rfl⟩, trivial⟩
    | refine call0 (fun _ => u_CopyS (gI l i3) (hall _ (gI_mem hI3.1 (by assumption)))) rfl ?_
    | refine ap stkAV xs ([(gI l i3)] : List StkT) rfl rfl (fun _ => ⟨rfl, rfl⟩) (by (simp only [List.length_append, List.length_cons, List.length_nil]; omega)) ?_
    | refine ⟨?_, ?_, trivial⟩
 obtain rfl : l = xs := by have := hI3.2.2; rw [take_full (by omega)] at this; exact this.symm
 refine sq ?_
 refine ln ?_
 refine lp (σ := Int × List (List Int) × List (List Int)) [] [9, 79, 80] 1 (fun ⟨i4, nd, od⟩ => ([(9, .loc 0 0), (79, vI (l.length : Int)), (80, vI i4)], [.cells [.own (l.map stkAV), .own (nd.map (lstAV intAV)), .own (od.map (lstAV intAV))]], m)) (fun ⟨i4, nd, od⟩ => 0 ≤ i4 ∧ i4 ≤ l.length ∧ chkE l = ck3 l (fstE (fun s => stackE s l) (l.drop i4.toNat)) ∧ nd = (l.take i4.toNat).map (needN l) ∧ od = (l.take i4.toNat).map (ordN l)) (fun ⟨i4, nd, od⟩ => l.length - i4.toNat) (0, [], []) ⟨rfl, rfl⟩ ?_ ?_
 · try dsimp only
   exact ⟨by omega, by omega, hc3, rfl, rfl⟩
 rintro ⟨i4, nd, od⟩ hI4
 dsimp only at hI4
 have hndl : (nd.length : Int) = i4 := by rw [hI4.2.2.2.1, List.length_map, List.length_take]; omega
 have hodl : (od.length : Int) = i4 := by rw [hI4.2.2.2.2, List.length_map, List.length_take]; omega
 refine sq ?_
 refine an (fun h8 => ?_) (fun h8 => ?_)
 · refine sq ?_
   refine callM [0] [.cells [.own (l.map stkAV), .own ((stackN (gI l i4) l nd).map (lstAV intAV)), .own ((stackO (gI l i4) l od).map (lstAV intAV))]] (.av (.err 61 (stackE (gI l i4) l))) rfl (fun bs mm gd => u_stack l nd od i4 (bs.getD 0 0) hI4.1 (by assumption) (stk_ok (hall _ (gI_mem hI4.1 (by assumption)))) (by omega) (by omega) (by omega) mm gd) ?_
   refine an (fun h9 => ?_) (fun h9 => ?_)
   · refine an (by omega) ?_
     refine ⟨(i4 + 1, (stackN (gI l i4) l nd), (stackO (gI l i4) l od)), ⟨rfl, rfl⟩, ?_, ?_⟩
     · try dsimp only
       exact ⟨by omega, by omega, by rw [hI4.2.2.1, fstE_drop hI4.1 h8, if_pos h9], by rw [stackN, if_pos h9, take_map_succ _ hI4.1 h8, ← hI4.2.2.2.1]; rfl, by rw [stackO, if_pos h9, take_map_succ _ hI4.1 h8, ← hI4.2.2.2.2]; rfl⟩
     try dsimp only
     omega
   refine rt0 rfl fun _ => ?_
   show K (.tuple [.nilptr, .err 61 (stackE (gI l i4) l)]) m
   have e : chkE l = (stackE (gI l i4) l) := by
     rw [hI4.2.2.1, fstE_drop hI4.1 h8, if_neg h9, ck3, if_pos h9]
   rw [e] at hE; exact hE (by first | decide | assumption)
 have hz4 : chkE l = (wavR (needsL l)).2 := by rw [hI4.2.2.1, List.drop_eq_nil_of_le (by omega)]; rfl
 have hnd : nd = needsL l := by rw [hI4.2.2.2.1, take_full (by omega)]; rfl
 have hod : od = ordsL l := by rw [hI4.2.2.2.2, take_full (by omega)]; rfl
 have hnb : ∀ z ∈ nd, z.length ≤ 1048576 := fun z hz => by
   rw [hnd] at hz
   obtain ⟨s, hs, rfl⟩ := List.mem_map.1 hz
   have := need_len (l := l) (stk_ok (hall s hs)); omega
 refine call0 (fun _ => u_waves nd (by omega) (fun z hz => hnb z hz)) rfl ?_
 refine sq ?_
 refine an (fun h10 => ?_) (fun h10 => ?_)
 · subst hnd
   subst hod
   exact rtk fun new g => by
     obtain ⟨b, rfl, hb⟩ := good_one g
     have hz : chkE l = 0 := hz4.trans h10
     exact hK hz b hb
 refine rt0 rfl fun _ => ?_
 show K (.tuple [.nilptr, .err 61 ((wavR nd).2)]) m
 have e : chkE l = (wavR nd).2 := by
   rw [hnd]; exact hz4
 rw [e] at hE; exact hE (by first | decide | assumption)
end Go.Proofs
end
section
namespace Go.Proofs
open Go Go.Aw Go.Sx
set_option maxRecDepth 100000
set_option maxHeartbeats 8000000 in
theorem u_CCheck (l : List StkT)  (m : AMem)  (K : AV → AMem → Prop) (hE : chkE l ≠ 0 → K (.tuple [.agg [.slice false [], .slice false [], .slice false []], .err 61 (chkE l)]) m) (hK : chkE l = 0 → K (.tuple [.agg [.slice false (l.map stkAV), .slice false ((needsL l).map (lstAV intAV)), .slice false ((ordsL l).map (lstAV intAV))], .err 61 0]) m) : ACalls Try.prog 4 [.slice false (l.map stkAV)] m K := by
 refine enter (c := cf [] [1] [] [] [] []) (vs := [.av (.slice false (l.map stkAV))]) (L := []) (m := m) true tbOk Try.mixed Try.func4 rfl (k := 1) (by show fnOk [] _ _ _ = true; decide +kernel) rfl (Good.nil m) ?_
 refine ⟨fun _ => ?_⟩
 rcases Classical.em (chkE l = 0) with hc | hc
 · refine callPE 61 (.cells [.own (l.map stkAV), .own ((needsL l).map (lstAV intAV)), .own ((ordsL l).map (lstAV intAV))]) (.cells [.slice true (l.map stkAV), .slice true ((needsL l).map (lstAV intAV)), .slice true ((ordsL l).map (lstAV intAV))]) (fun _ => rfl) rfl (fun bs mm hl ht K hK => u_checked l mm K (fun h => absurd hc h) (fun _ => hK)) ?_
   refine sq ?_
   refine an (fun h1 => ?_) (fun h1 => ?_)
   · refine rt0 rfl fun _ => ?_
     show K (.tuple [.agg [.slice false (l.map stkAV), .slice false ((needsL l).map (lstAV intAV)), .slice false ((ordsL l).map (lstAV intAV))], .err 61 0]) m
     exact hK hc
   refine rt0 rfl fun _ => ?_
   show K (.tuple [.agg [.slice false [], .slice false [], .slice false []], .err 61 0]) m
   exact absurd rfl h1
 · refine call0 (fun _ => fun m K hK => u_checked l m K (fun _ => hK) (fun h => absurd h hc)) rfl ?_
   refine sq ?_
   refine an (fun h2 => ?_) (fun h2 => ?_)
   · exact absurd h2 hc
   refine rt0 rfl fun _ => ?_
   show K (.tuple [.agg [.slice false [], .slice false [], .slice false []], .err 61 (chkE l)]) m
   exact hE hc
end Go.Proofs
end
section
namespace Go.Proofs
open Go Go.Aw Go.Sx
set_option maxRecDepth 100000
set_option maxHeartbeats 4000000 in
theorem u_LightStacks (l : List StkT)  (m : AMem)  (K : AV → AMem → Prop) (hK : ∀ b : Bool, (b = true → (l.length : Int) ≤ 12) → K (.bool b) m) : ACalls Try.prog 5 [.slice false (l.map stkAV)] m K := by
 refine enter (c := cf [28, 64, 72, 93, 97, 121, 129, 149, 157] [0] [9, 16, 23, 27] [] [] []) (vs := [.av (.slice false (l.map stkAV))]) (L := []) (m := m) false tbOk Try.mixed Try.func5 rfl (k := 1) (by show fnOk [] _ _ _ = true; decide +kernel) rfl (Good.nil m) ?_
 refine ⟨fun F0 => ?_⟩
 have hbd0_0 : l.length ≤ 140737488355328 := bd_map (o := false) (F0 0).1
 refine sq ?_
 refine ln ?_
 refine an (fun h1 => ?_) (fun h1 => ?_)
 · refine rt0 rfl fun _ => ?_
   show K (.bool false) m
   exact hK _ (fun hb => by first | omega | cases hb)
 refine sq ?_
 refine lp (σ := Int × Int) [] [0, 3, 4] 0 (fun ⟨n1, i⟩ => ([(0, vL (l.map stkAV)), (3, vI n1), (4, vI i)], [], m)) (fun ⟨n1, i⟩ => 0 ≤ i ∧ i ≤ l.length) (fun ⟨n1, i⟩ => l.length - i.toNat) (0, 0) ⟨rfl, rfl⟩ ?_ ?_
 · try dsimp only
   first | omega | (refine ⟨?_, ?_⟩ <;> first | omega | simp) | simp
 rintro ⟨n1, i⟩ hI
 dsimp only at hI
 refine sq ?_
 refine ln ?_
 refine an (fun h2 => ?_) (fun h2 => ?_)
 · refine sq ?_
   refine ix (by omega) ?_
   refine sq ?_
   refine mg [0, 3, 4, 5] 48 ((((decide (9000 < IntKind.i64.wrap (n1 + (((gI l i).name).length : Int)))) || (decide (12 < (((gI l i).ins).length : Int)))) || (decide (12 < (((gI l i).res).length : Int)))) || (decide (12 < (((gI l i).outs).length : Int)))) ?_ ?_
   · repeat' first
      | exact ⟨⟨_, rfl, by grind [SB.val]⟩, rfl⟩
      | refine an (fun _ => ?_) (fun _ => ?_)
      | refine ln ?_
   refine an (fun h3 => ?_) (fun h3 => ?_)
   · replace h3 : (((9000 < IntKind.i64.wrap (n1 + (((gI l i).name).length : Int))) ∨ (12 < (((gI l i).ins).length : Int))) ∨ (12 < (((gI l i).res).length : Int))) ∨ (12 < (((gI l i).outs).length : Int)) := ((borT h3).imp (fun q => ((borT q).imp (fun q => ((borT q).imp (fun q => (of_decide_eq_true q)) (fun q => (of_decide_eq_true q)))) (fun q => (of_decide_eq_true q)))) (fun q => (of_decide_eq_true q)))
     refine rt0 rfl fun _ => ?_
     show K (.bool false) m
     exact hK _ (fun hb => by first | omega | cases hb)
   replace h3 : (((IntKind.i64.wrap (n1 + (((gI l i).name).length : Int)) ≤ 9000) ∧ ((((gI l i).ins).length : Int) ≤ 12)) ∧ ((((gI l i).res).length : Int) ≤ 12)) ∧ ((((gI l i).outs).length : Int) ≤ 12) := ⟨⟨⟨(Int.not_lt.1 (of_decide_eq_false (borL (borL (borL h3))))), (Int.not_lt.1 (of_decide_eq_false (borR (borL (borL h3)))))⟩, (Int.not_lt.1 (of_decide_eq_false (borR (borL h3))))⟩, (Int.not_lt.1 (of_decide_eq_false (borR h3)))⟩
   refine sq ?_
   refine lp (σ := Int × Int) [] [0, 3, 4, 5, 6] 1 (fun ⟨n2, k1⟩ => ([(0, vL (l.map stkAV)), (3, vI n2), (4, vI i), (5, .loc 0 0), (6, vI k1)], [.cells [vS ((gI l i).name), vL (((gI l i).ins).map inAV), vL (((gI l i).res).map resAV), vL (((gI l i).outs).map prtAV)]], m)) (fun ⟨n2, k1⟩ => 0 ≤ k1 ∧ k1 ≤ (gI l i).ins.length) (fun ⟨n2, k1⟩ => (gI l i).ins.length - k1.toNat) (IntKind.i64.wrap (n1 + (((gI l i).name).length : Int)), 0) ⟨rfl, rfl⟩ ?_ ?_
   · try dsimp only
     first | omega | (refine ⟨?_, ?_⟩ <;> first | omega | simp) | simp
   rintro ⟨n2, k1⟩ hI2
   dsimp only at hI2
   refine sq ?_
   refine ln ?_
   refine an (fun h4 => ?_) (fun h4 => ?_)
   · refine sq ?_
     refine ix (by omega) ?_
     refine ix (by omega) ?_
     refine pure0 (fun _ => u_weight 9000 (depV ((gI ((gI l i).ins) k1).2) + 1) ((gI ((gI l i).ins) k1).2) (Nat.lt_succ_self _)) ?_
     refine an (by omega) ?_
     refine ⟨(IntKind.i64.wrap ((IntKind.i64.wrap (n2 + (((gI ((gI l i).ins) k1).1).length : Int))) + (weightV 9000 ((gI ((gI l i).ins) k1).2))), k1 + 1), ⟨rfl, rfl⟩, ?_, ?_⟩
     · try dsimp only
       (first | omega | (simp_all; done) | (simp_all; omega))
     try dsimp only
     omega
   refine sq ?_
   refine lp (σ := Int × Int) [] [0, 3, 4, 5, 7] 1 (fun ⟨n3, k2⟩ => ([(0, vL (l.map stkAV)), (3, vI n3), (4, vI i), (5, .loc 0 0), (7, vI k2)], [.cells [vS ((gI l i).name), vL (((gI l i).ins).map inAV), vL (((gI l i).res).map resAV), vL (((gI l i).outs).map prtAV)]], m)) (fun ⟨n3, k2⟩ => 0 ≤ k2 ∧ k2 ≤ (gI l i).res.length) (fun ⟨n3, k2⟩ => (gI l i).res.length - k2.toNat) (n2, 0) ⟨rfl, rfl⟩ ?_ ?_
   · try dsimp only
     first | omega | (refine ⟨?_, ?_⟩ <;> first | omega | simp) | simp
   rintro ⟨n3, k2⟩ hI3
   dsimp only at hI3
   refine sq ?_
   refine mg [0, 3, 4, 5, 7] 81 ((decide (k2 < (((gI l i).res).length : Int))) && (decide (n3 < 9000))) ?_ ?_
   · repeat' first
      | exact ⟨⟨_, rfl, by grind [SB.val]⟩, rfl⟩
      | refine an (fun _ => ?_) (fun _ => ?_)
      | refine ln ?_
   refine an (fun h5 => ?_) (fun h5 => ?_)
   · replace h5 : (k2 < (((gI l i).res).length : Int)) ∧ (n3 < 9000) := ⟨(of_decide_eq_true (bandL h5)), (of_decide_eq_true (bandR h5))⟩
     refine sq ?_
     refine ix (by omega) ?_
     refine sq ?_
     refine ln ?_
     refine an (fun h6 => ?_) (fun h6 => ?_)
     · refine rt0 rfl fun _ => ?_
       show K (.bool false) m
       exact hK _ (fun hb => by first | omega | cases hb)
     refine lp (σ := Int × Int) [] [0, 3, 4, 5, 7, 8, 9] 2 (fun ⟨n4, k3⟩ => ([(0, vL (l.map stkAV)), (3, vI n4), (4, vI i), (5, .loc 0 0), (7, vI k2), (8, .loc 1 0), (9, vI k3)], [.cells [vS ((gI l i).name), vL (((gI l i).ins).map inAV), vL (((gI l i).res).map resAV), vL (((gI l i).outs).map prtAV)], .cells [vS ((gI ((gI l i).res) k2).kind), vS ((gI ((gI l i).res) k2).name), vL (((gI ((gI l i).res) k2).parts).map prtAV)]], m)) (fun ⟨n4, k3⟩ => 0 ≤ k3 ∧ k3 ≤ (gI (gI l i).res k2).parts.length) (fun ⟨n4, k3⟩ => (gI (gI l i).res k2).parts.length - k3.toNat) (IntKind.i64.wrap ((IntKind.i64.wrap (n3 + (((gI ((gI l i).res) k2).kind).length : Int))) + (((gI ((gI l i).res) k2).name).length : Int)), 0) ⟨rfl, rfl⟩ ?_ ?_
     · try dsimp only
       first | omega | (refine ⟨?_, ?_⟩ <;> first | omega | simp) | simp
     rintro ⟨n4, k3⟩ hI4
     dsimp only at hI4
     refine sq ?_
     refine mg [0, 3, 4, 5, 7, 8, 9] 110 ((decide (k3 < (((gI ((gI l i).res) k2).parts).length : Int))) && (decide (n4 < 9000))) ?_ ?_
     · repeat' first
        | exact ⟨⟨_, rfl, by grind [SB.val]⟩, rfl⟩
        | refine an (fun _ => ?_) (fun _ => ?_)
        | refine ln ?_
     refine an (fun h7 => ?_) (fun h7 => ?_)
     · replace h7 : (k3 < (((gI ((gI l i).res) k2).parts).length : Int)) ∧ (n4 < 9000) := ⟨(of_decide_eq_true (bandL h7)), (of_decide_eq_true (bandR h7))⟩
       refine sq ?_
       refine ix (by omega) ?_
       refine ix (by omega) ?_
       refine pure0 (fun _ => u_load 9000 (depE ((gI ((gI ((gI l i).res) k2).parts) k3).2) + 1) ((gI ((gI ((gI l i).res) k2).parts) k3).2) (Nat.lt_succ_self _)) ?_
       refine an (by omega) ?_
       refine ⟨(IntKind.i64.wrap ((IntKind.i64.wrap (n4 + (((gI ((gI ((gI l i).res) k2).parts) k3).1).length : Int))) + (loadE 9000 ((gI ((gI ((gI l i).res) k2).parts) k3).2))), k3 + 1), ⟨rfl, rfl⟩, ?_, ?_⟩
       · try dsimp only
         (first | omega | (simp_all; done) | (simp_all; omega))
       try dsimp only
       omega
     replace h7 : ((((gI ((gI l i).res) k2).parts).length : Int) ≤ k3) ∨ (9000 ≤ n4) := ((bandF h7).imp (fun q => (Int.not_lt.1 (of_decide_eq_false q))) (fun q => (Int.not_lt.1 (of_decide_eq_false q))))
     refine an (by omega) ?_
     refine ⟨(n4, k2 + 1), ⟨rfl, rfl⟩, ?_, ?_⟩
     · try dsimp only
       (first | omega | (simp_all; done) | (simp_all; omega))
     try dsimp only
     omega
   replace h5 : ((((gI l i).res).length : Int) ≤ k2) ∨ (9000 ≤ n3) := ((bandF h5).imp (fun q => (Int.not_lt.1 (of_decide_eq_false q))) (fun q => (Int.not_lt.1 (of_decide_eq_false q))))
   refine sq ?_
   refine lp (σ := Int × Int) [] [0, 3, 4, 5, 10] 1 (fun ⟨n5, k4⟩ => ([(0, vL (l.map stkAV)), (3, vI n5), (4, vI i), (5, .loc 0 0), (10, vI k4)], [.cells [vS ((gI l i).name), vL (((gI l i).ins).map inAV), vL (((gI l i).res).map resAV), vL (((gI l i).outs).map prtAV)]], m)) (fun ⟨n5, k4⟩ => 0 ≤ k4 ∧ k4 ≤ (gI l i).outs.length) (fun ⟨n5, k4⟩ => (gI l i).outs.length - k4.toNat) (n3, 0) ⟨rfl, rfl⟩ ?_ ?_
   · try dsimp only
     first | omega | (refine ⟨?_, ?_⟩ <;> first | omega | simp) | simp
   rintro ⟨n5, k4⟩ hI4
   dsimp only at hI4
   refine sq ?_
   refine mg [0, 3, 4, 5, 10] 138 ((decide (k4 < (((gI l i).outs).length : Int))) && (decide (n5 < 9000))) ?_ ?_
   · repeat' first
      | exact ⟨⟨_, rfl, by grind [SB.val]⟩, rfl⟩
      | refine an (fun _ => ?_) (fun _ => ?_)
      | refine ln ?_
   refine an (fun h8 => ?_) (fun h8 => ?_)
   · replace h8 : (k4 < (((gI l i).outs).length : Int)) ∧ (n5 < 9000) := ⟨(of_decide_eq_true (bandL h8)), (of_decide_eq_true (bandR h8))⟩
     refine sq ?_
     refine ix (by omega) ?_
     refine ix (by omega) ?_
     refine pure0 (fun _ => u_load 9000 (depE ((gI ((gI l i).outs) k4).2) + 1) ((gI ((gI l i).outs) k4).2) (Nat.lt_succ_self _)) ?_
     refine an (by omega) ?_
     refine ⟨(IntKind.i64.wrap ((IntKind.i64.wrap (n5 + (((gI ((gI l i).outs) k4).1).length : Int))) + (loadE 9000 ((gI ((gI l i).outs) k4).2))), k4 + 1), ⟨rfl, rfl⟩, ?_, ?_⟩
     · try dsimp only
       (first | omega | (simp_all; done) | (simp_all; omega))
     try dsimp only
     omega
   replace h8 : ((((gI l i).outs).length : Int) ≤ k4) ∨ (9000 ≤ n5) := ((bandF h8).imp (fun q => (Int.not_lt.1 (of_decide_eq_false q))) (fun q => (Int.not_lt.1 (of_decide_eq_false q))))
   refine an (fun h9 => ?_) (fun h9 => ?_)
   · refine rt0 rfl fun _ => ?_
     show K (.bool false) m
     exact hK _ (fun hb => by first | omega | cases hb)
   refine an (by omega) ?_
   refine ⟨(n5, i + 1), ⟨rfl, rfl⟩, ?_, ?_⟩
   · try dsimp only
     (first | omega | (simp_all; done) | (simp_all; omega))
   try dsimp only
   omega
 refine rt0 rfl fun _ => ?_
 show K (.bool true) m
 exact hK _ (fun hb => by first | omega | cases hb)
end Go.Proofs
end
