import Derived.Test.YtfpbolgpaipiiaaProg
import Derived.Test.YtfpbolgpaipiiaaMix
import Derived.Test.YtfpbolgpaipiiaaWwZ
import Derived.Test.YtfpbolgpaipiiaaGr3
namespace Go.Proofs
open Go Go.Aw
set_option maxRecDepth 100000


/-- What is reached from some on. -/
inductive Rch (f : Int → List Int) (l : List Int) : Int → Prop
  | here {x : Int} (h : x ∈ l) : Rch f l x
  | step {x y : Int} (h : Rch f l x) (hy : y ∈ f x) : Rch f l y
noncomputable def rchL (f : Int → List Int) (l : List Int) (n : Int) : List Int := (upto n).filter fun x => @decide (Rch f l x) (Classical.propDecidable _)
def okIn (n : Int) (l : List Int) : Bool := okL n l
def falses (l : List Bool) : Nat := (l.filter (!·)).length
theorem falses_set {l : List Bool} {x : Int} (h0 : 0 ≤ x) (h1 : x < l.length) (h : gI l x = false) : falses (l.set x.toNat true) + 1 = falses l := by
  obtain ⟨n, rfl⟩ := Int.eq_ofNat_of_zero_le h0
  simp only [Int.toNat_natCast]
  have hn : n < l.length := by omega
  have hg : l[n] = false := by simpa [gI, List.getD_eq_getElem?_getD, hn] using h
  have e := List.take_append_drop n l
  have e2 : l.drop n = l[n] :: l.drop (n + 1) := List.drop_eq_getElem_cons hn
  have e3 : l.set n true = l.take n ++ true :: l.drop (n + 1) := by rw [List.set_eq_take_append_cons_drop, if_pos hn]
  rw [e3]
  conv => rhs; rw [← e, e2, hg]
  simp [falses]; omega
theorem gI_set {α : Type} [Inhabited α] {l : List α} {x y : Int} {v : α} (h0 : 0 ≤ x) (h1 : x < l.length) (h2 : 0 ≤ y) : gI (l.set x.toNat v) y = if y = x then v else gI l y := by
  have hx : x.toNat < l.length := by omega
  simp only [gI, List.getD_eq_getElem?_getD, List.getElem?_set]
  by_cases h : y = x
  · subst h; simp [hx]
  · have : x.toNat ≠ y.toNat := by omega
    simp [h, this]
def SeenI (n : Int) (f : Int → List Int) (l : List Int) (seen : List Bool) (todo : List Int) : Prop :=
  (∀ x ∈ l, gI seen x = true ∨ x ∈ todo) ∧ (∀ x, 0 ≤ x → x < n → gI seen x = true → ∀ y ∈ f x, gI seen y = true ∨ y ∈ todo) ∧ (∀ x, 0 ≤ x → x < n → gI seen x = true → Rch f l x) ∧ (∀ x ∈ todo, Rch f l x ∧ 0 ≤ x ∧ x < n)
theorem seen_end {n : Int} {f : Int → List Int} {l : List Int} {seen : List Bool} (hr : ∀ x ∈ l, 0 ≤ x ∧ x < n) (hf : ∀ x, 0 ≤ x → x < n → ∀ y ∈ f x, 0 ≤ y ∧ y < n) (h : SeenI n f l seen []) : ∀ x, 0 ≤ x → x < n → (gI seen x = true ↔ Rch f l x) := by
  have key : ∀ x, Rch f l x → gI seen x = true ∧ 0 ≤ x ∧ x < n := by
    intro x hx
    induction hx with
    | here hm => exact ⟨by simpa using h.1 _ hm, hr _ hm⟩
    | step _ hy ih => exact ⟨by simpa using h.2.1 _ ih.2.1 ih.2.2 ih.1 _ hy, hf _ ih.2.1 ih.2.2 _ hy⟩
  exact fun x h0 h1 => ⟨h.2.2.1 x h0 h1, fun hx => (key x hx).1⟩
def seenTo (seen : List Bool) (k : Int) : List Int := (upto k).filter fun x => gI seen x
theorem seenTo_succ {seen : List Bool} {k : Int} (h : 0 ≤ k) : seenTo seen (k + 1) = if gI seen k = true then seenTo seen k ++ [k] else seenTo seen k := by
  rw [seenTo, upto_succ h, List.filter_append]
  by_cases hr : gI seen k = true <;> simp [hr, seenTo]
theorem seenTo_len (seen : List Bool) (k : Int) : (seenTo seen k).length ≤ k.toNat := by
  refine Nat.le_trans (List.length_filter_le _ _) ?_
  simp [upto]
theorem upto_mem {k x : Int} : x ∈ upto k ↔ 0 ≤ x ∧ x < k := by
  simp only [upto, List.mem_map, List.mem_range]
  exact ⟨fun ⟨i, hi, e⟩ => by omega, fun h => ⟨x.toNat, by omega, by omega⟩⟩
theorem seenTo_eq {n : Int} {f : Int → List Int} {l : List Int} {seen : List Bool} (h : ∀ x, 0 ≤ x → x < n → (gI seen x = true ↔ Rch f l x)) : seenTo seen n = rchL f l n := by
  unfold seenTo rchL
  refine List.filter_congr fun x hx => ?_
  have := upto_mem.1 hx
  rw [Bool.eq_iff_iff]
  exact (h x this.1 this.2).trans (@decide_eq_true_iff _ (Classical.propDecidable _)).symm
def underF (needs : List (List Int)) (k : Int) : List Int := gI needs k
def overTo (needs : List (List Int)) (x k : Int) : List Int := (upto k).flatMap fun i => ((gI needs i).filter (· == x)).map fun _ => i
def overF (needs : List (List Int)) (x : Int) : List Int := overTo needs x needs.length
theorem overTo_succ {needs : List (List Int)} {x k : Int} (h : 0 ≤ k) : overTo needs x (k + 1) = overTo needs x k ++ ((gI needs k).filter (· == x)).map fun _ => k := by
  rw [overTo, upto_succ h, List.flatMap_append]; simp [overTo]
theorem overTo_le {needs : List (List Int)} {x : Int} (B : Nat) (hl : ∀ l ∈ needs, l.length ≤ B) : ∀ k : Nat, k ≤ needs.length → (overTo needs x k).length ≤ k * B := by
  intro k
  induction k with
  | zero => intro _; simp [overTo, upto]
  | succ k ih =>
    intro hk
    have e : ((k + 1 : Nat) : Int) = (k : Int) + 1 := by omega
    rw [e, overTo_succ (by omega), List.length_append, List.length_map, Nat.succ_mul]
    have h1 := ih (by omega)
    have h2 := hl _ (gI_mem (l := needs) (i := (k : Int)) (by omega) (by omega))
    have h3 := List.length_filter_le (· == x) (gI needs k)
    omega
theorem nodup_two {b g : Nat} (h : b ≠ g) : [b, g].Nodup := by simp [h]

theorem u_Under1 (b g : Nat) (k : Int) (needs : List (List Int)) (hbg : b ≠ g) (h0 : 0 ≤ k) (h1 : k < needs.length) (m : AMem)  (K : AV → AMem → Prop) (hK : K (.slice false ((underF needs k).map intAV)) (AMem.wth m [(b, .cells [.ptr ⟨g, 0, none⟩]), (g, .cells [.slice true (needs.map (lstAV intAV))])])) : ACalls Try.prog 28 [.int .i64 k, .ptr ⟨b, 0, none⟩] (AMem.wth m [(b, .cells [.ptr ⟨g, 0, none⟩]), (g, .cells [.slice true (needs.map (lstAV intAV))])]) K := by
  refine acalls_enter Try.func28 rfl (by decide) (Nat.le_of_ble_eq_true rfl) ?_
  show AWP _ _ _ _ [(0, .int .i64 k), (1, .ptr ⟨b, 0, none⟩)] (AMem.wth m [(b, .cells [.ptr ⟨g, 0, none⟩]), (g, .cells [.slice true (needs.map (lstAV intAV))])])
  refine awp_reg2_seq [] [0, 1] (by decide) ?_
  intro K1 hK1
  refine ⟨trivial, ?_⟩
  show K1 [(0, .int .i64 k), (1, .ptr ⟨b, 0, none⟩)] (AMem.wth m [(b, .cells [.ptr ⟨g, 0, none⟩]), (g, .cells [.slice true (needs.map (lstAV intAV))])])
  refine hK1 _ _ ?_; clear hK1 K1
  refine awp_reg2_seq [] [3] (by decide) ?_
  intro K1 hK1
  refine ar_loadp rfl (m := m) (L := [(b, .cells [.ptr ⟨g, 0, none⟩]), (g, .cells [.slice true (needs.map (lstAV intAV))])]) (v := .ptr ⟨g, 0, none⟩) rfl (wth_get (m := m) (L := [(b, .cells [.ptr ⟨g, 0, none⟩]), (g, .cells [.slice true (needs.map (lstAV intAV))])]) 0 (nodup_two hbg) rfl) rfl (apartOk_one rfl rfl (Nat.le_of_ble_eq_true rfl)) rfl ?_
  refine ⟨trivial, ⟨rfl, by decide⟩, ?_⟩
  refine ar_loadp rfl (m := m) (L := [(b, .cells [.ptr ⟨g, 0, none⟩]), (g, .cells [.slice true (needs.map (lstAV intAV))])]) (v := .slice false (needs.map (lstAV intAV))) rfl (wth_get (m := m) (L := [(b, .cells [.ptr ⟨g, 0, none⟩]), (g, .cells [.slice true (needs.map (lstAV intAV))])]) 1 (nodup_two hbg) rfl) rfl (apartOk_one rfl rfl (Nat.le_of_ble_eq_true rfl)) rfl ?_
  refine ⟨trivial, ?_⟩
  refine ar_index rfl (lstAV intAV) needs k rfl rfl rfl rfl rfl (by decide) (fun _ => rfl) (by omega) (by omega) ?_
  refine ⟨(apartOk_one rfl rfl (Nat.le_of_ble_eq_true rfl)), trivial, ?_⟩
  show K1 [(3, .slice false ((gI needs k).map intAV))] (AMem.wth m [(b, .cells [.ptr ⟨g, 0, none⟩]), (g, .cells [.slice true (needs.map (lstAV intAV))])])
  refine hK1 _ _ ?_; clear hK1 K1
  refine awp_ret ?_
  refine ⟨trivial, (AMem.wth m [(b, .cells [.ptr ⟨g, 0, none⟩]), (g, .cells [.slice true (needs.map (lstAV intAV))])]), fun _ _ h => h, ?_⟩
  show K (.slice false ((gI needs k).map intAV)) (AMem.wth m [(b, .cells [.ptr ⟨g, 0, none⟩]), (g, .cells [.slice true (needs.map (lstAV intAV))])])
 
  exact hK

theorem u_Over1 (b g : Nat) (x : Int) (needs : List (List Int)) (hbg : b ≠ g) (hn : needs.length ≤ 64) (hl : ∀ l ∈ needs, l.length ≤ 1048576) (m : AMem)  (K : AV → AMem → Prop) (hK : K (.slice false ((overF needs x).map intAV)) (AMem.wth m [(b, .cells [.ptr ⟨g, 0, none⟩]), (g, .cells [.slice true (needs.map (lstAV intAV))])])) : ACalls Try.prog 29 [.int .i64 x, .ptr ⟨b, 0, none⟩] (AMem.wth m [(b, .cells [.ptr ⟨g, 0, none⟩]), (g, .cells [.slice true (needs.map (lstAV intAV))])]) K := by
  refine acalls_enter Try.func29 rfl (by decide) (Nat.le_of_ble_eq_true rfl) ?_
  show AWP _ _ _ _ [(0, .int .i64 x), (1, .ptr ⟨b, 0, none⟩)] (AMem.wth m [(b, .cells [.ptr ⟨g, 0, none⟩]), (g, .cells [.slice true (needs.map (lstAV intAV))])])
  refine awp_reg2_seq [] [0, 1] (by decide) ?_
  intro K1 hK1
  refine ⟨trivial, ?_⟩
  show K1 [(0, .int .i64 x), (1, .ptr ⟨b, 0, none⟩)] (AMem.wth m [(b, .cells [.ptr ⟨g, 0, none⟩]), (g, .cells [.slice true (needs.map (lstAV intAV))])])
  refine hK1 _ _ ?_; clear hK1 K1
  refine awp_reg2_seq [] [0, 1, 4] (by decide) ?_
  intro K1 hK1
  refine ⟨trivial, ?_⟩
  show K1 [(0, .int .i64 x), (1, .ptr ⟨b, 0, none⟩), (4, .slice true [])] (AMem.wth m [(b, .cells [.ptr ⟨g, 0, none⟩]), (g, .cells [.slice true (needs.map (lstAV intAV))])])
  refine hK1 _ _ ?_; clear hK1 K1
  refine awp_seq_k ?_; intro K2 hK2
  refine awp_reg2_seq [] [0, 4, 12, 13, 14] (by decide) ?_
  intro K1 hK1
  refine ar_loadp rfl (m := m) (L := [(b, .cells [.ptr ⟨g, 0, none⟩]), (g, .cells [.slice true (needs.map (lstAV intAV))])]) (v := .ptr ⟨g, 0, none⟩) rfl (wth_get (m := m) (L := [(b, .cells [.ptr ⟨g, 0, none⟩]), (g, .cells [.slice true (needs.map (lstAV intAV))])]) 0 (nodup_two hbg) rfl) rfl (apartOk_one rfl rfl (Nat.le_of_ble_eq_true rfl)) rfl ?_
  refine ⟨trivial, ⟨rfl, by decide⟩, ?_⟩
  refine ar_loadp rfl (m := m) (L := [(b, .cells [.ptr ⟨g, 0, none⟩]), (g, .cells [.slice true (needs.map (lstAV intAV))])]) (v := .slice false (needs.map (lstAV intAV))) rfl (wth_get (m := m) (L := [(b, .cells [.ptr ⟨g, 0, none⟩]), (g, .cells [.slice true (needs.map (lstAV intAV))])]) 1 (nodup_two hbg) rfl) rfl (apartOk_one rfl rfl (Nat.le_of_ble_eq_true rfl)) rfl ?_
  refine ar_len rfl (lstAV intAV) needs rfl rfl rfl ?_
  refine ⟨trivial, ?_⟩
  show K1 [(0, .int .i64 x), (4, .slice true []), (12, .slice false (needs.map (lstAV intAV))), (13, .int .i64 (needs.length : Int)), (14, .int .i64 0)] (AMem.wth m [(b, .cells [.ptr ⟨g, 0, none⟩]), (g, .cells [.slice true (needs.map (lstAV intAV))])])
  refine hK1 _ _ ?_; clear hK1 K1
  refine awp_block ?_
  refine awp_keep [0, 4, 12, 13, 14] (by decide) ?_
  refine awp_loop_st (σ := (List Int) × Int) (fun ⟨out, i⟩ => [(0, .int .i64 x), (4, .slice true (out.map intAV)), (12, .slice false (needs.map (lstAV intAV))), (13, .int .i64 (needs.length : Int)), (14, .int .i64 i)]) (fun _ => (AMem.wth m [(b, .cells [.ptr ⟨g, 0, none⟩]), (g, .cells [.slice true (needs.map (lstAV intAV))])])) (fun ⟨out, i⟩ => 0 ≤ i ∧ i ≤ needs.length ∧ out = overTo needs x i) (fun ⟨out, i⟩ => needs.length - i.toNat) ([], 0) rfl rfl ?_ ?_
  · show 0 ≤ ((0 : Int)) ∧ ((0 : Int)) ≤ needs.length ∧ (([] : (List Int))) = overTo needs x ((0 : Int))
    exact ⟨by omega, by omega, by simp [overTo, upto]⟩
  · rintro ⟨out, i⟩ hI
    replace hI : 0 ≤ i ∧ i ≤ needs.length ∧ out = overTo needs x i := hI
    show AWP _ _ _ _ [(0, .int .i64 x), (4, .slice true (out.map intAV)), (12, .slice false (needs.map (lstAV intAV))), (13, .int .i64 (needs.length : Int)), (14, .int .i64 i)] (AMem.wth m [(b, .cells [.ptr ⟨g, 0, none⟩]), (g, .cells [.slice true (needs.map (lstAV intAV))])])
    refine awp_reg2_seq [] [0, 4, 12, 13, 14, 15] (by decide) ?_
    intro K1 hK1
    refine ⟨trivial, ?_⟩
    show K1 [(0, .int .i64 x), (4, .slice true (out.map intAV)), (12, .slice false (needs.map (lstAV intAV))), (13, .int .i64 (needs.length : Int)), (14, .int .i64 i), (15, .bool (decide (i < (needs.length : Int))))] (AMem.wth m [(b, .cells [.ptr ⟨g, 0, none⟩]), (g, .cells [.slice true (needs.map (lstAV intAV))])])
    refine hK1 _ _ ?_; clear hK1 K1
    refine awp_seq_k ?_; intro K3 hK3
    refine awp_cond rfl rfl (fun h1 => ?_) (fun h1 => ?_)
    · replace h1 : i < (needs.length : Int) := (of_decide_eq_true h1)
      have hlj := hl _ (gI_mem (l := needs) (i := i) hI.1 h1)
      have hov := overTo_le (needs := needs) (x := x) 1048576 hl i.toNat (by omega)
      rw [Int.toNat_of_nonneg hI.1] at hov
      have hiB : i.toNat * 1048576 ≤ 64 * 1048576 := Nat.mul_le_mul_right _ (by omega)
      refine awp_skip ?_
      refine hK3 _ _ ?_; clear hK3
      refine awp_seq_k ?_; intro K4 hK4
      refine awp_block ?_
      refine awp_reg2_seq [] [0, 4, 5, 6, 12, 13, 14] (by decide) ?_
      intro K1 hK1
      refine ⟨trivial, ?_⟩
      refine ar_index rfl (lstAV intAV) needs i rfl rfl rfl rfl rfl (by decide) (fun _ => rfl) (by omega) (by omega) ?_
      refine ⟨(apartOk_one rfl rfl (Nat.le_of_ble_eq_true rfl)), trivial, trivial, ?_⟩
      show K1 [(0, .int .i64 x), (4, .slice true (out.map intAV)), (5, .int .i64 i), (6, .slice false ((gI needs i).map intAV)), (12, .slice false (needs.map (lstAV intAV))), (13, .int .i64 (needs.length : Int)), (14, .int .i64 i)] (AMem.wth m [(b, .cells [.ptr ⟨g, 0, none⟩]), (g, .cells [.slice true (needs.map (lstAV intAV))])])
      refine hK1 _ _ ?_; clear hK1 K1
      refine awp_reg2_seq [] [0, 4, 5, 12, 13, 14, 19, 20, 21] (by decide) ?_
      intro K1 hK1
      refine ⟨trivial, ?_⟩
      refine ar_len rfl intAV (gI needs i) rfl rfl rfl ?_
      refine ⟨trivial, ?_⟩
      show K1 [(0, .int .i64 x), (4, .slice true (out.map intAV)), (5, .int .i64 i), (12, .slice false (needs.map (lstAV intAV))), (13, .int .i64 (needs.length : Int)), (14, .int .i64 i), (19, .slice false ((gI needs i).map intAV)), (20, .int .i64 ((gI needs i).length : Int)), (21, .int .i64 0)] (AMem.wth m [(b, .cells [.ptr ⟨g, 0, none⟩]), (g, .cells [.slice true (needs.map (lstAV intAV))])])
      refine hK1 _ _ ?_; clear hK1 K1
      refine awp_block ?_
      refine awp_keep [0, 4, 5, 12, 13, 14, 19, 20, 21] (by decide) ?_
      refine awp_loop_st (σ := (List Int) × Int) (fun ⟨out2, j⟩ => [(0, .int .i64 x), (4, .slice true (out2.map intAV)), (5, .int .i64 i), (12, .slice false (needs.map (lstAV intAV))), (13, .int .i64 (needs.length : Int)), (14, .int .i64 i), (19, .slice false ((gI needs i).map intAV)), (20, .int .i64 ((gI needs i).length : Int)), (21, .int .i64 j)]) (fun _ => (AMem.wth m [(b, .cells [.ptr ⟨g, 0, none⟩]), (g, .cells [.slice true (needs.map (lstAV intAV))])])) (fun ⟨out2, j⟩ => 0 ≤ j ∧ j ≤ (gI needs i).length ∧ out2 = overTo needs x i ++ (((gI needs i).take j.toNat).filter (· == x)).map (fun _ => i)) (fun ⟨out2, j⟩ => (gI needs i).length - j.toNat) (out, 0) rfl rfl ?_ ?_
      · show 0 ≤ ((0 : Int)) ∧ ((0 : Int)) ≤ (gI needs i).length ∧ ((out : (List Int))) = overTo needs x i ++ (((gI needs i).take ((0 : Int)).toNat).filter (· == x)).map (fun _ => i)
        exact ⟨by omega, by omega, by rw [hI.2.2]; simp⟩
      · rintro ⟨out2, j⟩ hI2
        replace hI2 : 0 ≤ j ∧ j ≤ (gI needs i).length ∧ out2 = overTo needs x i ++ (((gI needs i).take j.toNat).filter (· == x)).map (fun _ => i) := hI2
        show AWP _ _ _ _ [(0, .int .i64 x), (4, .slice true (out2.map intAV)), (5, .int .i64 i), (12, .slice false (needs.map (lstAV intAV))), (13, .int .i64 (needs.length : Int)), (14, .int .i64 i), (19, .slice false ((gI needs i).map intAV)), (20, .int .i64 ((gI needs i).length : Int)), (21, .int .i64 j)] (AMem.wth m [(b, .cells [.ptr ⟨g, 0, none⟩]), (g, .cells [.slice true (needs.map (lstAV intAV))])])
        refine awp_reg2_seq [] [0, 4, 5, 12, 13, 14, 19, 20, 21, 22] (by decide) ?_
        intro K1 hK1
        refine ⟨trivial, ?_⟩
        show K1 [(0, .int .i64 x), (4, .slice true (out2.map intAV)), (5, .int .i64 i), (12, .slice false (needs.map (lstAV intAV))), (13, .int .i64 (needs.length : Int)), (14, .int .i64 i), (19, .slice false ((gI needs i).map intAV)), (20, .int .i64 ((gI needs i).length : Int)), (21, .int .i64 j), (22, .bool (decide (j < ((gI needs i).length : Int))))] (AMem.wth m [(b, .cells [.ptr ⟨g, 0, none⟩]), (g, .cells [.slice true (needs.map (lstAV intAV))])])
        refine hK1 _ _ ?_; clear hK1 K1
        refine awp_seq_k ?_; intro K5 hK5
        refine awp_cond rfl rfl (fun h2 => ?_) (fun h2 => ?_)
        · replace h2 : j < ((gI needs i).length : Int) := (of_decide_eq_true h2)
          have hob : out2.length ≤ 65 * 1048576 := by
            rw [hI2.2.2, List.length_append, List.length_map]
            have := List.length_filter_le (· == x) ((gI needs i).take j.toNat)
            rw [List.length_take] at this
            omega
          refine awp_skip ?_
          refine hK5 _ _ ?_; clear hK5
          refine awp_seq_k ?_; intro K6 hK6
          refine awp_block ?_
          refine awp_reg2_seq [] [0, 4, 5, 8, 12, 13, 14, 19, 20, 21] (by decide) ?_
          intro K1 hK1
          refine ar_index rfl intAV (gI needs i) j rfl rfl rfl rfl rfl (by decide) (fun _ => rfl) (by omega) (by omega) ?_
          refine ⟨(apartOk_one rfl rfl (Nat.le_of_ble_eq_true rfl)), trivial, ?_⟩
          show K1 [(0, .int .i64 x), (4, .slice true (out2.map intAV)), (5, .int .i64 i), (8, .int .i64 (gI (gI needs i) j)), (12, .slice false (needs.map (lstAV intAV))), (13, .int .i64 (needs.length : Int)), (14, .int .i64 i), (19, .slice false ((gI needs i).map intAV)), (20, .int .i64 ((gI needs i).length : Int)), (21, .int .i64 j)] (AMem.wth m [(b, .cells [.ptr ⟨g, 0, none⟩]), (g, .cells [.slice true (needs.map (lstAV intAV))])])
          refine hK1 _ _ ?_; clear hK1 K1
          refine awp_reg2_seq [] [0, 4, 5, 12, 13, 14, 19, 20, 21, 27] (by decide) ?_
          intro K1 hK1
          refine ⟨trivial, trivial, trivial, ?_⟩
          show K1 [(0, .int .i64 x), (4, .slice true (out2.map intAV)), (5, .int .i64 i), (12, .slice false (needs.map (lstAV intAV))), (13, .int .i64 (needs.length : Int)), (14, .int .i64 i), (19, .slice false ((gI needs i).map intAV)), (20, .int .i64 ((gI needs i).length : Int)), (21, .int .i64 j), (27, .bool ((gI (gI needs i) j) == x))] (AMem.wth m [(b, .cells [.ptr ⟨g, 0, none⟩]), (g, .cells [.slice true (needs.map (lstAV intAV))])])
          refine hK1 _ _ ?_; clear hK1 K1
          refine awp_cond rfl rfl (fun h3 => ?_) (fun h3 => ?_)
          · replace h3 : gI (gI needs i) j = x := (eq_of_beq h3)
            refine awp_reg2 [28] [0, 4, 5, 12, 13, 14, 19, 20, 21] (by decide) ?_
            intro K1 hK1
            refine ⟨trivial, trivial, ⟨rfl, Nat.le_of_ble_eq_true rfl, rfl, Nat.le_of_ble_eq_true rfl, rfl, by simp only [List.forall_mem_cons]; exact ⟨⟨rfl, rfl⟩, fun _ h => by cases h⟩⟩, ?_⟩
            refine ar_append rfl intAV out2 ([i] : List Int) rfl rfl rfl rfl rfl rfl (Nat.le_of_ble_eq_true rfl) rfl (by (simp only [show Try.prog.bytesOf 3 = 8 from rfl, List.length_append, List.length_cons, List.length_nil]; omega)) (by (first | omega | (simp only [List.length_append, List.length_cons, List.length_nil]; omega))) (fun _ => ⟨rfl, rfl⟩) ?_
            refine ⟨trivial, ?_⟩
            show K1 [(0, .int .i64 x), (4, .slice true ((out2 ++ ([i] : List Int)).map intAV)), (5, .int .i64 i), (12, .slice false (needs.map (lstAV intAV))), (13, .int .i64 (needs.length : Int)), (14, .int .i64 i), (19, .slice false ((gI needs i).map intAV)), (20, .int .i64 ((gI needs i).length : Int)), (21, .int .i64 j)] (AMem.wth m [(b, .cells [.ptr ⟨g, 0, none⟩]), (g, .cells [.slice true (needs.map (lstAV intAV))])])
            refine hK1 _ _ ?_; clear hK1 K1
            refine hK6 _ _ ?_; clear hK6
            refine awp_reg2 [] [0, 4, 5, 12, 13, 14, 19, 20, 21] (by decide) ?_
            intro K1 hK1
            refine ar_add rfl (a := j) (b := 1) rfl rfl (by omega) (by omega) ?_
            refine ⟨trivial, ?_⟩
            show K1 [(0, .int .i64 x), (4, .slice true ((out2 ++ ([i] : List Int)).map intAV)), (5, .int .i64 i), (12, .slice false (needs.map (lstAV intAV))), (13, .int .i64 (needs.length : Int)), (14, .int .i64 i), (19, .slice false ((gI needs i).map intAV)), (20, .int .i64 ((gI needs i).length : Int)), (21, .int .i64 (j + 1))] (AMem.wth m [(b, .cells [.ptr ⟨g, 0, none⟩]), (g, .cells [.slice true (needs.map (lstAV intAV))])])
            refine hK1 _ _ ?_; clear hK1 K1
            refine ⟨(out2 ++ ([i] : List Int), j + 1), rfl, rfl, ?_, ?_⟩
            · show 0 ≤ ((j + 1 : Int)) ∧ ((j + 1 : Int)) ≤ (gI needs i).length ∧ ((out2 ++ ([i] : List Int) : (List Int))) = overTo needs x i ++ (((gI needs i).take ((j + 1 : Int)).toNat).filter (· == x)).map (fun _ => i)
              exact ⟨by omega, by omega, by rw [take_succ_gI hI2.1 h2, hI2.2.2, List.filter_append, List.map_append, h3]; simp⟩
            · show (gI needs i).length - ((j + 1 : Int)).toNat < (gI needs i).length - j.toNat
              omega
          · replace h3 : gI (gI needs i) j ≠ x := (ne_of_beq_false h3)
            refine awp_skip ?_
            refine hK6 _ _ ?_; clear hK6
            refine awp_reg2 [] [0, 4, 5, 12, 13, 14, 19, 20, 21] (by decide) ?_
            intro K1 hK1
            refine ar_add rfl (a := j) (b := 1) rfl rfl (by omega) (by omega) ?_
            refine ⟨trivial, ?_⟩
            show K1 [(0, .int .i64 x), (4, .slice true (out2.map intAV)), (5, .int .i64 i), (12, .slice false (needs.map (lstAV intAV))), (13, .int .i64 (needs.length : Int)), (14, .int .i64 i), (19, .slice false ((gI needs i).map intAV)), (20, .int .i64 ((gI needs i).length : Int)), (21, .int .i64 (j + 1))] (AMem.wth m [(b, .cells [.ptr ⟨g, 0, none⟩]), (g, .cells [.slice true (needs.map (lstAV intAV))])])
            refine hK1 _ _ ?_; clear hK1 K1
            refine ⟨(out2, j + 1), rfl, rfl, ?_, ?_⟩
            · show 0 ≤ ((j + 1 : Int)) ∧ ((j + 1 : Int)) ≤ (gI needs i).length ∧ out2 = overTo needs x i ++ (((gI needs i).take ((j + 1 : Int)).toNat).filter (· == x)).map (fun _ => i)
              exact ⟨by omega, by omega, by rw [take_succ_gI hI2.1 h2, hI2.2.2, List.filter_append, List.map_append]; simp [h3]⟩
            · show (gI needs i).length - ((j + 1 : Int)).toNat < (gI needs i).length - j.toNat
              omega
        · replace h2 : ((gI needs i).length : Int) ≤ j := (Int.not_lt.1 (of_decide_eq_false h2))
          refine awp_exit ?_
          refine hK4 _ _ ?_; clear hK4
          refine awp_reg2 [] [0, 4, 12, 13, 14] (by decide) ?_
          intro K1 hK1
          refine ar_add rfl (a := i) (b := 1) rfl rfl (by omega) (by omega) ?_
          refine ⟨trivial, ?_⟩
          show K1 [(0, .int .i64 x), (4, .slice true (out2.map intAV)), (12, .slice false (needs.map (lstAV intAV))), (13, .int .i64 (needs.length : Int)), (14, .int .i64 (i + 1))] (AMem.wth m [(b, .cells [.ptr ⟨g, 0, none⟩]), (g, .cells [.slice true (needs.map (lstAV intAV))])])
          refine hK1 _ _ ?_; clear hK1 K1
          refine ⟨(out2, i + 1), rfl, rfl, ?_, ?_⟩
          · show 0 ≤ ((i + 1 : Int)) ∧ ((i + 1 : Int)) ≤ needs.length ∧ ((out2 : (List Int))) = overTo needs x ((i + 1 : Int))
            exact ⟨by omega, by omega, by rw [overTo_succ hI.1, hI2.2.2, take_full h2]⟩
          · show needs.length - ((i + 1 : Int)).toNat < needs.length - i.toNat
            omega
    · replace h1 : (needs.length : Int) ≤ i := (Int.not_lt.1 (of_decide_eq_false h1))
      refine awp_exit ?_
      refine hK2 _ _ ?_; clear hK2
      refine awp_reg2_seq [] [3] (by decide) ?_
      intro K1 hK1
      refine ⟨trivial, trivial, ?_⟩
      show K1 [(3, .slice false (out.map intAV))] (AMem.wth m [(b, .cells [.ptr ⟨g, 0, none⟩]), (g, .cells [.slice true (needs.map (lstAV intAV))])])
      refine hK1 _ _ ?_; clear hK1 K1
      refine awp_ret ?_
      refine ⟨trivial, (AMem.wth m [(b, .cells [.ptr ⟨g, 0, none⟩]), (g, .cells [.slice true (needs.map (lstAV intAV))])]), fun _ _ h => h, ?_⟩
      show K (.slice false (out.map intAV)) (AMem.wth m [(b, .cells [.ptr ⟨g, 0, none⟩]), (g, .cells [.slice true (needs.map (lstAV intAV))])])
     
      refine K_eq hK ?_
      rw [hI.2.2, overF]; congr 3; omega

end Go.Proofs
