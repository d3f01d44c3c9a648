import Derived.Test.YtfpbolgpaipiiaaProg
import Derived.Test.YtfpbolgpaipiiaaMix
import Derived.Test.YtfpbolgpaipiiaaWxa
import Derived.Test.YtfpbolgpaipiiaaGr6
namespace Go.Proofs
open Go Go.Aw
set_option maxRecDepth 100000


theorem SeenI.skip {n : Int} {f : Int → List Int} {l : List Int} {seen : List Bool} {td : List Int} {x : Int} (h : SeenI n f l seen (td ++ [x])) (hx : gI seen x = true) : SeenI n f l seen td := by
  have key : ∀ y, (gI seen y = true ∨ y ∈ td ++ [x]) → gI seen y = true ∨ y ∈ td := fun y hy => by
    rcases hy with hy | hy
    · exact .inl hy
    · rcases List.mem_append.1 hy with hy | hy
      · exact .inr hy
      · simp at hy; subst hy; exact .inl hx
  exact ⟨fun y hy => key y (h.1 y hy), fun z h0 h1 hz y hy => key y (h.2.1 z h0 h1 hz y hy), h.2.2.1, fun y hy => h.2.2.2 y (by simp [hy])⟩
theorem SeenI.add {n : Int} {f : Int → List Int} {l : List Int} {seen : List Bool} {td : List Int} {x : Int} (hn : (seen.length : Int) = n) (h : SeenI n f l seen (td ++ [x])) (hl : okL n l = true) (hf : ∀ x : Int, 0 ≤ x → x < n → okL n (f x) = true) : SeenI n f l (seen.set x.toNat true) (td ++ f x) := by
  have hx := h.2.2.2 x (by simp)
  have hs : ∀ y, 0 ≤ y → (gI (seen.set x.toNat true) y = true ↔ y = x ∨ gI seen y = true) := fun y hy => by
    rw [gI_set hx.2.1 (by omega) hy]
    split
    · simp [*]
    · rename_i hne; simp [hne]
  have hp : ∀ y, (0 ≤ y ∧ y < n) → (gI seen y = true ∨ y ∈ td ++ [x]) → gI (seen.set x.toNat true) y = true ∨ y ∈ td ++ f x := fun y hr hy => by
    rw [hs y hr.1]
    rcases hy with hy | hy
    · exact .inl (.inr hy)
    · rcases List.mem_append.1 hy with hy | hy
      · exact .inr (by simp [hy])
      · simp at hy; exact .inl (.inl hy)
  have hrng : ∀ z, 0 ≤ z → z < n → ∀ y ∈ f z, 0 ≤ y ∧ y < n := fun z h0 h1 y hy => by
    simpa using List.all_eq_true.1 (hf z h0 h1) y hy
  refine ⟨fun y hy => ?_, fun z h0 h1 hz y hy => ?_, fun z h0 h1 hz => ?_, fun y hy => ?_⟩
  · rcases h.1 y hy with h1 | h1
    · have hr : 0 ≤ y ∧ y < n := by simpa using List.all_eq_true.1 hl y hy
      exact .inl ((hs y hr.1).2 (.inr h1))
    · have := h.2.2.2 y h1
      exact hp y this.2 (.inr h1)
  · rcases (hs z h0).1 hz with rfl | hz
    · exact .inr (by simp [hy])
    · exact hp y (hrng z h0 h1 y hy) (h.2.1 z h0 h1 hz y hy)
  · rcases (hs z h0).1 hz with rfl | hz
    · exact hx.1
    · exact h.2.2.1 z h0 h1 hz
  · rcases List.mem_append.1 hy with hy | hy
    · exact h.2.2.2 y (by simp [hy])
    · exact ⟨.step hx.1 hy, hrng x hx.2.1 hx.2.2 y hy⟩


theorem take_pred {zs : List Int} {k : Nat} (h0 : 0 < k) (h : k ≤ zs.length) : zs.take k = zs.take ((k : Int) - 1).toNat ++ [gI zs ((k : Int) - 1)] := by
  have e : k = (((k : Int) - 1) + 1).toNat := by omega
  conv => lhs; rw [e]
  exact take_succ_gI (by omega) (by omega)
theorem SeenI.start {n : Int} {f : Int → List Int} {l : List Int} (h : okL n l = true) : SeenI n f l (List.replicate n.toNat false) l := by
  have hz : ∀ x, gI (List.replicate n.toNat false) x = false := fun x => by
    simp only [gI, List.getD_eq_getElem?_getD, List.getElem?_replicate]
    split <;> rfl
  exact ⟨fun x hx => .inr hx, fun x _ _ hx => (by rw [hz] at hx; cases hx), fun x _ _ hx => (by rw [hz] at hx; cases hx), fun x hx => ⟨.here hx, by simpa using List.all_eq_true.1 h x hx⟩⟩
theorem falses_le_len (l : List Bool) : falses l ≤ l.length := List.length_filter_le _ _
theorem seenTo_rch {n : Int} {f : Int → List Int} {l : List Int} {seen : List Bool} (hl : okL n l = true) (hf : ∀ x : Int, 0 ≤ x → x < n → okL n (f x) = true) (h : SeenI n f l seen []) : seenTo seen n = rchL f l n :=
  seenTo_eq (seen_end (fun x hx => by simpa using List.all_eq_true.1 hl x hx) (fun x h0 h1 y hy => by simpa using List.all_eq_true.1 (hf x h0 h1) y hy) h)
noncomputable def reachF (f : Int → List Int) (l : List Int) (n : Int) : List Int × Int := if okL n l = true then (rchL f l n, 0) else ([], 1)

set_option maxHeartbeats 2000000 in
theorem u_reach (b g F : Nat) (needs : List (List Int)) (l : List Int) (f : Int → List Int) (hbg : b ≠ g) (hn : needs.length ≤ 64) (hll : l.length ≤ 1000) (hf : ∀ x : Int, 0 ≤ x → x < needs.length → okL needs.length (f x) = true) (hB : ∀ x : Int, 0 ≤ x → x < needs.length → (f x).length ≤ 67108864) (hF : ∀ x : Int, 0 ≤ x → x < needs.length → ∀ (m : AMem) (K : AV → AMem → Prop), K (.slice false ((f x).map intAV)) (AMem.wth m [(b, .cells [.ptr ⟨g, 0, none⟩]), (g, .cells [.slice true (needs.map (lstAV intAV))])]) → ACalls Try.prog F [.int .i64 x, .ptr ⟨b, 0, none⟩] (AMem.wth m [(b, .cells [.ptr ⟨g, 0, none⟩]), (g, .cells [.slice true (needs.map (lstAV intAV))])]) K) (m : AMem)  (K : AV → AMem → Prop) (hK : K (.tuple [.slice false ((reachF f l needs.length).1.map intAV), .err 57 (reachF f l needs.length).2]) (AMem.wth m [(b, .cells [.ptr ⟨g, 0, none⟩]), (g, .cells [.slice true (needs.map (lstAV intAV))])])) : ACalls Try.prog 27 [.ptr ⟨g, 0, none⟩, .slice false (l.map intAV), .func (.func F) [] [.ptr ⟨b, 0, none⟩]] (AMem.wth m [(b, .cells [.ptr ⟨g, 0, none⟩]), (g, .cells [.slice true (needs.map (lstAV intAV))])]) K := by
  refine acalls_enter Try.func27 rfl (by decide) (Nat.le_of_ble_eq_true rfl) ?_
  show AWP _ _ _ _ [(0, .ptr ⟨g, 0, none⟩), (1, .slice false (l.map intAV)), (2, .func (.func F) [] [.ptr ⟨b, 0, none⟩])] (AMem.wth m [(b, .cells [.ptr ⟨g, 0, none⟩]), (g, .cells [.slice true (needs.map (lstAV intAV))])])
  refine awp_reg2_seq [] [0, 1, 2] (by decide) ?_
  intro K1 hK1
  refine ⟨trivial, trivial, ?_⟩
  show K1 [(0, .ptr ⟨g, 0, none⟩), (1, .slice false (l.map intAV)), (2, .func (.func F) [] [.ptr ⟨b, 0, none⟩])] (AMem.wth m [(b, .cells [.ptr ⟨g, 0, none⟩]), (g, .cells [.slice true (needs.map (lstAV intAV))])])
  refine hK1 _ _ ?_; clear hK1 K1
  refine awp_reg2_seq [] [0, 1, 2, 8] (by decide) ?_
  intro K1 hK1
  refine ⟨trivial, trivial, ⟨rfl, by decide⟩, ?_⟩
  refine ar_loadp rfl (m := m) (L := [(b, .cells [.ptr ⟨g, 0, none⟩]), (g, .cells [.slice true (needs.map (lstAV intAV))])]) (v := .slice false (needs.map (lstAV intAV))) rfl (wth_get (m := m) (L := [(b, .cells [.ptr ⟨g, 0, none⟩]), (g, .cells [.slice true (needs.map (lstAV intAV))])]) 1 (nodup_two hbg) rfl) rfl (apartOk_one rfl rfl (Nat.le_of_ble_eq_true rfl)) rfl ?_
  refine ar_len rfl (lstAV intAV) needs rfl rfl rfl ?_
  refine ar_makeSlice rfl (m := m) (L := [(b, .cells [.ptr ⟨g, 0, none⟩]), (g, .cells [.slice true (needs.map (lstAV intAV))])]) boolAV false (needs.length : Int) rfl rfl rfl rfl rfl rfl rfl rfl (by omega) (by simp only [show Try.prog.bytesOf 4 = 1 from rfl]; omega) (by omega) ?_
  intro b1 hb1
  have hFb1 : m b1 = none := wth_none (m := m) (L := [(b, .cells [.ptr ⟨g, 0, none⟩]), (g, .cells [.slice true (needs.map (lstAV intAV))])]) hb1
  have hNb1 : ([b1, b, g] : List Nat).Nodup := wth_nodup (m := m) (L := [(b, .cells [.ptr ⟨g, 0, none⟩]), (g, .cells [.slice true (needs.map (lstAV intAV))])]) hb1 (nodup_two hbg)
  refine ⟨trivial, ?_⟩
  show K1 [(0, .ptr ⟨g, 0, none⟩), (1, .slice false (l.map intAV)), (2, .func (.func F) [] [.ptr ⟨b, 0, none⟩]), (8, .ms ⟨b1, 0, none⟩ (((needs.length : Int)).toNat) (((needs.length : Int)).toNat))] (AMem.wth m [(b1, .cells ((List.replicate ((needs.length : Int)).toNat false).map boolAV)), (b, .cells [.ptr ⟨g, 0, none⟩]), (g, .cells [.slice true (needs.map (lstAV intAV))])])
  refine hK1 _ _ ?_; clear hK1 K1
  refine awp_reg2_seq [22] [0, 1, 2, 8, 9] (by decide) ?_
  intro K1 hK1
  refine ar_buildMs0 rfl rfl rfl rfl ?_
  intro b2 hb2
  have hFb2 : m b2 = none := wth_none (m := m) (L := [(b1, .cells ((List.replicate ((needs.length : Int)).toNat false).map boolAV)), (b, .cells [.ptr ⟨g, 0, none⟩]), (g, .cells [.slice true (needs.map (lstAV intAV))])]) hb2
  have hNb2 : ([b2, b1, b, g] : List Nat).Nodup := wth_nodup (m := m) (L := [(b1, .cells ((List.replicate ((needs.length : Int)).toNat false).map boolAV)), (b, .cells [.ptr ⟨g, 0, none⟩]), (g, .cells [.slice true (needs.map (lstAV intAV))])]) hb2 hNb1
  refine ⟨trivial, ?_⟩
  show K1 [(0, .ptr ⟨g, 0, none⟩), (1, .slice false (l.map intAV)), (2, .func (.func F) [] [.ptr ⟨b, 0, none⟩]), (8, .ms ⟨b1, 0, none⟩ (((needs.length : Int)).toNat) (((needs.length : Int)).toNat)), (9, .ms ⟨b2, 0, none⟩ 0 (([] : List Int).length))] (AMem.wth m [(b2, .cells (([] : List Int).map intAV)), (b1, .cells ((List.replicate ((needs.length : Int)).toNat false).map boolAV)), (b, .cells [.ptr ⟨g, 0, none⟩]), (g, .cells [.slice true (needs.map (lstAV intAV))])])
  refine hK1 _ _ ?_; clear hK1 K1
  refine awp_seq_k ?_; intro K2 hK2
  refine awp_reg2_seq [] [0, 2, 8, 9, 23, 24, 25] (by decide) ?_
  intro K1 hK1
  refine ⟨trivial, ?_⟩
  refine ar_len rfl intAV l rfl rfl rfl ?_
  refine ⟨trivial, ?_⟩
  show K1 [(0, .ptr ⟨g, 0, none⟩), (2, .func (.func F) [] [.ptr ⟨b, 0, none⟩]), (8, .ms ⟨b1, 0, none⟩ (((needs.length : Int)).toNat) (((needs.length : Int)).toNat)), (9, .ms ⟨b2, 0, none⟩ 0 (([] : List Int).length)), (23, .slice false (l.map intAV)), (24, .int .i64 (l.length : Int)), (25, .int .i64 0)] (AMem.wth m [(b2, .cells (([] : List Int).map intAV)), (b1, .cells ((List.replicate ((needs.length : Int)).toNat false).map boolAV)), (b, .cells [.ptr ⟨g, 0, none⟩]), (g, .cells [.slice true (needs.map (lstAV intAV))])])
  refine hK1 _ _ ?_; clear hK1 K1
  refine awp_block ?_
  refine awp_keep [0, 2, 8, 9, 23, 24, 25] (by decide) ?_
  refine awp_loop_st (σ := Int × Nat × Nat × (List Int)) (fun ⟨i, bt, k, zs⟩ => [(0, .ptr ⟨g, 0, none⟩), (2, .func (.func F) [] [.ptr ⟨b, 0, none⟩]), (8, .ms ⟨b1, 0, none⟩ (((needs.length : Int)).toNat) (((needs.length : Int)).toNat)), (9, .ms ⟨bt, 0, none⟩ k zs.length), (23, .slice false (l.map intAV)), (24, .int .i64 (l.length : Int)), (25, .int .i64 i)]) (fun ⟨i, bt, k, zs⟩ => (AMem.wth m [(bt, .cells (zs.map intAV)), (b1, .cells ((List.replicate ((needs.length : Int)).toNat false).map boolAV)), (b, .cells [.ptr ⟨g, 0, none⟩]), (g, .cells [.slice true (needs.map (lstAV intAV))])])) (fun ⟨i, bt, k, zs⟩ => ([bt, b1, b, g] : List Nat).Nodup ∧ m bt = none ∧ (0 ≤ i ∧ i ≤ l.length ∧ (k : Int) = i ∧ k ≤ zs.length ∧ zs.take k = l.take i.toNat ∧ okL needs.length (l.take i.toNat) = true)) (fun ⟨i, bt, k, zs⟩ => l.length - i.toNat) (0, b2, 0, ([] : List Int)) rfl rfl ?_ ?_
  · show ([((b2 : Nat)), b1, b, g] : List Nat).Nodup ∧ m ((b2 : Nat)) = none ∧ (0 ≤ ((0 : Int)) ∧ ((0 : Int)) ≤ l.length ∧ (((0 : Nat)) : Int) = ((0 : Int)) ∧ ((0 : Nat)) ≤ ((([] : List Int) : (List Int))).length ∧ ((([] : List Int) : (List Int))).take ((0 : Nat)) = l.take ((0 : Int)).toNat ∧ okL needs.length (l.take ((0 : Int)).toNat) = true)
    refine ⟨hNb2, hFb2, ?_⟩
    exact ⟨by omega, by omega, by simp, by simp, by simp, rfl⟩
  · rintro ⟨i, bt, k, zs⟩ ⟨hNbt, hFbt, hI⟩
    replace hI : 0 ≤ i ∧ i ≤ l.length ∧ (k : Int) = i ∧ k ≤ zs.length ∧ zs.take k = l.take i.toNat ∧ okL needs.length (l.take i.toNat) = true := hI
    replace hNbt : ([bt, b1, b, g] : List Nat).Nodup := hNbt
    replace hFbt : m bt = none := hFbt
    show AWP _ _ _ _ [(0, .ptr ⟨g, 0, none⟩), (2, .func (.func F) [] [.ptr ⟨b, 0, none⟩]), (8, .ms ⟨b1, 0, none⟩ (((needs.length : Int)).toNat) (((needs.length : Int)).toNat)), (9, .ms ⟨bt, 0, none⟩ k zs.length), (23, .slice false (l.map intAV)), (24, .int .i64 (l.length : Int)), (25, .int .i64 i)] (AMem.wth m [(bt, .cells (zs.map intAV)), (b1, .cells ((List.replicate ((needs.length : Int)).toNat false).map boolAV)), (b, .cells [.ptr ⟨g, 0, none⟩]), (g, .cells [.slice true (needs.map (lstAV intAV))])])
    refine awp_reg2_seq [] [0, 2, 8, 9, 23, 24, 25, 26] (by decide) ?_
    intro K1 hK1
    refine ⟨trivial, ?_⟩
    show K1 [(0, .ptr ⟨g, 0, none⟩), (2, .func (.func F) [] [.ptr ⟨b, 0, none⟩]), (8, .ms ⟨b1, 0, none⟩ (((needs.length : Int)).toNat) (((needs.length : Int)).toNat)), (9, .ms ⟨bt, 0, none⟩ k zs.length), (23, .slice false (l.map intAV)), (24, .int .i64 (l.length : Int)), (25, .int .i64 i), (26, .bool (decide (i < (l.length : Int))))] (AMem.wth m [(bt, .cells (zs.map intAV)), (b1, .cells ((List.replicate ((needs.length : Int)).toNat false).map boolAV)), (b, .cells [.ptr ⟨g, 0, none⟩]), (g, .cells [.slice true (needs.map (lstAV intAV))])])
    refine hK1 _ _ ?_; clear hK1 K1
    refine awp_seq_k ?_; intro K3 hK3
    refine awp_cond rfl rfl (fun h1 => ?_) (fun h1 => ?_)
    · replace h1 : i < (l.length : Int) := (of_decide_eq_true h1)
      refine awp_skip ?_
      refine hK3 _ _ ?_; clear hK3
      refine awp_seq_k ?_; intro K4 hK4
      refine awp_block ?_
      refine awp_reg2_seq [] [0, 2, 8, 9, 11, 23, 24, 25] (by decide) ?_
      intro K1 hK1
      refine ar_index rfl intAV l i rfl rfl rfl rfl rfl (by decide) (fun _ => rfl) (by omega) (by omega) ?_
      refine ⟨(apartOk_one rfl rfl (Nat.le_of_ble_eq_true rfl)), trivial, ?_⟩
      show K1 [(0, .ptr ⟨g, 0, none⟩), (2, .func (.func F) [] [.ptr ⟨b, 0, none⟩]), (8, .ms ⟨b1, 0, none⟩ (((needs.length : Int)).toNat) (((needs.length : Int)).toNat)), (9, .ms ⟨bt, 0, none⟩ k zs.length), (11, .int .i64 (gI l i)), (23, .slice false (l.map intAV)), (24, .int .i64 (l.length : Int)), (25, .int .i64 i)] (AMem.wth m [(bt, .cells (zs.map intAV)), (b1, .cells ((List.replicate ((needs.length : Int)).toNat false).map boolAV)), (b, .cells [.ptr ⟨g, 0, none⟩]), (g, .cells [.slice true (needs.map (lstAV intAV))])])
      refine hK1 _ _ ?_; clear hK1 K1
      refine awp_seq_k ?_; intro K5 hK5
      refine awp_reg2_seq [] [0, 2, 8, 9, 11, 23, 24, 25, 39] (by decide) ?_
      intro K1 hK1
      suffices key : K1 [(0, .ptr ⟨g, 0, none⟩), (2, .func (.func F) [] [.ptr ⟨b, 0, none⟩]), (8, .ms ⟨b1, 0, none⟩ (((needs.length : Int)).toNat) (((needs.length : Int)).toNat)), (9, .ms ⟨bt, 0, none⟩ k zs.length), (11, .int .i64 (gI l i)), (23, .slice false (l.map intAV)), (24, .int .i64 (l.length : Int)), (25, .int .i64 i), (39, .bool ((decide (gI l i < 0)) || (decide ((needs.length : Int) ≤ gI l i))))] (AMem.wth m [(bt, .cells (zs.map intAV)), (b1, .cells ((List.replicate ((needs.length : Int)).toNat false).map boolAV)), (b, .cells [.ptr ⟨g, 0, none⟩]), (g, .cells [.slice true (needs.map (lstAV intAV))])]) by
        refine ⟨trivial, trivial, trivial, ?_⟩
        show aopsR _ _ _ _ _ [(31, .bool (decide (gI l i < 0))), (30, .bool (decide (gI l i < 0))), (29, .int .i64 (gI l i)), (0, .ptr ⟨g, 0, none⟩), (2, .func (.func F) [] [.ptr ⟨b, 0, none⟩]), (8, .ms ⟨b1, 0, none⟩ (((needs.length : Int)).toNat) (((needs.length : Int)).toNat)), (9, .ms ⟨bt, 0, none⟩ k zs.length), (11, .int .i64 (gI l i)), (23, .slice false (l.map intAV)), (24, .int .i64 (l.length : Int)), (25, .int .i64 i)] _
        revert key
        cases h2 : (decide (gI l i < 0))
        · replace h2 : 0 ≤ gI l i := (Int.not_lt.1 (of_decide_eq_false h2))
          intro key
          refine ⟨trivial, trivial, trivial, ⟨rfl, by decide⟩, ?_⟩
          refine ar_loadp rfl (m := m) (L := [(bt, .cells (zs.map intAV)), (b1, .cells ((List.replicate ((needs.length : Int)).toNat false).map boolAV)), (b, .cells [.ptr ⟨g, 0, none⟩]), (g, .cells [.slice true (needs.map (lstAV intAV))])]) (v := .slice false (needs.map (lstAV intAV))) rfl (wth_get (m := m) (L := [(bt, .cells (zs.map intAV)), (b1, .cells ((List.replicate ((needs.length : Int)).toNat false).map boolAV)), (b, .cells [.ptr ⟨g, 0, none⟩]), (g, .cells [.slice true (needs.map (lstAV intAV))])]) 3 hNbt rfl) rfl (apartOk_one rfl rfl (Nat.le_of_ble_eq_true rfl)) rfl ?_
          refine ar_len rfl (lstAV intAV) needs rfl rfl rfl ?_
          refine ⟨trivial, ?_⟩
          exact key
        · replace h2 : gI l i < 0 := (of_decide_eq_true h2)
          intro key
          refine ar_off rfl (ar_off rfl (ar_off rfl (ar_off rfl (ar_off rfl (ar_off rfl (ar_off rfl ?_))))))
          exact key
      refine hK1 _ _ ?_; clear hK1 K1
      refine awp_cond rfl rfl (fun h3 => ?_) (fun h3 => ?_)
      · replace h3 : (gI l i < 0) ∨ ((needs.length : Int) ≤ gI l i) := ((borT h3).imp (fun q => (of_decide_eq_true q)) (fun q => (of_decide_eq_true q)))
        refine awp_reg2_seq [] [6, 7] (by decide) ?_
        intro K1 hK1
        refine ⟨trivial, trivial, trivial, ?_⟩
        show K1 [(6, .slice true []), (7, .iface 57 (.int .i64 1))] (AMem.wth m [(bt, .cells (zs.map intAV)), (b1, .cells ((List.replicate ((needs.length : Int)).toNat false).map boolAV)), (b, .cells [.ptr ⟨g, 0, none⟩]), (g, .cells [.slice true (needs.map (lstAV intAV))])])
        refine hK1 _ _ ?_; clear hK1 K1
        refine awp_toErr 57 [7] ?_
        show AWP _ _ _ _ [(6, .slice true []), (7, .err 57 1)] (AMem.wth m [(bt, .cells (zs.map intAV)), (b1, .cells ((List.replicate ((needs.length : Int)).toNat false).map boolAV)), (b, .cells [.ptr ⟨g, 0, none⟩]), (g, .cells [.slice true (needs.map (lstAV intAV))])])
        refine awp_ret ?_
        refine ⟨trivial, trivial, (AMem.wth m [(b, .cells [.ptr ⟨g, 0, none⟩]), (g, .cells [.slice true (needs.map (lstAV intAV))])]), (wth_sub2 (m := m) [(bt, .cells (zs.map intAV)), (b1, .cells ((List.replicate ((needs.length : Int)).toNat false).map boolAV))] [(b, .cells [.ptr ⟨g, 0, none⟩]), (g, .cells [.slice true (needs.map (lstAV intAV))])] hNbt (by simp only [List.map_cons, List.map_nil, List.forall_mem_cons]; exact ⟨hFbt, hFb1, fun _ h => by cases h⟩)), ?_⟩
        show K (.tuple [.slice false [], .err 57 1]) (AMem.wth m [(b, .cells [.ptr ⟨g, 0, none⟩]), (g, .cells [.slice true (needs.map (lstAV intAV))])])
       
        have e : reachF f l needs.length = ([], 1) := by
          rw [reachF, if_neg]
          intro hh
          have := okL_gI hh hI.1 h1
          omega
        rw [e] at hK; exact hK
      · replace h3 : (0 ≤ gI l i) ∧ (gI l i < (needs.length : Int)) := ⟨(Int.not_lt.1 (of_decide_eq_false (borL h3))), (Int.not_le.1 (of_decide_eq_false (borR h3)))⟩
        refine awp_skip ?_
        refine hK5 _ _ ?_; clear hK5
        refine awp_reg2 [41] [0, 2, 8, 9, 23, 24, 25] (by decide) ?_
        intro K1 hK1
        refine ⟨trivial, trivial, ⟨rfl, Nat.le_of_ble_eq_true rfl, rfl, Nat.le_of_ble_eq_true rfl, rfl, by simp only [List.forall_mem_cons]; exact ⟨⟨rfl, rfl⟩, fun _ h => by cases h⟩⟩, ?_⟩
        refine ar_appendMs rfl 0 intAV zs ([gI l i] : List Int) 0 k rfl rfl rfl rfl rfl rfl rfl rfl hNbt hFbt (fun _ => rfl) rfl (fun _ => rfl) (fun _ => rfl) (by (first | omega | (simp only [List.length_append, List.length_cons, List.length_nil]; omega))) (by (simp only [show Try.prog.bytesOf 3 = 8 from rfl, List.length_append, List.length_cons, List.length_nil]; omega)) (by (first | omega | (simp only [List.length_append, List.length_cons, List.length_nil]; omega))) ?_
        intro b3 zs3 hFb3 hNb3 htb3 hlb3
        replace htb3 : zs3.take (k + ([gI l i] : List Int).length) = zs.take k ++ ([gI l i] : List Int) := htb3
        replace hlb3 : k + ([gI l i] : List Int).length ≤ zs3.length := hlb3
        refine ⟨trivial, ?_⟩
        show K1 [(0, .ptr ⟨g, 0, none⟩), (2, .func (.func F) [] [.ptr ⟨b, 0, none⟩]), (8, .ms ⟨b1, 0, none⟩ (((needs.length : Int)).toNat) (((needs.length : Int)).toNat)), (9, .ms ⟨b3, 0, none⟩ (k + ([gI l i] : List Int).length) zs3.length), (23, .slice false (l.map intAV)), (24, .int .i64 (l.length : Int)), (25, .int .i64 i)] (AMem.wth m [(b3, .cells (zs3.map intAV)), (b1, .cells ((List.replicate ((needs.length : Int)).toNat false).map boolAV)), (b, .cells [.ptr ⟨g, 0, none⟩]), (g, .cells [.slice true (needs.map (lstAV intAV))])])
        refine hK1 _ _ ?_; clear hK1 K1
        refine hK4 _ _ ?_; clear hK4
        refine awp_reg2 [] [0, 2, 8, 9, 23, 24, 25] (by decide) ?_
        intro K1 hK1
        refine ar_add rfl (a := i) (b := 1) rfl rfl (by omega) (by omega) ?_
        refine ⟨trivial, ?_⟩
        show K1 [(0, .ptr ⟨g, 0, none⟩), (2, .func (.func F) [] [.ptr ⟨b, 0, none⟩]), (8, .ms ⟨b1, 0, none⟩ (((needs.length : Int)).toNat) (((needs.length : Int)).toNat)), (9, .ms ⟨b3, 0, none⟩ (k + ([gI l i] : List Int).length) zs3.length), (23, .slice false (l.map intAV)), (24, .int .i64 (l.length : Int)), (25, .int .i64 (i + 1))] (AMem.wth m [(b3, .cells (zs3.map intAV)), (b1, .cells ((List.replicate ((needs.length : Int)).toNat false).map boolAV)), (b, .cells [.ptr ⟨g, 0, none⟩]), (g, .cells [.slice true (needs.map (lstAV intAV))])])
        refine hK1 _ _ ?_; clear hK1 K1
        refine ⟨(i + 1, b3, k + ([gI l i] : List Int).length, zs3), rfl, rfl, ?_, ?_⟩
        · show ([((b3 : Nat)), b1, b, g] : List Nat).Nodup ∧ m ((b3 : Nat)) = none ∧ (0 ≤ ((i + 1 : Int)) ∧ ((i + 1 : Int)) ≤ l.length ∧ (((k + ([gI l i] : List Int).length : Nat)) : Int) = ((i + 1 : Int)) ∧ ((k + ([gI l i] : List Int).length : Nat)) ≤ ((zs3 : (List Int))).length ∧ ((zs3 : (List Int))).take ((k + ([gI l i] : List Int).length : Nat)) = l.take ((i + 1 : Int)).toNat ∧ okL needs.length (l.take ((i + 1 : Int)).toNat) = true)
          refine ⟨hNb3, hFb3, ?_⟩
          exact ⟨by omega, by omega, by simp; omega, by simpa using hlb3, by rw [htb3, hI.2.2.2.2.1, take_succ_gI hI.1 h1], all_take_succ hI.1 h1 hI.2.2.2.2.2 (by simp; omega)⟩
        · show l.length - ((i + 1 : Int)).toNat < l.length - i.toNat
          omega
    · replace h1 : (l.length : Int) ≤ i := (Int.not_lt.1 (of_decide_eq_false h1))
      have hok : okL needs.length l = true := all_of_take h1 hI.2.2.2.2.2
      have hzk : zs.take k = l := by rw [hI.2.2.2.2.1]; exact take_full h1
      have hfr := falses_le_len (List.replicate ((needs.length : Int)).toNat false)
      rw [List.length_replicate] at hfr
      have hkz := hI.2.2.2.1
      refine awp_exit ?_
      refine hK2 _ _ ?_; clear hK2
      refine awp_seq_k ?_; intro K6 hK6
      refine awp_block ?_
      refine awp_keep [2, 8, 9] (by decide) ?_
      refine awp_loop_st (σ := Nat × Nat × (List Int) × (List Bool)) (fun ⟨bt, k, zs, sn⟩ => [(2, .func (.func F) [] [.ptr ⟨b, 0, none⟩]), (8, .ms ⟨b1, 0, none⟩ (((needs.length : Int)).toNat) (((needs.length : Int)).toNat)), (9, .ms ⟨bt, 0, none⟩ k zs.length)]) (fun ⟨bt, k, zs, sn⟩ => (AMem.wth m [(bt, .cells (zs.map intAV)), (b1, .cells (sn.map boolAV)), (b, .cells [.ptr ⟨g, 0, none⟩]), (g, .cells [.slice true (needs.map (lstAV intAV))])])) (fun ⟨bt, k, zs, sn⟩ => ([bt, b1, b, g] : List Nat).Nodup ∧ m bt = none ∧ (k ≤ zs.length ∧ (sn.length : Int) = needs.length ∧ SeenI needs.length f l sn (zs.take k) ∧ falses sn * 67108865 + k ≤ 1000 + 64 * 67108865)) (fun ⟨bt, k, zs, sn⟩ => falses sn * 67108865 + k) (bt, k, zs, List.replicate ((needs.length : Int)).toNat false) rfl rfl ?_ ?_
      · show ([bt, b1, b, g] : List Nat).Nodup ∧ m bt = none ∧ (k ≤ zs.length ∧ (((List.replicate ((needs.length : Int)).toNat false : (List Bool))).length : Int) = needs.length ∧ SeenI needs.length f l ((List.replicate ((needs.length : Int)).toNat false : (List Bool))) (zs.take k) ∧ falses ((List.replicate ((needs.length : Int)).toNat false : (List Bool))) * 67108865 + k ≤ 1000 + 64 * 67108865)
        refine ⟨hNbt, hFbt, ?_⟩
        exact ⟨hkz, by simp, by rw [hzk]; exact SeenI.start hok, by omega⟩
      · rintro ⟨bt, k, zs, sn⟩ ⟨hNbt, hFbt, hI2⟩
        replace hI2 : k ≤ zs.length ∧ (sn.length : Int) = needs.length ∧ SeenI needs.length f l sn (zs.take k) ∧ falses sn * 67108865 + k ≤ 1000 + 64 * 67108865 := hI2
        replace hNbt : ([bt, b1, b, g] : List Nat).Nodup := hNbt
        replace hFbt : m bt = none := hFbt
        show AWP _ _ _ _ [(2, .func (.func F) [] [.ptr ⟨b, 0, none⟩]), (8, .ms ⟨b1, 0, none⟩ (((needs.length : Int)).toNat) (((needs.length : Int)).toNat)), (9, .ms ⟨bt, 0, none⟩ k zs.length)] (AMem.wth m [(bt, .cells (zs.map intAV)), (b1, .cells (sn.map boolAV)), (b, .cells [.ptr ⟨g, 0, none⟩]), (g, .cells [.slice true (needs.map (lstAV intAV))])])
        refine awp_seq_k ?_; intro K7 hK7
        refine awp_reg2_seq [] [2, 8, 9, 48] (by decide) ?_
        intro K1 hK1
        refine ⟨trivial, (by omega), trivial, ?_⟩
        show K1 [(2, .func (.func F) [] [.ptr ⟨b, 0, none⟩]), (8, .ms ⟨b1, 0, none⟩ (((needs.length : Int)).toNat) (((needs.length : Int)).toNat)), (9, .ms ⟨bt, 0, none⟩ k zs.length), (48, .bool (decide (0 < ((k : Nat) : Int))))] (AMem.wth m [(bt, .cells (zs.map intAV)), (b1, .cells (sn.map boolAV)), (b, .cells [.ptr ⟨g, 0, none⟩]), (g, .cells [.slice true (needs.map (lstAV intAV))])])
        refine hK1 _ _ ?_; clear hK1 K1
        refine awp_cond rfl rfl (fun h4 => ?_) (fun h4 => ?_)
        · replace h4 : 0 < ((k : Nat) : Int) := (of_decide_eq_true h4)
          have htp := take_pred (zs := zs) (k := k) (by omega) hI2.1
          have hx := hI2.2.2.1.2.2.2 (gI zs ((k : Int) - 1)) (by rw [htp]; simp)
          have hfl := hB _ hx.2.1 hx.2.2
          have hs0 := hI2.2.2.1
          rw [htp] at hs0
          refine awp_skip ?_
          refine hK7 _ _ ?_; clear hK7
          refine awp_block ?_
          refine awp_reg2_seq [] [2, 8, 9, 12] (by decide) ?_
          intro K1 hK1
          refine ⟨trivial, trivial, (by omega), ?_⟩
          refine ar_sub rfl (a := ((k : Nat) : Int)) (b := 1) rfl rfl (by omega) (by omega) ?_
          refine ⟨⟨rfl, (by omega), (by omega)⟩, ?_⟩
          refine ar_loadm rfl (m := m) (L := [(bt, .cells (zs.map intAV)), (b1, .cells (sn.map boolAV)), (b, .cells [.ptr ⟨g, 0, none⟩]), (g, .cells [.slice true (needs.map (lstAV intAV))])]) intAV zs (((k : Nat) : Int) - 1) rfl rfl (wth_get (m := m) (L := [(bt, .cells (zs.map intAV)), (b1, .cells (sn.map boolAV)), (b, .cells [.ptr ⟨g, 0, none⟩]), (g, .cells [.slice true (needs.map (lstAV intAV))])]) 0 hNbt rfl) rfl rfl rfl (fun _ => rfl) (by omega) (by omega) ?_
          refine ⟨trivial, ?_⟩
          show K1 [(2, .func (.func F) [] [.ptr ⟨b, 0, none⟩]), (8, .ms ⟨b1, 0, none⟩ (((needs.length : Int)).toNat) (((needs.length : Int)).toNat)), (9, .ms ⟨bt, 0, none⟩ k zs.length), (12, .int .i64 (gI zs (((k : Nat) : Int) - 1)))] (AMem.wth m [(bt, .cells (zs.map intAV)), (b1, .cells (sn.map boolAV)), (b, .cells [.ptr ⟨g, 0, none⟩]), (g, .cells [.slice true (needs.map (lstAV intAV))])])
          refine hK1 _ _ ?_; clear hK1 K1
          refine awp_reg2_seq [] [2, 8, 9, 12] (by decide) ?_
          intro K1 hK1
          refine ⟨trivial, trivial, (by omega), ?_⟩
          refine ar_sub rfl (a := ((k : Nat) : Int)) (b := 1) rfl rfl (by omega) (by omega) ?_
          refine ar_sliceMs0 rfl (((k : Nat) : Int) - 1) rfl rfl rfl rfl (by omega) (by omega) (by omega) ?_
          refine ⟨trivial, ?_⟩
          show K1 [(2, .func (.func F) [] [.ptr ⟨b, 0, none⟩]), (8, .ms ⟨b1, 0, none⟩ (((needs.length : Int)).toNat) (((needs.length : Int)).toNat)), (9, .ms ⟨bt, 0, none⟩ ((((k : Nat) : Int) - 1).toNat) zs.length), (12, .int .i64 (gI zs (((k : Nat) : Int) - 1)))] (AMem.wth m [(bt, .cells (zs.map intAV)), (b1, .cells (sn.map boolAV)), (b, .cells [.ptr ⟨g, 0, none⟩]), (g, .cells [.slice true (needs.map (lstAV intAV))])])
          refine hK1 _ _ ?_; clear hK1 K1
          refine awp_seq_k ?_; intro K8 hK8
          refine awp_reg2_seq [] [2, 8, 9, 12, 63] (by decide) ?_
          intro K1 hK1
          refine ⟨trivial, trivial, ⟨rfl, (by omega), (by omega)⟩, ?_⟩
          refine ar_loadm rfl (m := m) (L := [(bt, .cells (zs.map intAV)), (b1, .cells (sn.map boolAV)), (b, .cells [.ptr ⟨g, 0, none⟩]), (g, .cells [.slice true (needs.map (lstAV intAV))])]) boolAV sn (gI zs (((k : Nat) : Int) - 1)) rfl rfl (wth_get (m := m) (L := [(bt, .cells (zs.map intAV)), (b1, .cells (sn.map boolAV)), (b, .cells [.ptr ⟨g, 0, none⟩]), (g, .cells [.slice true (needs.map (lstAV intAV))])]) 1 hNbt rfl) rfl rfl rfl (fun _ => rfl) (by omega) (by omega) ?_
          show K1 [(2, .func (.func F) [] [.ptr ⟨b, 0, none⟩]), (8, .ms ⟨b1, 0, none⟩ (((needs.length : Int)).toNat) (((needs.length : Int)).toNat)), (9, .ms ⟨bt, 0, none⟩ ((((k : Nat) : Int) - 1).toNat) zs.length), (12, .int .i64 (gI zs (((k : Nat) : Int) - 1))), (63, .bool (gI sn (gI zs (((k : Nat) : Int) - 1))))] (AMem.wth m [(bt, .cells (zs.map intAV)), (b1, .cells (sn.map boolAV)), (b, .cells [.ptr ⟨g, 0, none⟩]), (g, .cells [.slice true (needs.map (lstAV intAV))])])
          refine hK1 _ _ ?_; clear hK1 K1
          refine awp_cond rfl rfl (fun h5 => ?_) (fun h5 => ?_)
          · replace h5 : gI sn (gI zs (((k : Nat) : Int) - 1)) = true := h5
            refine awp_keep [2, 8, 9] (by decide) ?_
            show AWP _ _ _ _ [(2, .func (.func F) [] [.ptr ⟨b, 0, none⟩]), (8, .ms ⟨b1, 0, none⟩ (((needs.length : Int)).toNat) (((needs.length : Int)).toNat)), (9, .ms ⟨bt, 0, none⟩ ((((k : Nat) : Int) - 1).toNat) zs.length)] (AMem.wth m [(bt, .cells (zs.map intAV)), (b1, .cells (sn.map boolAV)), (b, .cells [.ptr ⟨g, 0, none⟩]), (g, .cells [.slice true (needs.map (lstAV intAV))])])
            refine awp_exit ?_
            refine ⟨(bt, (((k : Nat) : Int) - 1).toNat, zs, sn), rfl, rfl, ?_, ?_⟩
            · show ([bt, b1, b, g] : List Nat).Nodup ∧ m bt = none ∧ ((((((k : Nat) : Int) - 1).toNat : Nat)) ≤ zs.length ∧ (sn.length : Int) = needs.length ∧ SeenI needs.length f l sn (zs.take (((((k : Nat) : Int) - 1).toNat : Nat))) ∧ falses sn * 67108865 + (((((k : Nat) : Int) - 1).toNat : Nat)) ≤ 1000 + 64 * 67108865)
              refine ⟨hNbt, hFbt, ?_⟩
              exact ⟨by omega, hI2.2.1, hs0.skip h5, by omega⟩
            · show falses sn * 67108865 + (((((k : Nat) : Int) - 1).toNat : Nat)) < falses sn * 67108865 + k
              omega
          · replace h5 : gI sn (gI zs (((k : Nat) : Int) - 1)) = false := h5
            have fs := falses_set (l := sn) hx.2.1 (by omega) h5
            refine awp_skip ?_
            refine hK8 _ _ ?_; clear hK8
            refine awp_reg2_seq [] [2, 8, 9, 12] (by decide) ?_
            intro K1 hK1
            refine ⟨trivial, trivial, ⟨rfl, (by omega), (by omega)⟩, ?_⟩
            refine ar_storem rfl 1 (m := m) (L := [(bt, .cells (zs.map intAV)), (b1, .cells (sn.map boolAV)), (b, .cells [.ptr ⟨g, 0, none⟩]), (g, .cells [.slice true (needs.map (lstAV intAV))])]) boolAV sn true (gI zs (((k : Nat) : Int) - 1)) rfl rfl rfl hNbt rfl rfl rfl rfl rfl rfl (by omega) (by omega) ?_
            show K1 [(2, .func (.func F) [] [.ptr ⟨b, 0, none⟩]), (8, .ms ⟨b1, 0, none⟩ (((needs.length : Int)).toNat) (((needs.length : Int)).toNat)), (9, .ms ⟨bt, 0, none⟩ ((((k : Nat) : Int) - 1).toNat) zs.length), (12, .int .i64 (gI zs (((k : Nat) : Int) - 1)))] (AMem.wth m [(bt, .cells (zs.map intAV)), (b1, .cells ((sn.set (gI zs (((k : Nat) : Int) - 1)).toNat true).map boolAV)), (b, .cells [.ptr ⟨g, 0, none⟩]), (g, .cells [.slice true (needs.map (lstAV intAV))])])
            refine hK1 _ _ ?_; clear hK1 K1
            refine awp_reg2 [67] [2, 8, 9] (by decide) ?_
            intro K1 hK1
            refine ⟨trivial, trivial, trivial, ?_⟩
            refine ar_mem (wth_split (m := m) (L := [(bt, .cells (zs.map intAV)), (b1, .cells ((sn.set (gI zs (((k : Nat) : Int) - 1)).toNat true).map boolAV)), (b, .cells [.ptr ⟨g, 0, none⟩]), (g, .cells [.slice true (needs.map (lstAV intAV))])]) (L1 := [(b, .cells [.ptr ⟨g, 0, none⟩]), (g, .cells [.slice true (needs.map (lstAV intAV))])]) (L2 := [(bt, .cells (zs.map intAV)), (b1, .cells ((sn.set (gI zs (((k : Nat) : Int) - 1)).toNat true).map boolAV))]) hNbt (List.Perm.trans (show List.Perm ([(bt, .cells (zs.map intAV)), (b1, .cells ((sn.set (gI zs (((k : Nat) : Int) - 1)).toNat true).map boolAV)), (b, .cells [.ptr ⟨g, 0, none⟩]), (g, .cells [.slice true (needs.map (lstAV intAV))])] : List (Nat × AObj)) (((b, .cells [.ptr ⟨g, 0, none⟩]) : Nat × AObj) :: (([(bt, .cells (zs.map intAV)), (b1, .cells ((sn.set (gI zs (((k : Nat) : Int) - 1)).toNat true).map boolAV))] : List (Nat × AObj)) ++ ([(g, .cells [.slice true (needs.map (lstAV intAV))])] : List (Nat × AObj)))) from List.perm_middle (l₁ := ([(bt, .cells (zs.map intAV)), (b1, .cells ((sn.set (gI zs (((k : Nat) : Int) - 1)).toNat true).map boolAV))] : List (Nat × AObj))) (a := ((b, .cells [.ptr ⟨g, 0, none⟩]) : Nat × AObj)) (l₂ := ([(g, .cells [.slice true (needs.map (lstAV intAV))])] : List (Nat × AObj)))) (List.Perm.cons _ (List.Perm.trans (show List.Perm ([(bt, .cells (zs.map intAV)), (b1, .cells ((sn.set (gI zs (((k : Nat) : Int) - 1)).toNat true).map boolAV)), (g, .cells [.slice true (needs.map (lstAV intAV))])] : List (Nat × AObj)) (((g, .cells [.slice true (needs.map (lstAV intAV))]) : Nat × AObj) :: (([(bt, .cells (zs.map intAV)), (b1, .cells ((sn.set (gI zs (((k : Nat) : Int) - 1)).toNat true).map boolAV))] : List (Nat × AObj)) ++ ([] : List (Nat × AObj)))) from List.perm_middle (l₁ := ([(bt, .cells (zs.map intAV)), (b1, .cells ((sn.set (gI zs (((k : Nat) : Int) - 1)).toNat true).map boolAV))] : List (Nat × AObj))) (a := ((g, .cells [.slice true (needs.map (lstAV intAV))]) : Nat × AObj)) (l₂ := ([] : List (Nat × AObj)))) (List.Perm.cons _ (List.Perm.refl _)))))) ?_
            refine hF (gI zs (((k : Nat) : Int) - 1)) (by omega) (by omega) _ _ ?_
            show aopsR _ _ _ _ _ _ (AMem.wth (AMem.wth m [(bt, .cells (zs.map intAV)), (b1, .cells ((sn.set (gI zs (((k : Nat) : Int) - 1)).toNat true).map boolAV))]) [(b, .cells [.ptr ⟨g, 0, none⟩]), (g, .cells [.slice true (needs.map (lstAV intAV))])])
            refine ar_mem (wth_split (m := m) (L := [(bt, .cells (zs.map intAV)), (b1, .cells ((sn.set (gI zs (((k : Nat) : Int) - 1)).toNat true).map boolAV)), (b, .cells [.ptr ⟨g, 0, none⟩]), (g, .cells [.slice true (needs.map (lstAV intAV))])]) (L1 := [(b, .cells [.ptr ⟨g, 0, none⟩]), (g, .cells [.slice true (needs.map (lstAV intAV))])]) (L2 := [(bt, .cells (zs.map intAV)), (b1, .cells ((sn.set (gI zs (((k : Nat) : Int) - 1)).toNat true).map boolAV))]) hNbt (List.Perm.trans (show List.Perm ([(bt, .cells (zs.map intAV)), (b1, .cells ((sn.set (gI zs (((k : Nat) : Int) - 1)).toNat true).map boolAV)), (b, .cells [.ptr ⟨g, 0, none⟩]), (g, .cells [.slice true (needs.map (lstAV intAV))])] : List (Nat × AObj)) (((b, .cells [.ptr ⟨g, 0, none⟩]) : Nat × AObj) :: (([(bt, .cells (zs.map intAV)), (b1, .cells ((sn.set (gI zs (((k : Nat) : Int) - 1)).toNat true).map boolAV))] : List (Nat × AObj)) ++ ([(g, .cells [.slice true (needs.map (lstAV intAV))])] : List (Nat × AObj)))) from List.perm_middle (l₁ := ([(bt, .cells (zs.map intAV)), (b1, .cells ((sn.set (gI zs (((k : Nat) : Int) - 1)).toNat true).map boolAV))] : List (Nat × AObj))) (a := ((b, .cells [.ptr ⟨g, 0, none⟩]) : Nat × AObj)) (l₂ := ([(g, .cells [.slice true (needs.map (lstAV intAV))])] : List (Nat × AObj)))) (List.Perm.cons _ (List.Perm.trans (show List.Perm ([(bt, .cells (zs.map intAV)), (b1, .cells ((sn.set (gI zs (((k : Nat) : Int) - 1)).toNat true).map boolAV)), (g, .cells [.slice true (needs.map (lstAV intAV))])] : List (Nat × AObj)) (((g, .cells [.slice true (needs.map (lstAV intAV))]) : Nat × AObj) :: (([(bt, .cells (zs.map intAV)), (b1, .cells ((sn.set (gI zs (((k : Nat) : Int) - 1)).toNat true).map boolAV))] : List (Nat × AObj)) ++ ([] : List (Nat × AObj)))) from List.perm_middle (l₁ := ([(bt, .cells (zs.map intAV)), (b1, .cells ((sn.set (gI zs (((k : Nat) : Int) - 1)).toNat true).map boolAV))] : List (Nat × AObj))) (a := ((g, .cells [.slice true (needs.map (lstAV intAV))]) : Nat × AObj)) (l₂ := ([] : List (Nat × AObj)))) (List.Perm.cons _ (List.Perm.refl _)))))).symm ?_
            refine ar_appendMs rfl 0 intAV zs (f (gI zs (((k : Nat) : Int) - 1))) 0 ((((k : Nat) : Int) - 1).toNat) rfl rfl rfl rfl rfl rfl rfl rfl hNbt hFbt (fun _ => rfl) rfl (fun _ => rfl) (fun _ => rfl) (by (first | omega | (simp only [List.length_append, List.length_cons, List.length_nil]; omega))) (by (simp only [show Try.prog.bytesOf 3 = 8 from rfl, List.length_append, List.length_cons, List.length_nil]; omega)) (by (first | omega | (simp only [List.length_append, List.length_cons, List.length_nil]; omega))) ?_
            intro b4 zs4 hFb4 hNb4 htb4 hlb4
            replace htb4 : zs4.take (((((k : Nat) : Int) - 1).toNat) + (f (gI zs (((k : Nat) : Int) - 1))).length) = zs.take ((((k : Nat) : Int) - 1).toNat) ++ (f (gI zs (((k : Nat) : Int) - 1))) := htb4
            replace hlb4 : ((((k : Nat) : Int) - 1).toNat) + (f (gI zs (((k : Nat) : Int) - 1))).length ≤ zs4.length := hlb4
            refine ⟨trivial, ?_⟩
            show K1 [(2, .func (.func F) [] [.ptr ⟨b, 0, none⟩]), (8, .ms ⟨b1, 0, none⟩ (((needs.length : Int)).toNat) (((needs.length : Int)).toNat)), (9, .ms ⟨b4, 0, none⟩ (((((k : Nat) : Int) - 1).toNat) + (f (gI zs (((k : Nat) : Int) - 1))).length) zs4.length)] (AMem.wth m [(b4, .cells (zs4.map intAV)), (b1, .cells ((sn.set (gI zs (((k : Nat) : Int) - 1)).toNat true).map boolAV)), (b, .cells [.ptr ⟨g, 0, none⟩]), (g, .cells [.slice true (needs.map (lstAV intAV))])])
            refine hK1 _ _ ?_; clear hK1 K1
            refine ⟨(b4, ((((k : Nat) : Int) - 1).toNat) + (f (gI zs (((k : Nat) : Int) - 1))).length, zs4, sn.set (gI zs (((k : Nat) : Int) - 1)).toNat true), rfl, rfl, ?_, ?_⟩
            · show ([((b4 : Nat)), b1, b, g] : List Nat).Nodup ∧ m ((b4 : Nat)) = none ∧ (((((((k : Nat) : Int) - 1).toNat) + (f (gI zs (((k : Nat) : Int) - 1))).length : Nat)) ≤ ((zs4 : (List Int))).length ∧ (((sn.set (gI zs (((k : Nat) : Int) - 1)).toNat true : (List Bool))).length : Int) = needs.length ∧ SeenI needs.length f l ((sn.set (gI zs (((k : Nat) : Int) - 1)).toNat true : (List Bool))) (((zs4 : (List Int))).take ((((((k : Nat) : Int) - 1).toNat) + (f (gI zs (((k : Nat) : Int) - 1))).length : Nat))) ∧ falses ((sn.set (gI zs (((k : Nat) : Int) - 1)).toNat true : (List Bool))) * 67108865 + ((((((k : Nat) : Int) - 1).toNat) + (f (gI zs (((k : Nat) : Int) - 1))).length : Nat)) ≤ 1000 + 64 * 67108865)
              refine ⟨hNb4, hFb4, ?_⟩
              exact ⟨hlb4, by simpa using hI2.2.1, by rw [htb4]; exact hs0.add hI2.2.1 hok hf, by omega⟩
            · show falses ((sn.set (gI zs (((k : Nat) : Int) - 1)).toNat true : (List Bool))) * 67108865 + ((((((k : Nat) : Int) - 1).toNat) + (f (gI zs (((k : Nat) : Int) - 1))).length : Nat)) < falses sn * 67108865 + k
              omega
        · replace h4 : ((k : Nat) : Int) ≤ 0 := (Int.not_lt.1 (of_decide_eq_false h4))
          have hk0 : zs.take k = [] := by rw [show k = 0 by omega]; rfl
          have hrch := seenTo_rch hok hf (hk0 ▸ hI2.2.2.1)
          refine awp_exit ?_
          refine hK6 _ _ ?_; clear hK6
          refine awp_reg2_seq [] [8, 13] (by decide) ?_
          intro K1 hK1
          refine ⟨trivial, ?_⟩
          show K1 [(8, .ms ⟨b1, 0, none⟩ (((needs.length : Int)).toNat) (((needs.length : Int)).toNat)), (13, .slice true [])] (AMem.wth m [(bt, .cells (zs.map intAV)), (b1, .cells (sn.map boolAV)), (b, .cells [.ptr ⟨g, 0, none⟩]), (g, .cells [.slice true (needs.map (lstAV intAV))])])
          refine hK1 _ _ ?_; clear hK1 K1
          refine awp_seq_k ?_; intro K9 hK9
          refine awp_reg2_seq [] [13, 72, 73, 74] (by decide) ?_
          intro K1 hK1
          refine ⟨trivial, (by omega), trivial, ?_⟩
          show K1 [(13, .slice true []), (72, .ms ⟨b1, 0, none⟩ (((needs.length : Int)).toNat) (((needs.length : Int)).toNat)), (73, .int .i64 ((((needs.length : Int)).toNat : Nat) : Int)), (74, .int .i64 0)] (AMem.wth m [(bt, .cells (zs.map intAV)), (b1, .cells (sn.map boolAV)), (b, .cells [.ptr ⟨g, 0, none⟩]), (g, .cells [.slice true (needs.map (lstAV intAV))])])
          refine hK1 _ _ ?_; clear hK1 K1
          refine awp_block ?_
          refine awp_keep [13, 72, 73, 74] (by decide) ?_
          refine awp_loop_st (σ := (List Int) × Int) (fun ⟨out, q⟩ => [(13, .slice true (out.map intAV)), (72, .ms ⟨b1, 0, none⟩ (((needs.length : Int)).toNat) (((needs.length : Int)).toNat)), (73, .int .i64 ((((needs.length : Int)).toNat : Nat) : Int)), (74, .int .i64 q)]) (fun _ => (AMem.wth m [(bt, .cells (zs.map intAV)), (b1, .cells (sn.map boolAV)), (b, .cells [.ptr ⟨g, 0, none⟩]), (g, .cells [.slice true (needs.map (lstAV intAV))])])) (fun ⟨out, q⟩ => 0 ≤ q ∧ q ≤ needs.length ∧ out = seenTo sn q) (fun ⟨out, q⟩ => needs.length - q.toNat) ([], 0) rfl rfl ?_ ?_
          · show 0 ≤ ((0 : Int)) ∧ ((0 : Int)) ≤ needs.length ∧ (([] : (List Int))) = seenTo sn ((0 : Int))
            exact ⟨by omega, by omega, by simp [seenTo, upto]⟩
          · rintro ⟨out, q⟩ hI3
            replace hI3 : 0 ≤ q ∧ q ≤ needs.length ∧ out = seenTo sn q := hI3
            have hob := seenTo_len sn q
            rw [← hI3.2.2] at hob
            show AWP _ _ _ _ [(13, .slice true (out.map intAV)), (72, .ms ⟨b1, 0, none⟩ (((needs.length : Int)).toNat) (((needs.length : Int)).toNat)), (73, .int .i64 ((((needs.length : Int)).toNat : Nat) : Int)), (74, .int .i64 q)] (AMem.wth m [(bt, .cells (zs.map intAV)), (b1, .cells (sn.map boolAV)), (b, .cells [.ptr ⟨g, 0, none⟩]), (g, .cells [.slice true (needs.map (lstAV intAV))])])
            refine awp_reg2_seq [] [13, 72, 73, 74, 75] (by decide) ?_
            intro K1 hK1
            refine ⟨trivial, ?_⟩
            show K1 [(13, .slice true (out.map intAV)), (72, .ms ⟨b1, 0, none⟩ (((needs.length : Int)).toNat) (((needs.length : Int)).toNat)), (73, .int .i64 ((((needs.length : Int)).toNat : Nat) : Int)), (74, .int .i64 q), (75, .bool (decide (q < ((((needs.length : Int)).toNat : Nat) : Int))))] (AMem.wth m [(bt, .cells (zs.map intAV)), (b1, .cells (sn.map boolAV)), (b, .cells [.ptr ⟨g, 0, none⟩]), (g, .cells [.slice true (needs.map (lstAV intAV))])])
            refine hK1 _ _ ?_; clear hK1 K1
            refine awp_seq_k ?_; intro K10 hK10
            refine awp_cond rfl rfl (fun h6 => ?_) (fun h6 => ?_)
            · replace h6 : q < ((((needs.length : Int)).toNat : Nat) : Int) := (of_decide_eq_true h6)
              refine awp_skip ?_
              refine hK10 _ _ ?_; clear hK10
              refine awp_seq_k ?_; intro K11 hK11
              refine awp_block ?_
              refine awp_reg2_seq [] [13, 14, 15, 72, 73, 74] (by decide) ?_
              intro K1 hK1
              refine ⟨trivial, ⟨rfl, (by omega), (by omega)⟩, ?_⟩
              refine ar_loadm rfl (m := m) (L := [(bt, .cells (zs.map intAV)), (b1, .cells (sn.map boolAV)), (b, .cells [.ptr ⟨g, 0, none⟩]), (g, .cells [.slice true (needs.map (lstAV intAV))])]) boolAV sn q rfl rfl (wth_get (m := m) (L := [(bt, .cells (zs.map intAV)), (b1, .cells (sn.map boolAV)), (b, .cells [.ptr ⟨g, 0, none⟩]), (g, .cells [.slice true (needs.map (lstAV intAV))])]) 1 hNbt rfl) rfl rfl rfl (fun _ => rfl) (by omega) (by omega) ?_
              refine ⟨trivial, trivial, ?_⟩
              show K1 [(13, .slice true (out.map intAV)), (14, .int .i64 q), (15, .bool (gI sn q)), (72, .ms ⟨b1, 0, none⟩ (((needs.length : Int)).toNat) (((needs.length : Int)).toNat)), (73, .int .i64 ((((needs.length : Int)).toNat : Nat) : Int)), (74, .int .i64 q)] (AMem.wth m [(bt, .cells (zs.map intAV)), (b1, .cells (sn.map boolAV)), (b, .cells [.ptr ⟨g, 0, none⟩]), (g, .cells [.slice true (needs.map (lstAV intAV))])])
              refine hK1 _ _ ?_; clear hK1 K1
              refine awp_reg2_seq [] [13, 14, 72, 73, 74, 79] (by decide) ?_
              intro K1 hK1
              refine ⟨trivial, ?_⟩
              show K1 [(13, .slice true (out.map intAV)), (14, .int .i64 q), (72, .ms ⟨b1, 0, none⟩ (((needs.length : Int)).toNat) (((needs.length : Int)).toNat)), (73, .int .i64 ((((needs.length : Int)).toNat : Nat) : Int)), (74, .int .i64 q), (79, .bool (gI sn q))] (AMem.wth m [(bt, .cells (zs.map intAV)), (b1, .cells (sn.map boolAV)), (b, .cells [.ptr ⟨g, 0, none⟩]), (g, .cells [.slice true (needs.map (lstAV intAV))])])
              refine hK1 _ _ ?_; clear hK1 K1
              refine awp_cond rfl rfl (fun h7 => ?_) (fun h7 => ?_)
              · replace h7 : gI sn q = true := h7
                refine awp_reg2 [80] [13, 72, 73, 74] (by decide) ?_
                intro K1 hK1
                refine ⟨trivial, trivial, ⟨rfl, Nat.le_of_ble_eq_true rfl, rfl, Nat.le_of_ble_eq_true rfl, rfl, by simp only [List.forall_mem_cons]; exact ⟨⟨rfl, rfl⟩, fun _ h => by cases h⟩⟩, ?_⟩
                refine ar_append rfl intAV out ([q] : List Int) rfl rfl rfl rfl rfl rfl (Nat.le_of_ble_eq_true rfl) rfl (by (simp only [show Try.prog.bytesOf 3 = 8 from rfl, List.length_append, List.length_cons, List.length_nil]; omega)) (by (first | omega | (simp only [List.length_append, List.length_cons, List.length_nil]; omega))) (fun _ => ⟨rfl, rfl⟩) ?_
                refine ⟨trivial, ?_⟩
                show K1 [(13, .slice true ((out ++ ([q] : List Int)).map intAV)), (72, .ms ⟨b1, 0, none⟩ (((needs.length : Int)).toNat) (((needs.length : Int)).toNat)), (73, .int .i64 ((((needs.length : Int)).toNat : Nat) : Int)), (74, .int .i64 q)] (AMem.wth m [(bt, .cells (zs.map intAV)), (b1, .cells (sn.map boolAV)), (b, .cells [.ptr ⟨g, 0, none⟩]), (g, .cells [.slice true (needs.map (lstAV intAV))])])
                refine hK1 _ _ ?_; clear hK1 K1
                refine hK11 _ _ ?_; clear hK11
                refine awp_reg2 [] [13, 72, 73, 74] (by decide) ?_
                intro K1 hK1
                refine ar_add rfl (a := q) (b := 1) rfl rfl (by omega) (by omega) ?_
                refine ⟨trivial, ?_⟩
                show K1 [(13, .slice true ((out ++ ([q] : List Int)).map intAV)), (72, .ms ⟨b1, 0, none⟩ (((needs.length : Int)).toNat) (((needs.length : Int)).toNat)), (73, .int .i64 ((((needs.length : Int)).toNat : Nat) : Int)), (74, .int .i64 (q + 1))] (AMem.wth m [(bt, .cells (zs.map intAV)), (b1, .cells (sn.map boolAV)), (b, .cells [.ptr ⟨g, 0, none⟩]), (g, .cells [.slice true (needs.map (lstAV intAV))])])
                refine hK1 _ _ ?_; clear hK1 K1
                refine ⟨(out ++ ([q] : List Int), q + 1), rfl, rfl, ?_, ?_⟩
                · show 0 ≤ ((q + 1 : Int)) ∧ ((q + 1 : Int)) ≤ needs.length ∧ ((out ++ ([q] : List Int) : (List Int))) = seenTo sn ((q + 1 : Int))
                  exact ⟨by omega, by omega, by rw [seenTo_succ hI3.1, if_pos h7, ← hI3.2.2]⟩
                · show needs.length - ((q + 1 : Int)).toNat < needs.length - q.toNat
                  omega
              · replace h7 : gI sn q = false := h7
                refine awp_skip ?_
                refine hK11 _ _ ?_; clear hK11
                refine awp_reg2 [] [13, 72, 73, 74] (by decide) ?_
                intro K1 hK1
                refine ar_add rfl (a := q) (b := 1) rfl rfl (by omega) (by omega) ?_
                refine ⟨trivial, ?_⟩
                show K1 [(13, .slice true (out.map intAV)), (72, .ms ⟨b1, 0, none⟩ (((needs.length : Int)).toNat) (((needs.length : Int)).toNat)), (73, .int .i64 ((((needs.length : Int)).toNat : Nat) : Int)), (74, .int .i64 (q + 1))] (AMem.wth m [(bt, .cells (zs.map intAV)), (b1, .cells (sn.map boolAV)), (b, .cells [.ptr ⟨g, 0, none⟩]), (g, .cells [.slice true (needs.map (lstAV intAV))])])
                refine hK1 _ _ ?_; clear hK1 K1
                refine ⟨(out, q + 1), rfl, rfl, ?_, ?_⟩
                · show 0 ≤ ((q + 1 : Int)) ∧ ((q + 1 : Int)) ≤ needs.length ∧ out = seenTo sn ((q + 1 : Int))
                  exact ⟨by omega, by omega, by rw [seenTo_succ hI3.1, if_neg (by rw [h7]; decide), ← hI3.2.2]⟩
                · show needs.length - ((q + 1 : Int)).toNat < needs.length - q.toNat
                  omega
            · replace h6 : ((((needs.length : Int)).toNat : Nat) : Int) ≤ q := (Int.not_lt.1 (of_decide_eq_false h6))
              refine awp_exit ?_
              refine hK9 _ _ ?_; clear hK9
              refine awp_reg2_seq [] [6, 7] (by decide) ?_
              intro K1 hK1
              refine ⟨trivial, trivial, trivial, ?_⟩
              show K1 [(6, .slice false (out.map intAV)), (7, .nilIface)] (AMem.wth m [(bt, .cells (zs.map intAV)), (b1, .cells (sn.map boolAV)), (b, .cells [.ptr ⟨g, 0, none⟩]), (g, .cells [.slice true (needs.map (lstAV intAV))])])
              refine hK1 _ _ ?_; clear hK1 K1
              refine awp_toErr 57 [7] ?_
              show AWP _ _ _ _ [(6, .slice false (out.map intAV)), (7, .err 57 0)] (AMem.wth m [(bt, .cells (zs.map intAV)), (b1, .cells (sn.map boolAV)), (b, .cells [.ptr ⟨g, 0, none⟩]), (g, .cells [.slice true (needs.map (lstAV intAV))])])
              refine awp_ret ?_
              refine ⟨trivial, trivial, (AMem.wth m [(b, .cells [.ptr ⟨g, 0, none⟩]), (g, .cells [.slice true (needs.map (lstAV intAV))])]), (wth_sub2 (m := m) [(bt, .cells (zs.map intAV)), (b1, .cells (sn.map boolAV))] [(b, .cells [.ptr ⟨g, 0, none⟩]), (g, .cells [.slice true (needs.map (lstAV intAV))])] hNbt (by simp only [List.map_cons, List.map_nil, List.forall_mem_cons]; exact ⟨hFbt, hFb1, fun _ h => by cases h⟩)), ?_⟩
              show K (.tuple [.slice false (out.map intAV), .err 57 0]) (AMem.wth m [(b, .cells [.ptr ⟨g, 0, none⟩]), (g, .cells [.slice true (needs.map (lstAV intAV))])])
             
              have e : q = needs.length := by omega
              have e2 : reachF f l needs.length = (out, 0) := by rw [reachF, if_pos hok, ← hrch, hI3.2.2, e]
              rw [e2] at hK; exact hK

end Go.Proofs
