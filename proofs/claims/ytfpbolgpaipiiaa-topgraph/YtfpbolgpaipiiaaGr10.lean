import Derived.Test.YtfpbolgpaipiiaaProg
import Derived.Test.YtfpbolgpaipiiaaMix
import Derived.Test.YtfpbolgpaipiiaaWxa
import Derived.Test.YtfpbolgpaipiiaaGr8
import Derived.Test.YtfpbolgpaipiiaaGr9
namespace Go.Proofs
open Go Go.Aw
set_option maxRecDepth 100000


theorem nd2 {a b : Nat} (h : [a, b].Nodup) : a ≠ b := by simpa using h
theorem under_ok {needs : List (List Int)} (hok : okN needs = true) : ∀ x : Int, 0 ≤ x → x < needs.length → okL needs.length (underF needs x) = true := fun x h0 h1 => List.all_eq_true.1 hok _ (gI_mem h0 h1)
theorem under_len {needs : List (List Int)} (hl : ∀ w ∈ needs, w.length ≤ 1048576) : ∀ x : Int, 0 ≤ x → x < needs.length → (underF needs x).length ≤ 67108864 := fun x h0 h1 => by
  have := hl _ (gI_mem (l := needs) h0 h1)
  unfold underF; omega
theorem over_ok {needs : List (List Int)} : ∀ x : Int, 0 ≤ x → x < needs.length → okL needs.length (overF needs x) = true := fun x h0 h1 => by
  rw [okL, List.all_eq_true]
  intro y hy
  have := (overF_mem.1 hy).1
  simpa using this
theorem over_len {needs : List (List Int)} (hn : needs.length ≤ 64) (hl : ∀ w ∈ needs, w.length ≤ 1048576) : ∀ x : Int, 0 ≤ x → x < needs.length → (overF needs x).length ≤ 67108864 := fun x h0 h1 => by
  have h := overTo_le (needs := needs) (x := x) 1048576 hl needs.length (Nat.le_refl _)
  have h2 : needs.length * 1048576 ≤ 64 * 1048576 := Nat.mul_le_mul_right _ hn
  unfold overF; omega
theorem reachF_under {needs : List (List Int)} {l : List Int} (hok : okN needs = true) : reachF (underF needs) l needs.length = reachR needs l false := by
  unfold reachF
  split
  · rename_i h; rw [reach_under hok h]
  · rename_i h; rw [reachR, if_neg h]
theorem reachF_over {needs : List (List Int)} {l : List Int} (hok : okN needs = true) : reachF (overF needs) l needs.length = reachR needs l true := by
  unfold reachF
  split
  · rename_i h; rw [reach_over hok h]
  · rename_i h; rw [reachR, if_neg h]

theorem u_Under (g : Nat) (needs : List (List Int)) (l : List Int) (hok : okN needs = true) (hn : needs.length ≤ 64) (hl : ∀ w ∈ needs, w.length ≤ 1048576) (hll : l.length ≤ 1000) (m : AMem)  (K : AV → AMem → Prop) (hK : K (.tuple [.slice false ((reachR needs l false).1.map intAV), .err 57 (reachR needs l false).2]) (AMem.wth m [(g, .cells [.slice true (needs.map (lstAV intAV))])])) : ACalls Try.prog 17 [.ptr ⟨g, 0, none⟩, .slice false (l.map intAV)] (AMem.wth m [(g, .cells [.slice true (needs.map (lstAV intAV))])]) K := by
  refine acalls_enter Try.func17 rfl (by decide) (Nat.le_of_ble_eq_true rfl) ?_
  show AWP _ _ _ _ [(0, .ptr ⟨g, 0, none⟩), (1, .slice false (l.map intAV))] (AMem.wth m [(g, .cells [.slice true (needs.map (lstAV intAV))])])
  refine awp_reg2_seq [] [1, 2] (by decide) ?_
  intro K1 hK1
  refine ar_box rfl (m := m) (L := [(g, .cells [.slice true (needs.map (lstAV intAV))])]) (v := .ptr ⟨g, 0, none⟩) rfl rfl ?_
  intro b1 hb1
  have hFb1 : m b1 = none := wth_none (m := m) (L := [(g, .cells [.slice true (needs.map (lstAV intAV))])]) hb1
  have hNb1 : ([b1, g] : List Nat).Nodup := wth_nodup (m := m) (L := [(g, .cells [.slice true (needs.map (lstAV intAV))])]) hb1 (nodup_one g)
  refine ⟨trivial, trivial, ?_⟩
  show K1 [(1, .slice false (l.map intAV)), (2, .ptr ⟨b1, 0, none⟩)] (AMem.wth m [(b1, .cells [.ptr ⟨g, 0, none⟩]), (g, .cells [.slice true (needs.map (lstAV intAV))])])
  refine hK1 _ _ ?_; clear hK1 K1
  refine awp_reg2_seq [] [4, 5] (by decide) ?_
  intro K1 hK1
  refine ar_loadp rfl (m := m) (L := [(b1, .cells [.ptr ⟨g, 0, none⟩]), (g, .cells [.slice true (needs.map (lstAV intAV))])]) (v := .ptr ⟨g, 0, none⟩) rfl (wth_get (m := m) (L := [(b1, .cells [.ptr ⟨g, 0, none⟩]), (g, .cells [.slice true (needs.map (lstAV intAV))])]) 0 hNb1 rfl) rfl (apartOk_one rfl rfl (Nat.le_of_ble_eq_true rfl)) rfl ?_
  refine ⟨trivial, ?_⟩
  refine ar_makeFunc rfl (fl := []) (cl := [.ptr ⟨b1, 0, none⟩]) rfl rfl ?_
  refine u_reach b1 g 28 needs l (underF needs) (nd2 hNb1) hn hll (under_ok hok) (under_len hl) (fun x h0 h1 m K hK => u_Under1 b1 g x needs (nd2 hNb1) h0 h1 m K hK) _ _ ?_
  show aopsR _ _ _ _ _ _ (AMem.wth m [(b1, .cells [.ptr ⟨g, 0, none⟩]), (g, .cells [.slice true (needs.map (lstAV intAV))])])
  refine ⟨(Nat.le_of_ble_eq_true rfl), (Nat.le_of_ble_eq_true rfl), trivial, trivial, ?_⟩
  show K1 [(4, .slice false (((reachF (underF needs) l needs.length).1).map intAV)), (5, .err 57 ((reachF (underF needs) l needs.length).2))] (AMem.wth m [(b1, .cells [.ptr ⟨g, 0, none⟩]), (g, .cells [.slice true (needs.map (lstAV intAV))])])
  refine hK1 _ _ ?_; clear hK1 K1
  refine awp_ret ?_
  refine ⟨trivial, trivial, (AMem.wth m [(g, .cells [.slice true (needs.map (lstAV intAV))])]), (wth_sub2 (m := m) [(b1, .cells [.ptr ⟨g, 0, none⟩])] [(g, .cells [.slice true (needs.map (lstAV intAV))])] hNb1 (by simp only [List.map_cons, List.map_nil, List.forall_mem_cons]; exact ⟨hFb1, fun _ h => by cases h⟩)), ?_⟩
  show K (.tuple [.slice false (((reachF (underF needs) l needs.length).1).map intAV), .err 57 ((reachF (underF needs) l needs.length).2)]) (AMem.wth m [(g, .cells [.slice true (needs.map (lstAV intAV))])])
 
  rw [reachF_under hok]; exact hK

theorem u_Over (g : Nat) (needs : List (List Int)) (l : List Int) (hok : okN needs = true) (hn : needs.length ≤ 64) (hl : ∀ w ∈ needs, w.length ≤ 1048576) (hll : l.length ≤ 1000) (m : AMem)  (K : AV → AMem → Prop) (hK : K (.tuple [.slice false ((reachR needs l true).1.map intAV), .err 57 (reachR needs l true).2]) (AMem.wth m [(g, .cells [.slice true (needs.map (lstAV intAV))])])) : ACalls Try.prog 19 [.ptr ⟨g, 0, none⟩, .slice false (l.map intAV)] (AMem.wth m [(g, .cells [.slice true (needs.map (lstAV intAV))])]) K := by
  refine acalls_enter Try.func19 rfl (by decide) (Nat.le_of_ble_eq_true rfl) ?_
  show AWP _ _ _ _ [(0, .ptr ⟨g, 0, none⟩), (1, .slice false (l.map intAV))] (AMem.wth m [(g, .cells [.slice true (needs.map (lstAV intAV))])])
  refine awp_reg2_seq [] [1, 2] (by decide) ?_
  intro K1 hK1
  refine ar_box rfl (m := m) (L := [(g, .cells [.slice true (needs.map (lstAV intAV))])]) (v := .ptr ⟨g, 0, none⟩) rfl rfl ?_
  intro b1 hb1
  have hFb1 : m b1 = none := wth_none (m := m) (L := [(g, .cells [.slice true (needs.map (lstAV intAV))])]) hb1
  have hNb1 : ([b1, g] : List Nat).Nodup := wth_nodup (m := m) (L := [(g, .cells [.slice true (needs.map (lstAV intAV))])]) hb1 (nodup_one g)
  refine ⟨trivial, trivial, ?_⟩
  show K1 [(1, .slice false (l.map intAV)), (2, .ptr ⟨b1, 0, none⟩)] (AMem.wth m [(b1, .cells [.ptr ⟨g, 0, none⟩]), (g, .cells [.slice true (needs.map (lstAV intAV))])])
  refine hK1 _ _ ?_; clear hK1 K1
  refine awp_reg2_seq [] [4, 5] (by decide) ?_
  intro K1 hK1
  refine ar_loadp rfl (m := m) (L := [(b1, .cells [.ptr ⟨g, 0, none⟩]), (g, .cells [.slice true (needs.map (lstAV intAV))])]) (v := .ptr ⟨g, 0, none⟩) rfl (wth_get (m := m) (L := [(b1, .cells [.ptr ⟨g, 0, none⟩]), (g, .cells [.slice true (needs.map (lstAV intAV))])]) 0 hNb1 rfl) rfl (apartOk_one rfl rfl (Nat.le_of_ble_eq_true rfl)) rfl ?_
  refine ⟨trivial, ?_⟩
  refine ar_makeFunc rfl (fl := []) (cl := [.ptr ⟨b1, 0, none⟩]) rfl rfl ?_
  refine u_reach b1 g 29 needs l (overF needs) (nd2 hNb1) hn hll over_ok (over_len hn hl) (fun x h0 h1 m K hK => u_Over1 b1 g x needs (nd2 hNb1) hn hl m K hK) _ _ ?_
  show aopsR _ _ _ _ _ _ (AMem.wth m [(b1, .cells [.ptr ⟨g, 0, none⟩]), (g, .cells [.slice true (needs.map (lstAV intAV))])])
  refine ⟨(Nat.le_of_ble_eq_true rfl), (Nat.le_of_ble_eq_true rfl), trivial, trivial, ?_⟩
  show K1 [(4, .slice false (((reachF (overF needs) l needs.length).1).map intAV)), (5, .err 57 ((reachF (overF needs) l needs.length).2))] (AMem.wth m [(b1, .cells [.ptr ⟨g, 0, none⟩]), (g, .cells [.slice true (needs.map (lstAV intAV))])])
  refine hK1 _ _ ?_; clear hK1 K1
  refine awp_ret ?_
  refine ⟨trivial, trivial, (AMem.wth m [(g, .cells [.slice true (needs.map (lstAV intAV))])]), (wth_sub2 (m := m) [(b1, .cells [.ptr ⟨g, 0, none⟩])] [(g, .cells [.slice true (needs.map (lstAV intAV))])] hNb1 (by simp only [List.map_cons, List.map_nil, List.forall_mem_cons]; exact ⟨hFb1, fun _ h => by cases h⟩)), ?_⟩
  show K (.tuple [.slice false (((reachF (overF needs) l needs.length).1).map intAV), .err 57 ((reachF (overF needs) l needs.length).2)]) (AMem.wth m [(g, .cells [.slice true (needs.map (lstAV intAV))])])
 
  rw [reachF_over hok]; exact hK


theorem u_New_ok (needs : List (List Int)) (hE : newE needs = 0) (hs : needs.length ≤ 1048576) (hl : ∀ l ∈ needs, l.length ≤ 1048576) (m : AMem) (K : AV → AMem → Prop) (hK : ∀ g, m g = none → K (.tuple [.ptr ⟨g, 0, none⟩, .err 57 0]) (AMem.wth m [(g, .cells [.slice true (needs.map (lstAV intAV))])])) : ACalls Try.prog 9 [.slice false (needs.map (lstAV intAV))] m K :=
  u_New needs hs hl m K (fun h => absurd hE h) (fun _ => hK)
theorem u_New_err (needs : List (List Int)) (hE : newE needs ≠ 0) (hs : needs.length ≤ 1048576) (hl : ∀ l ∈ needs, l.length ≤ 1048576) (m : AMem) (K : AV → AMem → Prop) (hK : K (.tuple [.nilptr, .err 57 (newE needs)]) m) : ACalls Try.prog 9 [.slice false (needs.map (lstAV intAV))] m K :=
  u_New needs hs hl m K (fun _ => hK) (fun h => absurd h hE)
theorem u_Order_leans (g : Nat) (m : AMem) (K : AV → AMem → Prop) (hK : K (.tuple [.slice false (([1, 0] : List Int).map intAV), .err 57 0]) (AMem.wth m [(g, .cells [.slice true (([[1], []] : List (List Int)).map (lstAV intAV))])])) : ACalls Try.prog 13 [.ptr ⟨g, 0, none⟩] (AMem.wth m [(g, .cells [.slice true (([[1], []] : List (List Int)).map (lstAV intAV))])]) K := by
  refine u_Order g [[1], []] (by decide) (by decide) (by decide) m K ?_
  have e : wavesR [[1], []] = ([[1], [0]], 0) := by decide
  rw [e]; exact hK


theorem u_New_leans (m : AMem) (K : AV → AMem → Prop) (hK : ∀ g, m g = none → K (.tuple [.ptr ⟨g, 0, none⟩, .err 57 0]) (AMem.wth m [(g, .cells [.slice true (([[1], []] : List (List Int)).map (lstAV intAV))])])) : ACalls Try.prog 9 [.slice false [.slice false [.int .i64 1], .slice true []]] m K := by
  refine ACalls.conv (args' := [.slice false (([[1], []] : List (List Int)).map (lstAV intAV))]) rfl ?_ (u_New_ok [[1], []] (by decide) (by decide) (by decide) m K hK)
  intro w lim i v hv
  match i with
  | 0 =>
    refine rep_slice_conv (l := [.slice false [.int .i64 1], .slice true []]) rfl (fun i => ?_) (fun i j v hv => ?_) hv
    · match i with
      | 0 => rfl
      | 1 => rfl
      | _ + 2 => rfl
    · match i, j with
      | 0, _ => exact hv
      | 1, 0 => exact hv.plain
      | 1, _ + 1 => exact hv
      | _ + 2, _ => exact hv
  | _ + 1 => exact hv

theorem u_leans   (m : AMem)  (K : AV → AMem → Prop) (hK : K (.bool true) m) : ACalls Try.prog 7 [] m K := by
  refine acalls_enter Try.func7 rfl (by decide) (Nat.le_of_ble_eq_true rfl) ?_
  show AWP _ _ _ _ [] m
  refine awp_reg2_seq [] [] (by decide) ?_
  intro K1 hK1
  refine ⟨trivial, ?_⟩
  show K1 [] m
  refine hK1 _ _ ?_; clear hK1 K1
  refine awp_reg2_seq [] [1, 2] (by decide) ?_
  intro K1 hK1
  refine ⟨⟨rfl, Nat.le_of_ble_eq_true rfl, rfl, Nat.le_of_ble_eq_true rfl, rfl, by simp only [List.forall_mem_cons]; exact ⟨⟨rfl, rfl⟩, fun _ h => by cases h⟩⟩, ⟨rfl, Nat.le_of_ble_eq_true rfl, rfl, Nat.le_of_ble_eq_true rfl, rfl, by simp only [List.forall_mem_cons]; exact ⟨⟨rfl, rfl⟩, ⟨rfl, rfl⟩, fun _ h => by cases h⟩⟩, ?_⟩
  refine u_New_leans _ _ ?_
  intro b1 hb1
  have hFb1 : m b1 = none := wth_none (m := m) (L := []) hb1
  have hNb1 : ([b1] : List Nat).Nodup := wth_nodup (m := m) (L := []) hb1 List.nodup_nil
  show aopsR _ _ _ _ _ _ (AMem.wth m [(b1, .cells [.slice true (([[1], []] : List (List Int)).map (lstAV intAV))])])
  refine ⟨trivial, (Nat.le_of_ble_eq_true rfl), (Nat.le_of_ble_eq_true rfl), trivial, trivial, ?_⟩
  show K1 [(1, .ptr ⟨b1, 0, none⟩), (2, .err 57 0)] (AMem.wth m [(b1, .cells [.slice true (([[1], []] : List (List Int)).map (lstAV intAV))])])
  refine hK1 _ _ ?_; clear hK1 K1
  refine awp_seq_k ?_; intro K2 hK2
  refine awp_reg2_seq [] [1, 16] (by decide) ?_
  intro K1 hK1
  suffices key : K1 [(1, .ptr ⟨b1, 0, none⟩), (16, .bool false)] (AMem.wth m [(b1, .cells [.slice true (([[1], []] : List (List Int)).map (lstAV intAV))])]) by
    refine ⟨trivial, ⟨rfl, rfl⟩, trivial, trivial, rfl, ?_⟩
    exact key
  refine hK1 _ _ ?_; clear hK1 K1
  refine awp_cond rfl rfl (fun hc => ?_) (fun hc => ?_)
  · cases hc
  clear hc
  refine awp_skip ?_
  refine hK2 _ _ ?_; clear hK2
  refine awp_reg2_seq [] [3, 4] (by decide) ?_
  intro K1 hK1
  refine ⟨trivial, ?_⟩
  refine u_Order_leans b1 _ _ ?_
  show aopsR _ _ _ _ _ _ (AMem.wth m [(b1, .cells [.slice true (([[1], []] : List (List Int)).map (lstAV intAV))])])
  refine ⟨trivial, (Nat.le_of_ble_eq_true rfl), (Nat.le_of_ble_eq_true rfl), trivial, trivial, ?_⟩
  show K1 [(3, .slice false (([1, 0] : List Int).map intAV)), (4, .err 57 0)] (AMem.wth m [(b1, .cells [.slice true (([[1], []] : List (List Int)).map (lstAV intAV))])])
  refine hK1 _ _ ?_; clear hK1 K1
  refine awp_reg2_seq [] [0] (by decide) ?_
  intro K1 hK1
  suffices key : K1 [(0, .bool (decide (([1, 0] : List Int) = [1, 0])))] (AMem.wth m [(b1, .cells [.slice true (([[1], []] : List (List Int)).map (lstAV intAV))])]) by
    refine ⟨trivial, ?_⟩
    refine u_same 0 0 (by first | omega | decide | assumption) _ _ ?_
    refine ⟨trivial, trivial, ⟨rfl, Nat.le_of_ble_eq_true rfl, rfl, Nat.le_of_ble_eq_true rfl, rfl, by simp only [List.forall_mem_cons]; exact ⟨⟨rfl, rfl⟩, ⟨rfl, rfl⟩, fun _ h => by cases h⟩⟩, ?_⟩
    refine u_SameNumbers [1, 0] [1, 0] (by decide) _ _ ?_
    refine ⟨trivial, ?_⟩
    exact key
  refine hK1 _ _ ?_; clear hK1 K1
  refine awp_ret ?_
  refine ⟨trivial, m, (wth_sub2 (m := m) [(b1, .cells [.slice true (([[1], []] : List (List Int)).map (lstAV intAV))])] [] hNb1 (by simp only [List.map_cons, List.map_nil, List.forall_mem_cons]; exact ⟨hFb1, fun _ h => by cases h⟩)), ?_⟩
  show K (.bool (decide (([1, 0] : List Int) = [1, 0]))) m
 
  exact hK

end Go.Proofs
