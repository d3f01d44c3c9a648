import Derived.Test.YtoeghipbkmaccaaProg
import Derived.Test.YtoeghipbkmaccaaWl5
import Derived.Test.YtoeghipbkmaccaaWxr
import Derived.Test.YtoeghipbkmaccaaDk3
section
namespace Go.Proofs
open Go Go.Aw
set_option maxRecDepth 100000


def fileAV (p : Str × Str) : AV := .agg [.str p.1, .str p.2]
structure Trn where
  kind : Int
  name : Str
  data : Str
  to : Str
instance : Inhabited Trn := ⟨⟨0, [], [], []⟩⟩
def trnAV (c : Trn) : AV := .agg [.int .i64 c.kind, .str c.name, .str c.data, .str c.to]
def hasR : List (Str × Str) → Str → Int
  | [], _ => -1
  | p :: r, n => if p.1 = n then 0 else if hasR r n < 0 then -1 else hasR r n + 1
theorem hasR_none {l : List (Str × Str)} {n : Str} (h : ∀ p ∈ l, p.1 ≠ n) : hasR l n = -1 := by
  induction l with
  | nil => rfl
  | cons p r ih => rw [hasR, if_neg (h p (by simp)), ih (fun q hq => h q (by simp [hq]))]; rfl
theorem hasR_at {l : List (Str × Str)} {n : Str} : ∀ {i : Nat}, (∀ p ∈ l.take i, p.1 ≠ n) → i < l.length → (l.getD i default).1 = n → hasR l n = i := by
  induction l with
  | nil => intro i _ h; simp at h
  | cons p r ih =>
    intro i h1 h2 h3
    cases i with
    | zero => rw [hasR, if_pos (by simpa using h3)]; rfl
    | succ i =>
      have := ih (i := i) (fun q hq => h1 q (by simp [hq])) (by simpa using h2) (by simpa using h3)
      rw [hasR, if_neg (h1 p (by simp)), this, if_neg (by omega)]; rfl
theorem hasR_spec (l : List (Str × Str)) (n : Str) : (hasR l n = -1 ∧ mget l n = none) ∨ (0 ≤ hasR l n ∧ hasR l n < l.length ∧ ∃ v, mget l n = some v ∧ gI l (hasR l n) = (n, v)) := by
  induction l with
  | nil => exact .inl ⟨rfl, rfl⟩
  | cons p r ih =>
    obtain ⟨a, b⟩ := p
    by_cases h : a = n
    · subst h
      refine .inr ⟨by simp [hasR], by simp [hasR], b, by simp [mget], by simp [hasR, gI]⟩
    · simp only [hasR, mget, if_neg h]
      rcases ih with ⟨h1, h2⟩ | ⟨h1, h2, v, h3, h4⟩
      · exact .inl ⟨by rw [h1]; rfl, h2⟩
      · rw [if_neg (by omega)]
        refine .inr ⟨by omega, by simp; omega, v, h3, ?_⟩
        have e : (hasR r n + 1).toNat = (hasR r n).toNat + 1 := by omega
        simp only [gI, e, List.getD_cons_succ]
        exact h4
def putS (f : Str × Str) (st : List (Str × Str) × Bool) (x : Str × Str) : List (Str × Str) × Bool :=
  if st.2 = false ∧ (Op.bytesLess f.1 x.1 = true ∨ f.1 = x.1) then (if x.1 ≠ f.1 then (st.1 ++ [f] ++ [x], true) else (st.1 ++ [f], true))
  else (if x.1 ≠ f.1 then (st.1 ++ [x], st.2) else st)
def putR (l : List (Str × Str)) (f : Str × Str) : List (Str × Str) := if (l.foldl (putS f) ([], false)).2 = true then (l.foldl (putS f) ([], false)).1 else (l.foldl (putS f) ([], false)).1 ++ [f]
theorem putS_step {l : List (Str × Str)} {f : Str × Str} {i : Int} {st : List (Str × Str) × Bool} (h0 : 0 ≤ i) (hi : i < l.length) (h : st = (l.take i.toNat).foldl (putS f) ([], false)) : (l.take (i + 1).toNat).foldl (putS f) ([], false) = putS f st (gI l i) := by
  rw [take_succ_gI h0 hi, List.foldl_append, ← h]; rfl
def woR (l : List (Str × Str)) (n : Str) : List (Str × Str) := l.filter fun p => decide (p.1 ≠ n)
def turnR (l : List (Str × Str)) (t : Trn) : List (Str × Str) :=
  if t.kind = 1 then putR l (t.name, t.data)
  else if t.kind = 2 then putR l (t.name, (mget l t.name).getD [] ++ t.data)
  else if t.kind = 4 then putR (woR l t.name) (t.to, (mget l t.name).getD [])
  else woR l t.name

def trnObj (t : Trn) : AObj := .cells [.int .i64 t.kind, .str t.name, .str t.data, .str t.to]

theorem u_Has (l : List (Str × Str)) (n : Str)  (m : AMem)  (K : AV → AMem → Prop) (hK : K (.int .i64 (hasR l n)) m) : ACalls Try.prog 73 [.slice false (l.map fileAV), .str n] m K := by
 refine acalls_enter Try.func73 rfl (by decide) (Nat.le_of_ble_eq_true rfl) ?_
 refine awp_bd 0 (x := .slice false (l.map fileAV)) rfl (fun hbd0 => ?_)
 have hbd0_0 : l.length ≤ 140737488355328 := bd_map (o := false) hbd0
 show AWP _ _ _ _ [(0, .slice false (l.map fileAV)), (1, .str n)] m
 refine awp_reg2_seq [] [0, 1] (by decide) ?_
 intro K1 hK1
 refine ⟨trivial, ?_⟩
 show K1 [(0, .slice false (l.map fileAV)), (1, .str n)] m
 refine hK1 _ _ ?_; clear hK1 K1
 refine awp_seq_k ?_; intro K2 hK2
 refine awp_reg2_seq [] [0, 1, 5] (by decide) ?_
 intro K1 hK1
 refine ⟨trivial, ?_⟩
 show K1 [(0, .slice false (l.map fileAV)), (1, .str n), (5, .int .i64 0)] m
 refine hK1 _ _ ?_; clear hK1 K1
 refine awp_block ?_
 refine awp_keep [0, 1, 5] (by decide) ?_
 refine awp_loop_st (σ := Int) (fun i => [(0, .slice false (l.map fileAV)), (1, .str n), (5, .int .i64 i)]) (fun _ => m) (fun i => 0 ≤ i ∧ i ≤ l.length ∧ ∀ p ∈ l.take i.toNat, p.1 ≠ n) (fun i => l.length - i.toNat) (0) rfl rfl ?_ ?_
 ·
  show 0 ≤ ((0 : Int)) ∧ ((0 : Int)) ≤ l.length ∧ ∀ p ∈ l.take ((0 : Int)).toNat, p.1 ≠ n
  exact ⟨by omega, by omega, by simp⟩
 rintro i hI
 replace hI : 0 ≤ i ∧ i ≤ l.length ∧ ∀ p ∈ l.take i.toNat, p.1 ≠ n := hI
 show AWP _ _ _ _ [(0, .slice false (l.map fileAV)), (1, .str n), (5, .int .i64 i)] m
 refine awp_seq_k ?_; intro K3 hK3
 refine awp_reg2_seq [] [0, 1, 5, 9] (by decide) ?_
 intro K1 hK1
 refine ⟨trivial, trivial, ?_⟩
 refine ar_len rfl fileAV l rfl rfl rfl ?_
 refine ⟨trivial, ?_⟩
 show K1 [(0, .slice false (l.map fileAV)), (1, .str n), (5, .int .i64 i), (9, .bool (decide (i < (l.length : Int))))] m
 refine hK1 _ _ ?_; clear hK1 K1
 refine awp_cond rfl rfl (fun h1 => ?_) (fun h1 => ?_)
 ·
  replace h1 : i < (l.length : Int) := (of_decide_eq_true h1)
  refine awp_skip ?_
  refine hK3 _ _ ?_; clear hK3
  refine awp_seq_k ?_; intro K4 hK4
  refine awp_block ?_
  refine awp_reg2_seq [] [0, 1, 5, 18] (by decide) ?_
  intro K1 hK1
  refine ⟨trivial, trivial, ?_⟩
  refine ar_index rfl fileAV l i rfl rfl rfl rfl rfl (by decide) (fun _ => rfl) (by omega) (by omega) ?_
  refine ⟨⟨rfl, by decide, (Nat.le_of_ble_eq_true rfl)⟩, (apartOk_one rfl rfl (Nat.le_of_ble_eq_true rfl)), trivial, trivial, ?_⟩
  show K1 [(0, .slice false (l.map fileAV)), (1, .str n), (5, .int .i64 i), (18, .bool (((gI l i).1) == n))] m
  refine hK1 _ _ ?_; clear hK1 K1
  refine awp_cond rfl rfl (fun h2 => ?_) (fun h2 => ?_)
  ·
   replace h2 : (gI l i).1 = n := (eq_of_beq h2)
   refine awp_reg2_seq [] [4] (by decide) ?_
   intro K1 hK1
   refine ⟨trivial, trivial, ?_⟩
   show K1 [(4, .int .i64 i)] m
   refine hK1 _ _ ?_; clear hK1 K1
   refine awp_ret ?_
   refine ⟨trivial, m, fun _ _ h => h, ?_⟩
   show K (.int .i64 i) m
  
   refine K_eq hK (congrArg (AV.int .i64) ?_)
   have := hasR_at (i := i.toNat) hI.2.2 (by omega) h2; omega
  replace h2 : (gI l i).1 ≠ n := (ne_of_beq_false h2)
  refine awp_skip ?_
  refine hK4 _ _ ?_; clear hK4
  refine awp_reg2 [] [0, 1, 5] (by decide) ?_
  intro K1 hK1
  refine ⟨trivial, ?_⟩
  refine ar_add rfl (a := i) (b := 1) rfl rfl (by omega) (by omega) ?_
  refine ⟨trivial, ?_⟩
  show K1 [(0, .slice false (l.map fileAV)), (1, .str n), (5, .int .i64 (i + 1))] m
  refine hK1 _ _ ?_; clear hK1 K1
  refine ⟨(i + 1), rfl, rfl, ?_, ?_⟩
  ·
   show 0 ≤ ((i + 1 : Int)) ∧ ((i + 1 : Int)) ≤ l.length ∧ ∀ p ∈ l.take ((i + 1 : Int)).toNat, p.1 ≠ n
   refine ⟨by omega, by omega, fun p hp => ?_⟩
   rw [take_succ_gI hI.1 h1] at hp
   rcases List.mem_append.1 hp with hp | hp
   ·
    exact hI.2.2 p hp
   ·
    simp at hp; subst hp; exact h2
  ·
   show l.length - ((i + 1 : Int)).toNat < l.length - i.toNat
   omega
 replace h1 : (l.length : Int) ≤ i := (Int.not_lt.1 (of_decide_eq_false h1))
 refine awp_exit ?_
 refine hK2 _ _ ?_; clear hK2
 refine awp_reg2_seq [] [4] (by decide) ?_
 intro K1 hK1
 refine ⟨trivial, ?_⟩
 show K1 [(4, .int .i64 (-1))] m
 refine hK1 _ _ ?_; clear hK1 K1
 refine awp_ret ?_
 refine ⟨trivial, m, fun _ _ h => h, ?_⟩
 show K (.int .i64 (-1)) m

 refine K_eq hK (congrArg (AV.int .i64) ?_)
 exact hasR_none (by have := hI.2.2; rwa [take_full h1] at this)

set_option maxHeartbeats 4000000 in
theorem u_put (l : List (Str × Str)) (f : Str × Str) (hl : l.length ≤ 1000000) (m : AMem)  (K : AV → AMem → Prop) (hK : K (.slice true ((putR l f).map fileAV)) m) : ACalls Try.prog 91 [.slice false (l.map fileAV), fileAV f] m K := by
 refine acalls_enter Try.func91 rfl (by decide) (Nat.le_of_ble_eq_true rfl) ?_
 refine awp_bd 0 (x := .slice false (l.map fileAV)) rfl (fun hbd0 => ?_)
 have hbd0_0 : l.length ≤ 140737488355328 := bd_map (o := false) hbd0
 show AWP _ _ _ _ [(0, .slice false (l.map fileAV)), (1, fileAV f)] m
 refine awp_reg2_seq [] [0, 3] (by decide) ?_
 intro K1 hK1
 refine ar_box rfl (m := m) (L := []) (v := fileAV f) (by rfl) rfl ?_
 intro b1 hb1
 have hFb1 : m b1 = none := wth_none (m := m) (L := []) hb1
 have hNb1 : ([b1] : List Nat).Nodup := wth_nodup (m := m) (L := []) hb1 List.nodup_nil
 refine ⟨trivial, ?_⟩
 show K1 [(0, .slice false (l.map fileAV)), (3, .ptr ⟨b1, 0, none⟩)] (AMem.wth m [(b1, .cells [.str f.1, .str f.2])])
 refine hK1 _ _ ?_; clear hK1 K1
 refine awp_reg2_seq [] [0, 3, 5] (by decide) ?_
 intro K1 hK1
 refine ⟨trivial, ?_⟩
 show K1 [(0, .slice false (l.map fileAV)), (3, .ptr ⟨b1, 0, none⟩), (5, .slice true [])] (AMem.wth m [(b1, .cells [.str f.1, .str f.2])])
 refine hK1 _ _ ?_; clear hK1 K1
 refine awp_reg2_seq [] [0, 3, 5, 6] (by decide) ?_
 intro K1 hK1
 refine ⟨trivial, ?_⟩
 show K1 [(0, .slice false (l.map fileAV)), (3, .ptr ⟨b1, 0, none⟩), (5, .slice true []), (6, .bool false)] (AMem.wth m [(b1, .cells [.str f.1, .str f.2])])
 refine hK1 _ _ ?_; clear hK1 K1
 refine awp_seq_k ?_; intro K2 hK2
 refine awp_reg2_seq [] [0, 3, 5, 6, 7] (by decide) ?_
 intro K1 hK1
 refine ⟨trivial, ?_⟩
 show K1 [(0, .slice false (l.map fileAV)), (3, .ptr ⟨b1, 0, none⟩), (5, .slice true []), (6, .bool false), (7, .int .i64 0)] (AMem.wth m [(b1, .cells [.str f.1, .str f.2])])
 refine hK1 _ _ ?_; clear hK1 K1
 refine awp_block ?_
 refine awp_keep [0, 3, 5, 6, 7] (by decide) ?_
 refine awp_loop_st (σ := (List (Str × Str)) × Bool × Int) (fun ⟨out, laid, i⟩ => [(0, .slice false (l.map fileAV)), (3, .ptr ⟨b1, 0, none⟩), (5, .slice true (out.map fileAV)), (6, .bool laid), (7, .int .i64 i)]) (fun _ => (AMem.wth m [(b1, .cells [.str f.1, .str f.2])])) (fun ⟨out, laid, i⟩ => 0 ≤ i ∧ i ≤ l.length ∧ (out.length : Int) ≤ 2 * i ∧ (out, laid) = (l.take i.toNat).foldl (putS f) ([], false)) (fun ⟨out, laid, i⟩ => l.length - i.toNat) ([], false, 0) rfl rfl ?_ ?_
 ·
  show 0 ≤ ((0 : Int)) ∧ ((0 : Int)) ≤ l.length ∧ ((([] : (List (Str × Str)))).length : Int) ≤ 2 * ((0 : Int)) ∧ ((([] : (List (Str × Str)))), ((false : Bool))) = (l.take ((0 : Int)).toNat).foldl (putS f) ([], false)
  exact ⟨by omega, by omega, by simp, by simp⟩
 rintro ⟨out, laid, i⟩ hI
 replace hI : 0 ≤ i ∧ i ≤ l.length ∧ (out.length : Int) ≤ 2 * i ∧ (out, laid) = (l.take i.toNat).foldl (putS f) ([], false) := hI
 show AWP _ _ _ _ [(0, .slice false (l.map fileAV)), (3, .ptr ⟨b1, 0, none⟩), (5, .slice true (out.map fileAV)), (6, .bool laid), (7, .int .i64 i)] (AMem.wth m [(b1, .cells [.str f.1, .str f.2])])
 refine awp_seq_k ?_; intro K3 hK3
 refine awp_reg2_seq [] [0, 3, 5, 6, 7, 11] (by decide) ?_
 intro K1 hK1
 refine ⟨trivial, trivial, ?_⟩
 refine ar_len rfl fileAV l rfl rfl rfl ?_
 refine ⟨trivial, ?_⟩
 show K1 [(0, .slice false (l.map fileAV)), (3, .ptr ⟨b1, 0, none⟩), (5, .slice true (out.map fileAV)), (6, .bool laid), (7, .int .i64 i), (11, .bool (decide (i < (l.length : Int))))] (AMem.wth m [(b1, .cells [.str f.1, .str f.2])])
 refine hK1 _ _ ?_; clear hK1 K1
 refine awp_cond rfl rfl (fun h1 => ?_) (fun h1 => ?_)
 ·
  replace h1 : i < (l.length : Int) := (of_decide_eq_true h1)
  refine awp_skip ?_
  refine hK3 _ _ ?_; clear hK3
  refine awp_seq_k ?_; intro K4 hK4
  refine awp_block ?_
  refine awp_seq_k ?_; intro K5 hK5
  refine awp_draw_seq Try.mixed [] [0, 3, 5, 6, 7, 25] (by decide) (by decide) ?_
  intro K1 hK1
  suffices key : K1 [(0, .slice false (l.map fileAV)), (3, .ptr ⟨b1, 0, none⟩), (5, .slice true (out.map fileAV)), (6, .bool laid), (7, .int .i64 i), (25, .bool ((!laid) && ((Op.bytesLess f.1 ((gI l i).1)) || (f.1 == ((gI l i).1)))))] (AMem.wth m [(b1, .cells [.str f.1, .str f.2])]) by
   refine ⟨trivial, trivial, trivial, ?_⟩
   show pseq _ _ _ _ _ [(16, .bool (!laid)), (15, .bool (!laid)), (14, .bool laid), (0, .slice false (l.map fileAV)), (3, .ptr ⟨b1, 0, none⟩), (5, .slice true (out.map fileAV)), (6, .bool laid), (7, .int .i64 i), (11, .bool (decide (i < (l.length : Int))))] _
   revert key
   cases h2 : laid
   ·
    replace h2 : laid = false := h2
    intro key
    refine ⟨⟨rfl, by decide⟩, ?_⟩
    refine pq_loadp rfl (v := .str f.1) rfl (wth_get 0 hNb1 rfl) (apartOk_one rfl rfl (Nat.le_of_ble_eq_true rfl)) rfl ?_
    refine ⟨trivial, trivial, ?_⟩
    refine pq_index rfl fileAV l i rfl rfl rfl rfl rfl (by decide) (fun _ => rfl) (by omega) (by omega) ?_
    refine ⟨⟨rfl, by decide, (Nat.le_of_ble_eq_true rfl)⟩, (apartOk_one rfl rfl (Nat.le_of_ble_eq_true rfl)), trivial, trivial, ?_⟩
    exact key
   ·
    replace h2 : laid = true := h2
    intro key
    refine pq_off rfl rfl ?_
    refine pq_off rfl rfl ?_
    refine pq_off rfl rfl ?_
    refine pq_off rfl rfl ?_
    refine pq_off rfl rfl ?_
    refine pq_off rfl rfl ?_
    refine pq_off rfl rfl ?_
    refine pq_off rfl rfl ?_
    refine ⟨trivial, ?_⟩
    exact key
  refine hK1 _ _ ?_; clear hK1 K1
  refine awp_cond rfl rfl (fun h3 => ?_) (fun h3 => ?_)
  ·
   replace h3 : (laid = false) ∧ ((Op.bytesLess f.1 ((gI l i).1) = true) ∨ (f.1 = (gI l i).1)) := ⟨(bnT (bandL h3)), ((borT (bandR h3)).imp (fun q => q) (fun q => (eq_of_beq q)))⟩
   refine awp_reg2_seq [26] [0, 3, 5, 7] (by decide) ?_
   intro K1 hK1
   refine ⟨trivial, ?_⟩
   refine ar_loadp rfl (v := .agg [.str f.1, .str f.2]) rfl (wth_get 0 hNb1 rfl) rfl (apartOk_agg rfl rfl (Nat.le_of_ble_eq_true rfl)) rfl ?_
   refine ⟨⟨rfl, Nat.le_of_ble_eq_true rfl, rfl, Nat.le_of_ble_eq_true rfl, rfl, by simp only [List.forall_mem_cons]; exact ⟨⟨rfl, rfl⟩, fun _ h => by cases h⟩⟩, ?_⟩
   refine ar_append rfl fileAV out ([f] : List (Str × Str)) rfl rfl rfl rfl rfl rfl (Nat.le_of_ble_eq_true rfl) rfl (by (simp only [show Try.prog.bytesOf 118 = 32 from rfl, List.length_append, List.length_cons, List.length_nil]; omega)) (by (first | omega | (simp only [List.length_append, List.length_cons, List.length_nil]; omega))) (fun _ => ⟨rfl, rfl⟩) ?_
   refine ⟨trivial, ?_⟩
   show K1 [(0, .slice false (l.map fileAV)), (3, .ptr ⟨b1, 0, none⟩), (5, .slice true ((out ++ ([f] : List (Str × Str))).map fileAV)), (7, .int .i64 i)] (AMem.wth m [(b1, .cells [.str f.1, .str f.2])])
   refine hK1 _ _ ?_; clear hK1 K1
   refine awp_reg2 [] [0, 3, 5, 6, 7] (by decide) ?_
   intro K1 hK1
   refine ⟨trivial, ?_⟩
   show K1 [(0, .slice false (l.map fileAV)), (3, .ptr ⟨b1, 0, none⟩), (5, .slice true ((out ++ ([f] : List (Str × Str))).map fileAV)), (6, .bool true), (7, .int .i64 i)] (AMem.wth m [(b1, .cells [.str f.1, .str f.2])])
   refine hK1 _ _ ?_; clear hK1 K1
   refine hK5 _ _ ?_; clear hK5
   refine awp_draw_seq Try.mixed [] [0, 3, 5, 6, 7, 37] (by decide) (by decide) ?_
   intro K1 hK1
   refine ⟨trivial, trivial, ?_⟩
   refine pq_index rfl fileAV l i rfl rfl rfl rfl rfl (by decide) (fun _ => rfl) (by omega) (by omega) ?_
   refine ⟨⟨rfl, by decide, (Nat.le_of_ble_eq_true rfl)⟩, (apartOk_one rfl rfl (Nat.le_of_ble_eq_true rfl)), ⟨rfl, by decide⟩, ?_⟩
   refine pq_loadp rfl (v := .str f.1) rfl (wth_get 0 hNb1 rfl) (apartOk_one rfl rfl (Nat.le_of_ble_eq_true rfl)) rfl ?_
   refine ⟨trivial, ?_⟩
   show K1 [(0, .slice false (l.map fileAV)), (3, .ptr ⟨b1, 0, none⟩), (5, .slice true ((out ++ ([f] : List (Str × Str))).map fileAV)), (6, .bool true), (7, .int .i64 i), (37, .bool (!(((gI l i).1) == f.1)))] (AMem.wth m [(b1, .cells [.str f.1, .str f.2])])
   refine hK1 _ _ ?_; clear hK1 K1
   refine awp_cond rfl rfl (fun h4 => ?_) (fun h4 => ?_)
   ·
    replace h4 : (gI l i).1 ≠ f.1 := (ne_of_beq_false (bnT h4))
    refine awp_reg2 [38] [0, 3, 5, 6, 7] (by decide) ?_
    intro K1 hK1
    refine ⟨trivial, trivial, trivial, ?_⟩
    refine ar_index rfl fileAV l i rfl rfl rfl rfl rfl (by decide) (fun _ => rfl) (by omega) (by omega) ?_
    refine ⟨(apartOk_agg rfl rfl (Nat.le_of_ble_eq_true rfl)), ⟨rfl, Nat.le_of_ble_eq_true rfl, rfl, Nat.le_of_ble_eq_true rfl, rfl, by simp only [List.forall_mem_cons]; exact ⟨⟨rfl, rfl⟩, fun _ h => by cases h⟩⟩, ?_⟩
    refine ar_append rfl fileAV (out ++ ([f] : List (Str × Str))) ([gI l i] : List (Str × Str)) rfl rfl rfl rfl rfl rfl (Nat.le_of_ble_eq_true rfl) rfl (by (simp only [show Try.prog.bytesOf 118 = 32 from rfl, List.length_append, List.length_cons, List.length_nil]; omega)) (by (first | omega | (simp only [List.length_append, List.length_cons, List.length_nil]; omega))) (fun _ => ⟨rfl, rfl⟩) ?_
    refine ⟨trivial, ?_⟩
    show K1 [(0, .slice false (l.map fileAV)), (3, .ptr ⟨b1, 0, none⟩), (5, .slice true (((out ++ ([f] : List (Str × Str))) ++ ([gI l i] : List (Str × Str))).map fileAV)), (6, .bool true), (7, .int .i64 i)] (AMem.wth m [(b1, .cells [.str f.1, .str f.2])])
    refine hK1 _ _ ?_; clear hK1 K1
    refine hK4 _ _ ?_; clear hK4
    refine awp_reg2 [] [0, 3, 5, 6, 7] (by decide) ?_
    intro K1 hK1
    refine ⟨trivial, ?_⟩
    refine ar_add rfl (a := i) (b := 1) rfl rfl (by omega) (by omega) ?_
    refine ⟨trivial, ?_⟩
    show K1 [(0, .slice false (l.map fileAV)), (3, .ptr ⟨b1, 0, none⟩), (5, .slice true (((out ++ ([f] : List (Str × Str))) ++ ([gI l i] : List (Str × Str))).map fileAV)), (6, .bool true), (7, .int .i64 (i + 1))] (AMem.wth m [(b1, .cells [.str f.1, .str f.2])])
    refine hK1 _ _ ?_; clear hK1 K1
    refine ⟨((out ++ ([f] : List (Str × Str))) ++ ([gI l i] : List (Str × Str)), true, i + 1), rfl, rfl, ?_, ?_⟩
    ·
     show 0 ≤ ((i + 1 : Int)) ∧ ((i + 1 : Int)) ≤ l.length ∧ ((((out ++ ([f] : List (Str × Str))) ++ ([gI l i] : List (Str × Str)) : (List (Str × Str)))).length : Int) ≤ 2 * ((i + 1 : Int)) ∧ ((((out ++ ([f] : List (Str × Str))) ++ ([gI l i] : List (Str × Str)) : (List (Str × Str)))), ((true : Bool))) = (l.take ((i + 1 : Int)).toNat).foldl (putS f) ([], false)
     have hps := putS_step (f := f) hI.1 h1 hI.2.2.2
     refine ⟨by omega, by omega, by (first | omega | (simp only [List.length_append, List.length_cons, List.length_nil]; omega)), ?_⟩
     rw [hps]
     unfold putS
     split <;> (try split) <;> first | rfl | (exfalso; simp_all; done)
    ·
     show l.length - ((i + 1 : Int)).toNat < l.length - i.toNat
     omega
   replace h4 : (gI l i).1 = f.1 := (eq_of_beq (bnF h4))
   refine awp_skip ?_
   refine hK4 _ _ ?_; clear hK4
   refine awp_reg2 [] [0, 3, 5, 6, 7] (by decide) ?_
   intro K1 hK1
   refine ⟨trivial, ?_⟩
   refine ar_add rfl (a := i) (b := 1) rfl rfl (by omega) (by omega) ?_
   refine ⟨trivial, ?_⟩
   show K1 [(0, .slice false (l.map fileAV)), (3, .ptr ⟨b1, 0, none⟩), (5, .slice true ((out ++ ([f] : List (Str × Str))).map fileAV)), (6, .bool true), (7, .int .i64 (i + 1))] (AMem.wth m [(b1, .cells [.str f.1, .str f.2])])
   refine hK1 _ _ ?_; clear hK1 K1
   refine ⟨(out ++ ([f] : List (Str × Str)), true, i + 1), rfl, rfl, ?_, ?_⟩
   ·
    show 0 ≤ ((i + 1 : Int)) ∧ ((i + 1 : Int)) ≤ l.length ∧ (((out ++ ([f] : List (Str × Str)) : (List (Str × Str)))).length : Int) ≤ 2 * ((i + 1 : Int)) ∧ (((out ++ ([f] : List (Str × Str)) : (List (Str × Str)))), ((true : Bool))) = (l.take ((i + 1 : Int)).toNat).foldl (putS f) ([], false)
    have hps := putS_step (f := f) hI.1 h1 hI.2.2.2
    refine ⟨by omega, by omega, by (first | omega | (simp only [List.length_append, List.length_cons, List.length_nil]; omega)), ?_⟩
    rw [hps]
    unfold putS
    split <;> (try split) <;> first | rfl | (exfalso; simp_all; done)
   ·
    show l.length - ((i + 1 : Int)).toNat < l.length - i.toNat
    omega
  replace h3 : (laid = true) ∨ ((Op.bytesLess f.1 ((gI l i).1) = false) ∧ (f.1 ≠ (gI l i).1)) := ((bandF h3).imp (fun q => (bnF q)) (fun q => ⟨(borL q), (ne_of_beq_false (borR q))⟩))
  refine awp_skip ?_
  refine hK5 _ _ ?_; clear hK5
  refine awp_draw_seq Try.mixed [] [0, 3, 5, 6, 7, 37] (by decide) (by decide) ?_
  intro K1 hK1
  refine ⟨trivial, trivial, ?_⟩
  refine pq_index rfl fileAV l i rfl rfl rfl rfl rfl (by decide) (fun _ => rfl) (by omega) (by omega) ?_
  refine ⟨⟨rfl, by decide, (Nat.le_of_ble_eq_true rfl)⟩, (apartOk_one rfl rfl (Nat.le_of_ble_eq_true rfl)), ⟨rfl, by decide⟩, ?_⟩
  refine pq_loadp rfl (v := .str f.1) rfl (wth_get 0 hNb1 rfl) (apartOk_one rfl rfl (Nat.le_of_ble_eq_true rfl)) rfl ?_
  refine ⟨trivial, ?_⟩
  show K1 [(0, .slice false (l.map fileAV)), (3, .ptr ⟨b1, 0, none⟩), (5, .slice true (out.map fileAV)), (6, .bool laid), (7, .int .i64 i), (37, .bool (!(((gI l i).1) == f.1)))] (AMem.wth m [(b1, .cells [.str f.1, .str f.2])])
  refine hK1 _ _ ?_; clear hK1 K1
  refine awp_cond rfl rfl (fun h5 => ?_) (fun h5 => ?_)
  ·
   replace h5 : (gI l i).1 ≠ f.1 := (ne_of_beq_false (bnT h5))
   refine awp_reg2 [38] [0, 3, 5, 6, 7] (by decide) ?_
   intro K1 hK1
   refine ⟨trivial, trivial, trivial, ?_⟩
   refine ar_index rfl fileAV l i rfl rfl rfl rfl rfl (by decide) (fun _ => rfl) (by omega) (by omega) ?_
   refine ⟨(apartOk_agg rfl rfl (Nat.le_of_ble_eq_true rfl)), ⟨rfl, Nat.le_of_ble_eq_true rfl, rfl, Nat.le_of_ble_eq_true rfl, rfl, by simp only [List.forall_mem_cons]; exact ⟨⟨rfl, rfl⟩, fun _ h => by cases h⟩⟩, ?_⟩
   refine ar_append rfl fileAV out ([gI l i] : List (Str × Str)) rfl rfl rfl rfl rfl rfl (Nat.le_of_ble_eq_true rfl) rfl (by (simp only [show Try.prog.bytesOf 118 = 32 from rfl, List.length_append, List.length_cons, List.length_nil]; omega)) (by (first | omega | (simp only [List.length_append, List.length_cons, List.length_nil]; omega))) (fun _ => ⟨rfl, rfl⟩) ?_
   refine ⟨trivial, ?_⟩
   show K1 [(0, .slice false (l.map fileAV)), (3, .ptr ⟨b1, 0, none⟩), (5, .slice true ((out ++ ([gI l i] : List (Str × Str))).map fileAV)), (6, .bool laid), (7, .int .i64 i)] (AMem.wth m [(b1, .cells [.str f.1, .str f.2])])
   refine hK1 _ _ ?_; clear hK1 K1
   refine hK4 _ _ ?_; clear hK4
   refine awp_reg2 [] [0, 3, 5, 6, 7] (by decide) ?_
   intro K1 hK1
   refine ⟨trivial, ?_⟩
   refine ar_add rfl (a := i) (b := 1) rfl rfl (by omega) (by omega) ?_
   refine ⟨trivial, ?_⟩
   show K1 [(0, .slice false (l.map fileAV)), (3, .ptr ⟨b1, 0, none⟩), (5, .slice true ((out ++ ([gI l i] : List (Str × Str))).map fileAV)), (6, .bool laid), (7, .int .i64 (i + 1))] (AMem.wth m [(b1, .cells [.str f.1, .str f.2])])
   refine hK1 _ _ ?_; clear hK1 K1
   refine ⟨(out ++ ([gI l i] : List (Str × Str)), laid, i + 1), rfl, rfl, ?_, ?_⟩
   ·
    show 0 ≤ ((i + 1 : Int)) ∧ ((i + 1 : Int)) ≤ l.length ∧ (((out ++ ([gI l i] : List (Str × Str)) : (List (Str × Str)))).length : Int) ≤ 2 * ((i + 1 : Int)) ∧ (((out ++ ([gI l i] : List (Str × Str)) : (List (Str × Str)))), laid) = (l.take ((i + 1 : Int)).toNat).foldl (putS f) ([], false)
    have hps := putS_step (f := f) hI.1 h1 hI.2.2.2
    refine ⟨by omega, by omega, by (first | omega | (simp only [List.length_append, List.length_cons, List.length_nil]; omega)), ?_⟩
    rw [hps]
    unfold putS
    split <;> (try split) <;> first | rfl | (exfalso; simp_all; done)
   ·
    show l.length - ((i + 1 : Int)).toNat < l.length - i.toNat
    omega
  replace h5 : (gI l i).1 = f.1 := (eq_of_beq (bnF h5))
  refine awp_skip ?_
  refine hK4 _ _ ?_; clear hK4
  refine awp_reg2 [] [0, 3, 5, 6, 7] (by decide) ?_
  intro K1 hK1
  refine ⟨trivial, ?_⟩
  refine ar_add rfl (a := i) (b := 1) rfl rfl (by omega) (by omega) ?_
  refine ⟨trivial, ?_⟩
  show K1 [(0, .slice false (l.map fileAV)), (3, .ptr ⟨b1, 0, none⟩), (5, .slice true (out.map fileAV)), (6, .bool laid), (7, .int .i64 (i + 1))] (AMem.wth m [(b1, .cells [.str f.1, .str f.2])])
  refine hK1 _ _ ?_; clear hK1 K1
  refine ⟨(out, laid, i + 1), rfl, rfl, ?_, ?_⟩
  ·
   show 0 ≤ ((i + 1 : Int)) ∧ ((i + 1 : Int)) ≤ l.length ∧ (out.length : Int) ≤ 2 * ((i + 1 : Int)) ∧ (out, laid) = (l.take ((i + 1 : Int)).toNat).foldl (putS f) ([], false)
   have hps := putS_step (f := f) hI.1 h1 hI.2.2.2
   refine ⟨by omega, by omega, by (first | omega | (simp only [List.length_append, List.length_cons, List.length_nil]; omega)), ?_⟩
   rw [hps]
   unfold putS
   split <;> (try split) <;> first | rfl | (exfalso; simp_all; done)
  ·
   show l.length - ((i + 1 : Int)).toNat < l.length - i.toNat
   omega
 replace h1 : (l.length : Int) ≤ i := (Int.not_lt.1 (of_decide_eq_false h1))
 refine awp_exit ?_
 refine hK2 _ _ ?_; clear hK2
 refine awp_seq_k ?_; intro K6 hK6
 refine awp_reg2_seq [] [3, 5, 46] (by decide) ?_
 intro K1 hK1
 refine ⟨trivial, trivial, ?_⟩
 show K1 [(3, .ptr ⟨b1, 0, none⟩), (5, .slice true (out.map fileAV)), (46, .bool (!laid))] (AMem.wth m [(b1, .cells [.str f.1, .str f.2])])
 refine hK1 _ _ ?_; clear hK1 K1
 refine awp_cond rfl rfl (fun h6 => ?_) (fun h6 => ?_)
 ·
  replace h6 : laid = false := (bnT h6)
  refine awp_reg2 [47] [5] (by decide) ?_
  intro K1 hK1
  refine ⟨trivial, ?_⟩
  refine ar_loadp rfl (v := .agg [.str f.1, .str f.2]) rfl (wth_get 0 hNb1 rfl) rfl (apartOk_agg rfl rfl (Nat.le_of_ble_eq_true rfl)) rfl ?_
  refine ⟨⟨rfl, Nat.le_of_ble_eq_true rfl, rfl, Nat.le_of_ble_eq_true rfl, rfl, by simp only [List.forall_mem_cons]; exact ⟨⟨rfl, rfl⟩, fun _ h => by cases h⟩⟩, ?_⟩
  refine ar_append rfl fileAV out ([f] : List (Str × Str)) rfl rfl rfl rfl rfl rfl (Nat.le_of_ble_eq_true rfl) rfl (by (simp only [show Try.prog.bytesOf 118 = 32 from rfl, List.length_append, List.length_cons, List.length_nil]; omega)) (by (first | omega | (simp only [List.length_append, List.length_cons, List.length_nil]; omega))) (fun _ => ⟨rfl, rfl⟩) ?_
  refine ⟨trivial, ?_⟩
  show K1 [(5, .slice true ((out ++ ([f] : List (Str × Str))).map fileAV))] (AMem.wth m [(b1, .cells [.str f.1, .str f.2])])
  refine hK1 _ _ ?_; clear hK1 K1
  refine hK6 _ _ ?_; clear hK6
  refine awp_reg2_seq [51] [4] (by decide) ?_
  intro K1 hK1
  refine ⟨trivial, trivial, ?_⟩
  show K1 [(4, .slice true ((out ++ ([f] : List (Str × Str))).map fileAV))] (AMem.wth m [(b1, .cells [.str f.1, .str f.2])])
  refine hK1 _ _ ?_; clear hK1 K1
  refine awp_ret ?_
  refine ⟨trivial, m, (wth_sub2 (m := m) [(b1, .cells [.str f.1, .str f.2])] [] hNb1 (by simp only [List.map_cons, List.map_nil, List.forall_mem_cons]; exact ⟨hFb1, fun _ h => by cases h⟩)), ?_⟩
  show K (.slice true ((out ++ ([f] : List (Str × Str))).map fileAV)) m
 
  refine K_eq hK ?_
  have := hI.2.2.2; rw [take_full h1] at this; unfold putR; rw [← this, if_neg (by simp_all)]
 replace h6 : laid = true := (bnF h6)
 refine awp_skip ?_
 refine hK6 _ _ ?_; clear hK6
 refine awp_reg2_seq [51] [4] (by decide) ?_
 intro K1 hK1
 refine ⟨trivial, trivial, ?_⟩
 show K1 [(4, .slice true (out.map fileAV))] (AMem.wth m [(b1, .cells [.str f.1, .str f.2])])
 refine hK1 _ _ ?_; clear hK1 K1
 refine awp_ret ?_
 refine ⟨trivial, m, (wth_sub2 (m := m) [(b1, .cells [.str f.1, .str f.2])] [] hNb1 (by simp only [List.map_cons, List.map_nil, List.forall_mem_cons]; exact ⟨hFb1, fun _ h => by cases h⟩)), ?_⟩
 show K (.slice true (out.map fileAV)) m

 refine K_eq hK ?_
 have := hI.2.2.2; rw [take_full h1] at this; unfold putR; rw [← this, if_pos (by simp_all)]

theorem u_without (l : List (Str × Str)) (n : Str) (hl : l.length ≤ 1000000) (m : AMem)  (K : AV → AMem → Prop) (hK : K (.slice true ((woR l n).map fileAV)) m) : ACalls Try.prog 92 [.slice false (l.map fileAV), .str n] m K := by
 refine acalls_enter Try.func92 rfl (by decide) (Nat.le_of_ble_eq_true rfl) ?_
 refine awp_bd 0 (x := .slice false (l.map fileAV)) rfl (fun hbd0 => ?_)
 have hbd0_0 : l.length ≤ 140737488355328 := bd_map (o := false) hbd0
 show AWP _ _ _ _ [(0, .slice false (l.map fileAV)), (1, .str n)] m
 refine awp_reg2_seq [] [0, 1] (by decide) ?_
 intro K1 hK1
 refine ⟨trivial, ?_⟩
 show K1 [(0, .slice false (l.map fileAV)), (1, .str n)] m
 refine hK1 _ _ ?_; clear hK1 K1
 refine awp_reg2_seq [] [0, 1, 5] (by decide) ?_
 intro K1 hK1
 refine ⟨trivial, ?_⟩
 show K1 [(0, .slice false (l.map fileAV)), (1, .str n), (5, .slice true [])] m
 refine hK1 _ _ ?_; clear hK1 K1
 refine awp_seq_k ?_; intro K2 hK2
 refine awp_reg2_seq [] [0, 1, 5, 6] (by decide) ?_
 intro K1 hK1
 refine ⟨trivial, ?_⟩
 show K1 [(0, .slice false (l.map fileAV)), (1, .str n), (5, .slice true []), (6, .int .i64 0)] m
 refine hK1 _ _ ?_; clear hK1 K1
 refine awp_block ?_
 refine awp_keep [0, 1, 5, 6] (by decide) ?_
 refine awp_loop_st (σ := (List (Str × Str)) × Int) (fun ⟨out, i⟩ => [(0, .slice false (l.map fileAV)), (1, .str n), (5, .slice true (out.map fileAV)), (6, .int .i64 i)]) (fun _ => m) (fun ⟨out, i⟩ => 0 ≤ i ∧ i ≤ l.length ∧ out.length ≤ i ∧ out = woR (l.take i.toNat) n) (fun ⟨out, i⟩ => l.length - i.toNat) ([], 0) rfl rfl ?_ ?_
 ·
  show 0 ≤ ((0 : Int)) ∧ ((0 : Int)) ≤ l.length ∧ (([] : (List (Str × Str)))).length ≤ ((0 : Int)) ∧ (([] : (List (Str × Str)))) = woR (l.take ((0 : Int)).toNat) n
  exact ⟨by omega, by omega, by simp, by simp [woR]⟩
 rintro ⟨out, i⟩ hI
 replace hI : 0 ≤ i ∧ i ≤ l.length ∧ out.length ≤ i ∧ out = woR (l.take i.toNat) n := hI
 show AWP _ _ _ _ [(0, .slice false (l.map fileAV)), (1, .str n), (5, .slice true (out.map fileAV)), (6, .int .i64 i)] m
 refine awp_seq_k ?_; intro K3 hK3
 refine awp_reg2_seq [] [0, 1, 5, 6, 10] (by decide) ?_
 intro K1 hK1
 refine ⟨trivial, trivial, ?_⟩
 refine ar_len rfl fileAV l rfl rfl rfl ?_
 refine ⟨trivial, ?_⟩
 show K1 [(0, .slice false (l.map fileAV)), (1, .str n), (5, .slice true (out.map fileAV)), (6, .int .i64 i), (10, .bool (decide (i < (l.length : Int))))] m
 refine hK1 _ _ ?_; clear hK1 K1
 refine awp_cond rfl rfl (fun h1 => ?_) (fun h1 => ?_)
 ·
  replace h1 : i < (l.length : Int) := (of_decide_eq_true h1)
  refine awp_skip ?_
  refine hK3 _ _ ?_; clear hK3
  refine awp_seq_k ?_; intro K4 hK4
  refine awp_block ?_
  refine awp_reg2_seq [] [0, 1, 5, 6, 19] (by decide) ?_
  intro K1 hK1
  refine ⟨trivial, trivial, ?_⟩
  refine ar_index rfl fileAV l i rfl rfl rfl rfl rfl (by decide) (fun _ => rfl) (by omega) (by omega) ?_
  refine ⟨⟨rfl, by decide, (Nat.le_of_ble_eq_true rfl)⟩, (apartOk_one rfl rfl (Nat.le_of_ble_eq_true rfl)), trivial, trivial, ?_⟩
  show K1 [(0, .slice false (l.map fileAV)), (1, .str n), (5, .slice true (out.map fileAV)), (6, .int .i64 i), (19, .bool (!(((gI l i).1) == n)))] m
  refine hK1 _ _ ?_; clear hK1 K1
  refine awp_cond rfl rfl (fun h2 => ?_) (fun h2 => ?_)
  ·
   replace h2 : (gI l i).1 ≠ n := (ne_of_beq_false (bnT h2))
   refine awp_reg2 [20] [0, 1, 5, 6] (by decide) ?_
   intro K1 hK1
   refine ⟨trivial, trivial, trivial, ?_⟩
   refine ar_index rfl fileAV l i rfl rfl rfl rfl rfl (by decide) (fun _ => rfl) (by omega) (by omega) ?_
   refine ⟨(apartOk_agg rfl rfl (Nat.le_of_ble_eq_true rfl)), ⟨rfl, Nat.le_of_ble_eq_true rfl, rfl, Nat.le_of_ble_eq_true rfl, rfl, by simp only [List.forall_mem_cons]; exact ⟨⟨rfl, rfl⟩, fun _ h => by cases h⟩⟩, ?_⟩
   refine ar_append rfl fileAV out ([gI l i] : List (Str × Str)) rfl rfl rfl rfl rfl rfl (Nat.le_of_ble_eq_true rfl) rfl (by (simp only [show Try.prog.bytesOf 118 = 32 from rfl, List.length_append, List.length_cons, List.length_nil]; omega)) (by (first | omega | (simp only [List.length_append, List.length_cons, List.length_nil]; omega))) (fun _ => ⟨rfl, rfl⟩) ?_
   refine ⟨trivial, ?_⟩
   show K1 [(0, .slice false (l.map fileAV)), (1, .str n), (5, .slice true ((out ++ ([gI l i] : List (Str × Str))).map fileAV)), (6, .int .i64 i)] m
   refine hK1 _ _ ?_; clear hK1 K1
   refine hK4 _ _ ?_; clear hK4
   refine awp_reg2 [] [0, 1, 5, 6] (by decide) ?_
   intro K1 hK1
   refine ⟨trivial, ?_⟩
   refine ar_add rfl (a := i) (b := 1) rfl rfl (by omega) (by omega) ?_
   refine ⟨trivial, ?_⟩
   show K1 [(0, .slice false (l.map fileAV)), (1, .str n), (5, .slice true ((out ++ ([gI l i] : List (Str × Str))).map fileAV)), (6, .int .i64 (i + 1))] m
   refine hK1 _ _ ?_; clear hK1 K1
   refine ⟨(out ++ ([gI l i] : List (Str × Str)), i + 1), rfl, rfl, ?_, ?_⟩
   ·
    show 0 ≤ ((i + 1 : Int)) ∧ ((i + 1 : Int)) ≤ l.length ∧ ((out ++ ([gI l i] : List (Str × Str)) : (List (Str × Str)))).length ≤ ((i + 1 : Int)) ∧ ((out ++ ([gI l i] : List (Str × Str)) : (List (Str × Str)))) = woR (l.take ((i + 1 : Int)).toNat) n
    refine ⟨by omega, by omega, by (first | omega | (simp only [List.length_append, List.length_cons, List.length_nil]; omega)), ?_⟩
    unfold woR
    rw [take_succ_gI hI.1 h1, List.filter_append, hI.2.2.2]
    unfold woR
    simp_all
   ·
    show l.length - ((i + 1 : Int)).toNat < l.length - i.toNat
    omega
  replace h2 : (gI l i).1 = n := (eq_of_beq (bnF h2))
  refine awp_skip ?_
  refine hK4 _ _ ?_; clear hK4
  refine awp_reg2 [] [0, 1, 5, 6] (by decide) ?_
  intro K1 hK1
  refine ⟨trivial, ?_⟩
  refine ar_add rfl (a := i) (b := 1) rfl rfl (by omega) (by omega) ?_
  refine ⟨trivial, ?_⟩
  show K1 [(0, .slice false (l.map fileAV)), (1, .str n), (5, .slice true (out.map fileAV)), (6, .int .i64 (i + 1))] m
  refine hK1 _ _ ?_; clear hK1 K1
  refine ⟨(out, i + 1), rfl, rfl, ?_, ?_⟩
  ·
   show 0 ≤ ((i + 1 : Int)) ∧ ((i + 1 : Int)) ≤ l.length ∧ out.length ≤ ((i + 1 : Int)) ∧ out = woR (l.take ((i + 1 : Int)).toNat) n
   refine ⟨by omega, by omega, by (first | omega | (simp only [List.length_append, List.length_cons, List.length_nil]; omega)), ?_⟩
   unfold woR
   rw [take_succ_gI hI.1 h1, List.filter_append, hI.2.2.2]
   unfold woR
   simp_all
  ·
   show l.length - ((i + 1 : Int)).toNat < l.length - i.toNat
   omega
 replace h1 : (l.length : Int) ≤ i := (Int.not_lt.1 (of_decide_eq_false h1))
 refine awp_exit ?_
 refine hK2 _ _ ?_; clear hK2
 refine awp_reg2_seq [27] [4] (by decide) ?_
 intro K1 hK1
 refine ⟨trivial, trivial, ?_⟩
 show K1 [(4, .slice true (out.map fileAV))] m
 refine hK1 _ _ ?_; clear hK1 K1
 refine awp_ret ?_
 refine ⟨trivial, m, fun _ _ h => h, ?_⟩
 show K (.slice true (out.map fileAV)) m

 refine K_eq hK ?_
 have := hI.2.2.2; rw [take_full h1] at this; rw [this]


theorem woR_len (l : List (Str × Str)) (n : Str) : (woR l n).length ≤ l.length := List.length_filter_le _ _
theorem hasR_get {l : List (Str × Str)} {n : Str} (h : 0 ≤ hasR l n) : hasR l n < l.length ∧ (gI l (hasR l n)).2 = (mget l n).getD [] := by
  rcases hasR_spec l n with ⟨h1, _⟩ | ⟨_, h2, v, h3, h4⟩
  · omega
  · exact ⟨h2, by rw [h4, h3]; rfl⟩
theorem hasR_no {l : List (Str × Str)} {n : Str} (h : hasR l n < 0) : mget l n = none := by
  rcases hasR_spec l n with ⟨_, h1⟩ | ⟨h2, _⟩
  · exact h1
  · omega

set_option maxHeartbeats 4000000 in
theorem u_turned (l : List (Str × Str)) (t : Trn) (hl : l.length ≤ 1000000) (hb : ∀ p ∈ l, p.2.length ≤ 1000000) (ht : t.data.length ≤ 1000000) (m : AMem)  (K : AV → AMem → Prop) (hK : K (.slice true ((turnR l t).map fileAV)) m) : ACalls Try.prog 76 [.slice false (l.map fileAV), trnAV t] m K := by
 have hgl := mget_le (k := t.name) hb
 refine acalls_enter Try.func76 rfl (by decide) (Nat.le_of_ble_eq_true rfl) ?_
 show AWP _ _ _ _ [(0, .slice false (l.map fileAV)), (1, trnAV t)] m
 refine awp_reg2_seq [] [0, 3] (by decide) ?_
 intro K1 hK1
 refine ar_box rfl (m := m) (L := []) (v := trnAV t) (by rfl) rfl ?_
 intro b1 hb1
 have hFb1 : m b1 = none := wth_none (m := m) (L := []) hb1
 have hNb1 : ([b1] : List Nat).Nodup := wth_nodup (m := m) (L := []) hb1 List.nodup_nil
 refine ⟨trivial, ?_⟩
 show K1 [(0, .slice false (l.map fileAV)), (3, .ptr ⟨b1, 0, none⟩)] (AMem.wth m [(b1, trnObj t)])
 refine hK1 _ _ ?_; clear hK1 K1
 refine awp_reg2_seq [] [0, 3, 5] (by decide) ?_
 intro K1 hK1
 refine ⟨trivial, ⟨rfl, by decide⟩, ?_⟩
 refine ar_loadp rfl (v := .str t.name) rfl (wth_get 0 hNb1 rfl) rfl (apartOk_one rfl rfl (Nat.le_of_ble_eq_true rfl)) rfl ?_
 refine u_Has l t.name _ _ ?_
 refine ⟨trivial, ?_⟩
 show K1 [(0, .slice false (l.map fileAV)), (3, .ptr ⟨b1, 0, none⟩), (5, .int .i64 (hasR l t.name))] (AMem.wth m [(b1, trnObj t)])
 refine hK1 _ _ ?_; clear hK1 K1
 refine awp_seq_k ?_; intro K2 hK2
 refine awp_reg2_seq [] [0, 3, 5, 12] (by decide) ?_
 intro K1 hK1
 refine ⟨⟨rfl, by decide⟩, ?_⟩
 refine ar_loadp rfl (v := .int .i64 t.kind) rfl (wth_get 0 hNb1 rfl) rfl (apartOk_one rfl rfl (Nat.le_of_ble_eq_true rfl)) rfl ?_
 show K1 [(0, .slice false (l.map fileAV)), (3, .ptr ⟨b1, 0, none⟩), (5, .int .i64 (hasR l t.name)), (12, .int .i64 t.kind)] (AMem.wth m [(b1, trnObj t)])
 refine hK1 _ _ ?_; clear hK1 K1
 refine awp_block ?_
 refine awp_reg2_seq [] [0, 3, 5, 12, 13] (by decide) ?_
 intro K1 hK1
 refine ⟨trivial, trivial, ?_⟩
 show K1 [(0, .slice false (l.map fileAV)), (3, .ptr ⟨b1, 0, none⟩), (5, .int .i64 (hasR l t.name)), (12, .int .i64 t.kind), (13, .bool (t.kind == 1))] (AMem.wth m [(b1, trnObj t)])
 refine hK1 _ _ ?_; clear hK1 K1
 refine awp_cond rfl rfl (fun h1 => ?_) (fun h1 => ?_)
 ·
  replace h1 : t.kind = 1 := (eq_of_beq h1)
  refine awp_reg2_seq [] [4] (by decide) ?_
  intro K1 hK1
  refine ⟨trivial, ⟨rfl, by decide⟩, ?_⟩
  refine ar_loadp rfl (v := .str t.name) rfl (wth_get 0 hNb1 rfl) rfl (apartOk_one rfl rfl (Nat.le_of_ble_eq_true rfl)) rfl ?_
  refine ⟨⟨rfl, by decide⟩, ?_⟩
  refine ar_loadp rfl (v := .str t.data) rfl (wth_get 0 hNb1 rfl) rfl (apartOk_one rfl rfl (Nat.le_of_ble_eq_true rfl)) rfl ?_
  refine ⟨⟨rfl, by simp only [List.forall_mem_cons]; exact ⟨rfl, rfl, fun _ h => by cases h⟩, by simp only [List.forall_mem_cons]; exact ⟨rfl, rfl, fun _ h => by cases h⟩⟩, ?_⟩
  refine u_put l (⟨t.name, t.data⟩ : (Str × Str)) (by first | omega | (have := woR_len l t.name; omega)) _ _ ?_
  refine ⟨trivial, ?_⟩
  show K1 [(4, .slice true ((putR l (⟨t.name, t.data⟩ : (Str × Str))).map fileAV))] (AMem.wth m [(b1, trnObj t)])
  refine hK1 _ _ ?_; clear hK1 K1
  refine awp_ret ?_
  refine ⟨trivial, m, (wth_sub2 (m := m) [(b1, trnObj t)] [] hNb1 (by simp only [List.map_cons, List.map_nil, List.forall_mem_cons]; exact ⟨hFb1, fun _ h => by cases h⟩)), ?_⟩
  show K (.slice true ((putR l (⟨t.name, t.data⟩ : (Str × Str))).map fileAV)) m
 
  have e0 : turnR l t = (putR l (⟨t.name, t.data⟩ : (Str × Str)) : List (Str × Str)) := by
   first | (rw [turnR, if_pos (by assumption)]; done) | (rw [turnR, if_neg (by omega), if_pos (by assumption), ← (hasR_get (by assumption)).2]; done) | (rw [turnR, if_neg (by omega), if_pos (by assumption), hasR_no (by omega)]; rfl) | (rw [turnR, if_neg (by omega), if_neg (by omega), if_pos (by assumption), ← (hasR_get (by assumption)).2]; done) | (rw [turnR, if_neg (by omega), if_neg (by omega), if_pos (by assumption), hasR_no (by omega)]; rfl) | (rw [turnR, if_neg (by omega), if_neg (by omega), if_neg (by omega)]; done)
  rw [e0] at hK
  exact hK
 replace h1 : t.kind ≠ 1 := (ne_of_beq_false h1)
 refine awp_reg2_seq [] [0, 3, 5, 12, 22] (by decide) ?_
 intro K1 hK1
 refine ⟨trivial, trivial, ?_⟩
 show K1 [(0, .slice false (l.map fileAV)), (3, .ptr ⟨b1, 0, none⟩), (5, .int .i64 (hasR l t.name)), (12, .int .i64 t.kind), (22, .bool (t.kind == 2))] (AMem.wth m [(b1, trnObj t)])
 refine hK1 _ _ ?_; clear hK1 K1
 refine awp_cond rfl rfl (fun h2 => ?_) (fun h2 => ?_)
 ·
  replace h2 : t.kind = 2 := (eq_of_beq h2)
  refine awp_seq_k ?_; intro K3 hK3
  refine awp_reg2_seq [] [0, 3, 5, 25] (by decide) ?_
  intro K1 hK1
  refine ⟨trivial, trivial, ?_⟩
  show K1 [(0, .slice false (l.map fileAV)), (3, .ptr ⟨b1, 0, none⟩), (5, .int .i64 (hasR l t.name)), (25, .bool (decide (0 ≤ hasR l t.name)))] (AMem.wth m [(b1, trnObj t)])
  refine hK1 _ _ ?_; clear hK1 K1
  refine awp_cond rfl rfl (fun h3 => ?_) (fun h3 => ?_)
  ·
   replace h3 : 0 ≤ hasR l t.name := (of_decide_eq_true h3)
   refine awp_draw_tail2_seq Try.mixed 12 [] [] [] [4] (by decide) (by decide) ?_
   intro K1 hK1
   refine ⟨trivial, ⟨rfl, by decide⟩, ?_⟩
   refine pq_loadp rfl (v := .str t.name) rfl (wth_get 0 hNb1 rfl) (apartOk_one rfl rfl (Nat.le_of_ble_eq_true rfl)) rfl ?_
   refine ⟨trivial, trivial, ?_⟩
   refine pq_index rfl fileAV l (hasR l t.name) rfl rfl rfl rfl rfl (by decide) (fun _ => rfl) (by omega) (by exact (hasR_get (by omega)).1) ?_
   refine ⟨⟨rfl, by decide, (Nat.le_of_ble_eq_true rfl)⟩, (apartOk_one rfl rfl (Nat.le_of_ble_eq_true rfl)), ⟨rfl, by decide⟩, ?_⟩
   refine pq_loadp rfl (v := .str t.data) rfl (wth_get 0 hNb1 rfl) (apartOk_one rfl rfl (Nat.le_of_ble_eq_true rfl)) rfl ?_
   refine ⟨(by have := (hasR_get (by assumption)).2; rw [this]; omega), ⟨rfl, by simp only [List.forall_mem_cons]; exact ⟨rfl, rfl, fun _ h => by cases h⟩, by simp only [List.forall_mem_cons]; exact ⟨rfl, rfl, fun _ h => by cases h⟩⟩, ?_⟩
   show aopsR _ _ _ _ _ [(37, .agg [.str t.name, .str (((gI l (hasR l t.name)).2) ++ t.data)]), (36, .str (((gI l (hasR l t.name)).2) ++ t.data)), (35, .str t.data), (34, .ptr ⟨b1, 2, none⟩), (33, .str ((gI l (hasR l t.name)).2)), (32, .ref [.str ((gI l (hasR l t.name)).2)]), (31, .ref (AV.cells (fileAV (gI l (hasR l t.name))))), (30, .int .i64 (hasR l t.name)), (29, .slice false (l.map fileAV)), (28, .str t.name), (27, .ptr ⟨b1, 1, none⟩), (26, .slice false (l.map fileAV)), (0, .slice false (l.map fileAV)), (3, .ptr ⟨b1, 0, none⟩), (5, .int .i64 (hasR l t.name)), (25, .bool (decide (0 ≤ hasR l t.name)))] _
   refine u_put l (⟨t.name, ((gI l (hasR l t.name)).2) ++ t.data⟩ : (Str × Str)) (by first | omega | (have := woR_len l t.name; omega)) _ _ ?_
   refine ⟨trivial, ?_⟩
   show K1 [(4, .slice true ((putR l (⟨t.name, ((gI l (hasR l t.name)).2) ++ t.data⟩ : (Str × Str))).map fileAV))] (AMem.wth m [(b1, trnObj t)])
   refine hK1 _ _ ?_; clear hK1 K1
   refine awp_ret ?_
   refine ⟨trivial, m, (wth_sub2 (m := m) [(b1, trnObj t)] [] hNb1 (by simp only [List.map_cons, List.map_nil, List.forall_mem_cons]; exact ⟨hFb1, fun _ h => by cases h⟩)), ?_⟩
   show K (.slice true ((putR l (⟨t.name, ((gI l (hasR l t.name)).2) ++ t.data⟩ : (Str × Str))).map fileAV)) m
  
   have e0 : turnR l t = (putR l (⟨t.name, ((gI l (hasR l t.name)).2) ++ t.data⟩ : (Str × Str)) : List (Str × Str)) := by
    first | (rw [turnR, if_pos (by assumption)]; done) | (rw [turnR, if_neg (by omega), if_pos (by assumption), ← (hasR_get (by assumption)).2]; done) | (rw [turnR, if_neg (by omega), if_pos (by assumption), hasR_no (by omega)]; rfl) | (rw [turnR, if_neg (by omega), if_neg (by omega), if_pos (by assumption), ← (hasR_get (by assumption)).2]; done) | (rw [turnR, if_neg (by omega), if_neg (by omega), if_pos (by assumption), hasR_no (by omega)]; rfl) | (rw [turnR, if_neg (by omega), if_neg (by omega), if_neg (by omega)]; done)
   rw [e0] at hK
   exact hK
  replace h3 : hasR l t.name < 0 := (Int.not_le.1 (of_decide_eq_false h3))
  refine awp_skip ?_
  refine hK3 _ _ ?_; clear hK3
  refine awp_reg2_seq [] [4] (by decide) ?_
  intro K1 hK1
  refine ⟨trivial, ⟨rfl, by decide⟩, ?_⟩
  refine ar_loadp rfl (v := .str t.name) rfl (wth_get 0 hNb1 rfl) rfl (apartOk_one rfl rfl (Nat.le_of_ble_eq_true rfl)) rfl ?_
  refine ⟨⟨rfl, by decide⟩, ?_⟩
  refine ar_loadp rfl (v := .str t.data) rfl (wth_get 0 hNb1 rfl) rfl (apartOk_one rfl rfl (Nat.le_of_ble_eq_true rfl)) rfl ?_
  refine ⟨⟨rfl, by simp only [List.forall_mem_cons]; exact ⟨rfl, rfl, fun _ h => by cases h⟩, by simp only [List.forall_mem_cons]; exact ⟨rfl, rfl, fun _ h => by cases h⟩⟩, ?_⟩
  refine u_put l (⟨t.name, t.data⟩ : (Str × Str)) (by first | omega | (have := woR_len l t.name; omega)) _ _ ?_
  refine ⟨trivial, ?_⟩
  show K1 [(4, .slice true ((putR l (⟨t.name, t.data⟩ : (Str × Str))).map fileAV))] (AMem.wth m [(b1, trnObj t)])
  refine hK1 _ _ ?_; clear hK1 K1
  refine awp_ret ?_
  refine ⟨trivial, m, (wth_sub2 (m := m) [(b1, trnObj t)] [] hNb1 (by simp only [List.map_cons, List.map_nil, List.forall_mem_cons]; exact ⟨hFb1, fun _ h => by cases h⟩)), ?_⟩
  show K (.slice true ((putR l (⟨t.name, t.data⟩ : (Str × Str))).map fileAV)) m
 
  have e0 : turnR l t = (putR l (⟨t.name, t.data⟩ : (Str × Str)) : List (Str × Str)) := by
   first | (rw [turnR, if_pos (by assumption)]; done) | (rw [turnR, if_neg (by omega), if_pos (by assumption), ← (hasR_get (by assumption)).2]; done) | (rw [turnR, if_neg (by omega), if_pos (by assumption), hasR_no (by omega)]; rfl) | (rw [turnR, if_neg (by omega), if_neg (by omega), if_pos (by assumption), ← (hasR_get (by assumption)).2]; done) | (rw [turnR, if_neg (by omega), if_neg (by omega), if_pos (by assumption), hasR_no (by omega)]; rfl) | (rw [turnR, if_neg (by omega), if_neg (by omega), if_neg (by omega)]; done)
  rw [e0] at hK
  exact hK
 replace h2 : t.kind ≠ 2 := (ne_of_beq_false h2)
 refine awp_reg2_seq [] [0, 3, 5, 46] (by decide) ?_
 intro K1 hK1
 refine ⟨trivial, trivial, ?_⟩
 show K1 [(0, .slice false (l.map fileAV)), (3, .ptr ⟨b1, 0, none⟩), (5, .int .i64 (hasR l t.name)), (46, .bool (t.kind == 4))] (AMem.wth m [(b1, trnObj t)])
 refine hK1 _ _ ?_; clear hK1 K1
 refine awp_cond rfl rfl (fun h4 => ?_) (fun h4 => ?_)
 ·
  replace h4 : t.kind = 4 := (eq_of_beq h4)
  refine awp_reg2_seq [] [0, 3, 5, 6] (by decide) ?_
  intro K1 hK1
  refine ⟨trivial, ?_⟩
  show K1 [(0, .slice false (l.map fileAV)), (3, .ptr ⟨b1, 0, none⟩), (5, .int .i64 (hasR l t.name)), (6, .str ([]))] (AMem.wth m [(b1, trnObj t)])
  refine hK1 _ _ ?_; clear hK1 K1
  refine awp_seq_k ?_; intro K4 hK4
  refine awp_reg2_seq [] [0, 3, 5, 6, 49] (by decide) ?_
  intro K1 hK1
  refine ⟨trivial, trivial, ?_⟩
  show K1 [(0, .slice false (l.map fileAV)), (3, .ptr ⟨b1, 0, none⟩), (5, .int .i64 (hasR l t.name)), (6, .str ([])), (49, .bool (decide (0 ≤ hasR l t.name)))] (AMem.wth m [(b1, trnObj t)])
  refine hK1 _ _ ?_; clear hK1 K1
  refine awp_cond rfl rfl (fun h5 => ?_) (fun h5 => ?_)
  ·
   replace h5 : 0 ≤ hasR l t.name := (of_decide_eq_true h5)
   refine awp_reg2 [] [0, 3, 6] (by decide) ?_
   intro K1 hK1
   refine ⟨trivial, trivial, ?_⟩
   refine ar_index rfl fileAV l (hasR l t.name) rfl rfl rfl rfl rfl (by decide) (fun _ => rfl) (by omega) (by exact (hasR_get (by omega)).1) ?_
   refine ⟨⟨rfl, by decide, (Nat.le_of_ble_eq_true rfl)⟩, (apartOk_one rfl rfl (Nat.le_of_ble_eq_true rfl)), trivial, ?_⟩
   show K1 [(0, .slice false (l.map fileAV)), (3, .ptr ⟨b1, 0, none⟩), (6, .str ((gI l (hasR l t.name)).2))] (AMem.wth m [(b1, trnObj t)])
   refine hK1 _ _ ?_; clear hK1 K1
   refine hK4 _ _ ?_; clear hK4
   refine awp_draw_tail2_seq Try.mixed 8 [] [(.slice true ((woR l t.name).map fileAV))] [] [4] (by decide) (by decide) ?_
   intro K1 hK1
   refine ⟨trivial, ⟨rfl, by decide⟩, ?_⟩
   refine pq_loadp rfl (v := .str t.name) rfl (wth_get 0 hNb1 rfl) (apartOk_one rfl rfl (Nat.le_of_ble_eq_true rfl)) rfl ?_
   refine ⟨(fun Kc hKc => u_without l t.name (by omega) _ Kc hKc), ⟨rfl, by decide⟩, ?_⟩
   refine pq_loadp rfl (v := .str t.to) rfl (wth_get 0 hNb1 rfl) (apartOk_one rfl rfl (Nat.le_of_ble_eq_true rfl)) rfl ?_
   refine ⟨trivial, ⟨rfl, by simp only [List.forall_mem_cons]; exact ⟨rfl, rfl, fun _ h => by cases h⟩, by simp only [List.forall_mem_cons]; exact ⟨rfl, rfl, fun _ h => by cases h⟩⟩, ?_⟩
   show aopsR _ _ _ _ _ [(62, .agg [.str t.to, .str ((gI l (hasR l t.name)).2)]), (61, .str ((gI l (hasR l t.name)).2)), (60, .str t.to), (59, .ptr ⟨b1, 3, none⟩), (58, .slice false ((woR l t.name).map fileAV)), (57, .str t.name), (56, .ptr ⟨b1, 1, none⟩), (55, .slice false (l.map fileAV)), (0, .slice false (l.map fileAV)), (3, .ptr ⟨b1, 0, none⟩), (6, .str ((gI l (hasR l t.name)).2))] _
   refine u_put (woR l t.name) (⟨t.to, (gI l (hasR l t.name)).2⟩ : (Str × Str)) (by first | omega | (have := woR_len l t.name; omega)) _ _ ?_
   refine ⟨trivial, ?_⟩
   show K1 [(4, .slice true ((putR (woR l t.name) (⟨t.to, (gI l (hasR l t.name)).2⟩ : (Str × Str))).map fileAV))] (AMem.wth m [(b1, trnObj t)])
   refine hK1 _ _ ?_; clear hK1 K1
   refine awp_ret ?_
   refine ⟨trivial, m, (wth_sub2 (m := m) [(b1, trnObj t)] [] hNb1 (by simp only [List.map_cons, List.map_nil, List.forall_mem_cons]; exact ⟨hFb1, fun _ h => by cases h⟩)), ?_⟩
   show K (.slice true ((putR (woR l t.name) (⟨t.to, (gI l (hasR l t.name)).2⟩ : (Str × Str))).map fileAV)) m
  
   have e0 : turnR l t = (putR (woR l t.name) (⟨t.to, (gI l (hasR l t.name)).2⟩ : (Str × Str)) : List (Str × Str)) := by
    first | (rw [turnR, if_pos (by assumption)]; done) | (rw [turnR, if_neg (by omega), if_pos (by assumption), ← (hasR_get (by assumption)).2]; done) | (rw [turnR, if_neg (by omega), if_pos (by assumption), hasR_no (by omega)]; rfl) | (rw [turnR, if_neg (by omega), if_neg (by omega), if_pos (by assumption), ← (hasR_get (by assumption)).2]; done) | (rw [turnR, if_neg (by omega), if_neg (by omega), if_pos (by assumption), hasR_no (by omega)]; rfl) | (rw [turnR, if_neg (by omega), if_neg (by omega), if_neg (by omega)]; done)
   rw [e0] at hK
   exact hK
  replace h5 : hasR l t.name < 0 := (Int.not_le.1 (of_decide_eq_false h5))
  refine awp_skip ?_
  refine hK4 _ _ ?_; clear hK4
  refine awp_draw_tail2_seq Try.mixed 8 [] [(.slice true ((woR l t.name).map fileAV))] [] [4] (by decide) (by decide) ?_
  intro K1 hK1
  refine ⟨trivial, ⟨rfl, by decide⟩, ?_⟩
  refine pq_loadp rfl (v := .str t.name) rfl (wth_get 0 hNb1 rfl) (apartOk_one rfl rfl (Nat.le_of_ble_eq_true rfl)) rfl ?_
  refine ⟨(fun Kc hKc => u_without l t.name (by omega) _ Kc hKc), ⟨rfl, by decide⟩, ?_⟩
  refine pq_loadp rfl (v := .str t.to) rfl (wth_get 0 hNb1 rfl) (apartOk_one rfl rfl (Nat.le_of_ble_eq_true rfl)) rfl ?_
  refine ⟨trivial, ⟨rfl, by simp only [List.forall_mem_cons]; exact ⟨rfl, rfl, fun _ h => by cases h⟩, by simp only [List.forall_mem_cons]; exact ⟨rfl, rfl, fun _ h => by cases h⟩⟩, ?_⟩
  show aopsR _ _ _ _ _ [(62, .agg [.str t.to, .str ([])]), (61, .str ([])), (60, .str t.to), (59, .ptr ⟨b1, 3, none⟩), (58, .slice false ((woR l t.name).map fileAV)), (57, .str t.name), (56, .ptr ⟨b1, 1, none⟩), (55, .slice false (l.map fileAV)), (0, .slice false (l.map fileAV)), (3, .ptr ⟨b1, 0, none⟩), (5, .int .i64 (hasR l t.name)), (6, .str ([])), (49, .bool (decide (0 ≤ hasR l t.name)))] _
  refine u_put (woR l t.name) (⟨t.to, []⟩ : (Str × Str)) (by first | omega | (have := woR_len l t.name; omega)) _ _ ?_
  refine ⟨trivial, ?_⟩
  show K1 [(4, .slice true ((putR (woR l t.name) (⟨t.to, []⟩ : (Str × Str))).map fileAV))] (AMem.wth m [(b1, trnObj t)])
  refine hK1 _ _ ?_; clear hK1 K1
  refine awp_ret ?_
  refine ⟨trivial, m, (wth_sub2 (m := m) [(b1, trnObj t)] [] hNb1 (by simp only [List.map_cons, List.map_nil, List.forall_mem_cons]; exact ⟨hFb1, fun _ h => by cases h⟩)), ?_⟩
  show K (.slice true ((putR (woR l t.name) (⟨t.to, []⟩ : (Str × Str))).map fileAV)) m
 
  have e0 : turnR l t = (putR (woR l t.name) (⟨t.to, []⟩ : (Str × Str)) : List (Str × Str)) := by
   first | (rw [turnR, if_pos (by assumption)]; done) | (rw [turnR, if_neg (by omega), if_pos (by assumption), ← (hasR_get (by assumption)).2]; done) | (rw [turnR, if_neg (by omega), if_pos (by assumption), hasR_no (by omega)]; rfl) | (rw [turnR, if_neg (by omega), if_neg (by omega), if_pos (by assumption), ← (hasR_get (by assumption)).2]; done) | (rw [turnR, if_neg (by omega), if_neg (by omega), if_pos (by assumption), hasR_no (by omega)]; rfl) | (rw [turnR, if_neg (by omega), if_neg (by omega), if_neg (by omega)]; done)
  rw [e0] at hK
  exact hK
 replace h4 : t.kind ≠ 4 := (ne_of_beq_false h4)
 refine awp_skip ?_
 refine hK2 _ _ ?_; clear hK2
 refine awp_reg2_seq [] [4] (by decide) ?_
 intro K1 hK1
 refine ⟨trivial, ⟨rfl, by decide⟩, ?_⟩
 refine ar_loadp rfl (v := .str t.name) rfl (wth_get 0 hNb1 rfl) rfl (apartOk_one rfl rfl (Nat.le_of_ble_eq_true rfl)) rfl ?_
 refine u_without l t.name (by omega) _ _ ?_
 refine ⟨trivial, ?_⟩
 show K1 [(4, .slice true ((woR l t.name).map fileAV))] (AMem.wth m [(b1, trnObj t)])
 refine hK1 _ _ ?_; clear hK1 K1
 refine awp_ret ?_
 refine ⟨trivial, m, (wth_sub2 (m := m) [(b1, trnObj t)] [] hNb1 (by simp only [List.map_cons, List.map_nil, List.forall_mem_cons]; exact ⟨hFb1, fun _ h => by cases h⟩)), ?_⟩
 show K (.slice true ((woR l t.name).map fileAV)) m

 have e0 : turnR l t = (woR l t.name : List (Str × Str)) := by
  first | (rw [turnR, if_pos (by assumption)]; done) | (rw [turnR, if_neg (by omega), if_pos (by assumption), ← (hasR_get (by assumption)).2]; done) | (rw [turnR, if_neg (by omega), if_pos (by assumption), hasR_no (by omega)]; rfl) | (rw [turnR, if_neg (by omega), if_neg (by omega), if_pos (by assumption), ← (hasR_get (by assumption)).2]; done) | (rw [turnR, if_neg (by omega), if_neg (by omega), if_pos (by assumption), hasR_no (by omega)]; rfl) | (rw [turnR, if_neg (by omega), if_neg (by omega), if_neg (by omega)]; done)
 rw [e0] at hK
 exact hK

end Go.Proofs
end
section
namespace Go.Proofs
open Go Go.Aw
set_option maxRecDepth 100000


structure RSt where
  kept : List (Str × Str)
  now : List (Str × Str)
  wait : List Trn
  fuse : Int
  down : Bool
  steps : Int
def rObj (s : RSt) : AObj := .cells [.slice true (s.kept.map fileAV), .slice true (s.now.map fileAV), .slice true (s.wait.map trnAV), .int .i64 s.fuse, .bool s.down, .int .i64 s.steps]
def stepQ (s : RSt) : RSt × Int :=
  if s.down = true then (s, 10)
  else if s.fuse = 0 then ({ s with down := true, fuse := -1 }, 10)
  else ({ s with fuse := if 0 < s.fuse then s.fuse - 1 else s.fuse, steps := s.steps + 1 }, 0)
def doQ (s : RSt) (t : Trn) : RSt × Int :=
  if (stepQ s).2 = 0 then ({ (stepQ s).1 with now := turnR s.now t, wait := s.wait ++ [t] }, (stepQ s).2) else stepQ s
/-- What the walks ask of the model of the disk. -/
structure RInv (N : Nat) (s : RSt) : Prop where
  st0 : 0 ≤ s.steps
  st1 : s.steps ≤ 1000000
  fu0 : -1 ≤ s.fuse
  fu1 : s.fuse ≤ 9223372036854775807
  kl : s.kept.length ≤ 1000
  nl : s.now.length ≤ 1000
  wl : s.wait.length ≤ 1000
  kb : ∀ p ∈ s.kept, p.2.length ≤ 1000000
  nb : ∀ p ∈ s.now, p.2.length ≤ 1000000
  wb : ∀ t ∈ s.wait, t.data.length ≤ 4000
def putQ (s : RSt) (how : Int) (n x : Str) : RSt × Int :=
  if how = 2 ∧ 4000 < (x.length : Int) then (s, 2)
  else if nameF n = false then (s, 3)
  else if 4000 < (if how = 2 ∧ 0 ≤ hasR s.now n then (x.length : Int) + ((mget s.now n).getD []).length else x.length) ∨ (hasR s.now n < 0 ∧ 40 ≤ (s.now.length : Int)) then (s, 2)
  else if how = 3 ∧ 0 ≤ hasR s.now n then (s, 6)
  else doQ s ⟨if how = 3 then 1 else how, n, x, []⟩
def moveQ (s : RSt) (n t : Str) : RSt × Int :=
  if nameF n = false ∨ nameF t = false then (s, 3) else if hasR s.now n < 0 then (s, 7) else if n = t then stepQ s else doQ s ⟨4, n, [], t⟩
def remQ (s : RSt) (n : Str) : RSt × Int := if hasR s.now n < 0 then (s, 7) else doQ s ⟨5, n, [], []⟩
def syncQ (s : RSt) : RSt × Int := if (stepQ s).2 = 0 then ({ (stepQ s).1 with kept := s.now, wait := [] }, (stepQ s).2) else stepQ s
def readQ (s : RSt) (n : Str) : Str × Int := if s.down = true then ([], 10) else if hasR s.now n < 0 then ([], 7) else ((mget s.now n).getD [], 0)
def listQ (s : RSt) : List Str × Int := if s.down = true then ([], 10) else (s.now.map Prod.fst, 0)
def turnL (l : List (Str × Str)) (ts : List Trn) : List (Str × Str) := ts.foldl turnR l
def maxI (a : Int) : Int := if 0 > a then 0 else a
def keptQ (s : RSt) (keep torn : Int) : List (Str × Str) :=
  if maxI keep < (s.wait.length : Int) ∧ (gI s.wait (maxI keep)).kind < 4 ∧ 0 < clampI torn (gI s.wait (maxI keep)).data.length then turnR (turnL s.kept (s.wait.take (maxI keep).toNat)) { gI s.wait (maxI keep) with data := sub (gI s.wait (maxI keep)).data 0 (clampI torn (gI s.wait (maxI keep)).data.length) }
  else turnL s.kept (s.wait.take (maxI keep).toNat)
def restQ (s : RSt) (keep torn : Int) : RSt := ⟨keptQ s keep torn, keptQ s keep torn, [], -1, false, s.steps⟩

set_option maxHeartbeats 2000000 in
theorem u_QStep (r : Nat) (s : RSt) (hR : RInv 0 s) (m : AMem)  (K : AV → AMem → Prop) (hK : K (.int .i64 (stepQ s).2) (AMem.wth m [(r, rObj (stepQ s).1)])) : ACalls Try.prog 36 [.ptr ⟨r, 0, none⟩] (AMem.wth m [(r, rObj s)]) K := by
 have h1q := hR.st0
 have h2q := hR.st1
 have h3q := hR.fu0
 have h4q := hR.fu1
 refine acalls_enter Try.func36 rfl (by decide) (Nat.le_of_ble_eq_true rfl) ?_
 show AWP _ _ _ _ [(0, .ptr ⟨r, 0, none⟩)] (AMem.wth m [(r, rObj s)])
 refine awp_reg2_seq [] [0] (by decide) ?_
 intro K1 hK1
 refine ⟨trivial, ?_⟩
 show K1 [(0, .ptr ⟨r, 0, none⟩)] (AMem.wth m [(r, rObj s)])
 refine hK1 _ _ ?_; clear hK1 K1
 refine awp_seq_k ?_; intro K2 hK2
 refine awp_reg2_seq [] [0, 6] (by decide) ?_
 intro K1 hK1
 refine ⟨trivial, trivial, ⟨rfl, by decide⟩, ?_⟩
 refine ar_loadp rfl (v := .bool s.down) rfl (wth_get 0 (nodup_1 r) rfl) rfl (apartOk_one rfl rfl (Nat.le_of_ble_eq_true rfl)) rfl ?_
 show K1 [(0, .ptr ⟨r, 0, none⟩), (6, .bool s.down)] (AMem.wth m [(r, rObj s)])
 refine hK1 _ _ ?_; clear hK1 K1
 refine awp_cond rfl rfl (fun h1 => ?_) (fun h1 => ?_)
 ·
  replace h1 : s.down = true := h1
  refine awp_reg2_seq [] [2] (by decide) ?_
  intro K1 hK1
  refine ⟨trivial, ?_⟩
  show K1 [(2, .int .i64 10)] (AMem.wth m [(r, rObj s)])
  refine hK1 _ _ ?_; clear hK1 K1
  refine awp_ret ?_
  refine ⟨trivial, (AMem.wth m [(r, rObj s)]), fun _ _ h => h, ?_⟩
  show K (.int .i64 10) (AMem.wth m [(r, rObj s)])
 
  have e0 : stepQ s = ((s, 10) : RSt × Int) := by
   have := hR.fu0
   obtain ⟨kept, now, wait, fuse, down, steps⟩ := s
   simp_all [stepQ] <;> omega
  rw [e0] at hK
  exact hK
 replace h1 : s.down = false := h1
 refine awp_skip ?_
 refine hK2 _ _ ?_; clear hK2
 refine awp_seq_k ?_; intro K3 hK3
 refine awp_reg2_seq [] [0, 11] (by decide) ?_
 intro K1 hK1
 refine ⟨trivial, trivial, ⟨rfl, by decide⟩, ?_⟩
 refine ar_loadp rfl (v := .int .i64 s.fuse) rfl (wth_get 0 (nodup_1 r) rfl) rfl (apartOk_one rfl rfl (Nat.le_of_ble_eq_true rfl)) rfl ?_
 refine ⟨trivial, ?_⟩
 show K1 [(0, .ptr ⟨r, 0, none⟩), (11, .bool (s.fuse == 0))] (AMem.wth m [(r, rObj s)])
 refine hK1 _ _ ?_; clear hK1 K1
 refine awp_cond rfl rfl (fun h2 => ?_) (fun h2 => ?_)
 ·
  replace h2 : s.fuse = 0 := (eq_of_beq h2)
  refine awp_reg2_seq [] [0] (by decide) ?_
  intro K1 hK1
  refine ⟨trivial, trivial, ⟨rfl, by decide⟩, ?_⟩
  refine ar_storep rfl 0 (v := .bool true) (l' := [.slice true (s.kept.map fileAV), .slice true (s.now.map fileAV), .slice true (s.wait.map trnAV), .int .i64 s.fuse, .bool true, .int .i64 s.steps]) rfl rfl (nodup_1 r) rfl rfl rfl rfl rfl (Nat.le_of_ble_eq_true rfl) rfl ?_
  show K1 [(0, .ptr ⟨r, 0, none⟩)] (AMem.wth m [(r, .cells [.slice true (s.kept.map fileAV), .slice true (s.now.map fileAV), .slice true (s.wait.map trnAV), .int .i64 s.fuse, .bool true, .int .i64 s.steps])])
  refine hK1 _ _ ?_; clear hK1 K1
  refine awp_reg2_seq [] [] (by decide) ?_
  intro K1 hK1
  refine ⟨trivial, trivial, ⟨rfl, by decide⟩, ?_⟩
  refine ar_storep rfl 0 (v := .int .i64 (-1)) (l' := [.slice true (s.kept.map fileAV), .slice true (s.now.map fileAV), .slice true (s.wait.map trnAV), .int .i64 (-1), .bool true, .int .i64 s.steps]) rfl rfl (nodup_1 r) rfl rfl rfl rfl rfl (Nat.le_of_ble_eq_true rfl) rfl ?_
  show K1 [] (AMem.wth m [(r, .cells [.slice true (s.kept.map fileAV), .slice true (s.now.map fileAV), .slice true (s.wait.map trnAV), .int .i64 (-1), .bool true, .int .i64 s.steps])])
  refine hK1 _ _ ?_; clear hK1 K1
  refine awp_reg2_seq [] [2] (by decide) ?_
  intro K1 hK1
  refine ⟨trivial, ?_⟩
  show K1 [(2, .int .i64 10)] (AMem.wth m [(r, .cells [.slice true (s.kept.map fileAV), .slice true (s.now.map fileAV), .slice true (s.wait.map trnAV), .int .i64 (-1), .bool true, .int .i64 s.steps])])
  refine hK1 _ _ ?_; clear hK1 K1
  refine awp_ret ?_
  refine ⟨trivial, (AMem.wth m [(r, .cells [.slice true (s.kept.map fileAV), .slice true (s.now.map fileAV), .slice true (s.wait.map trnAV), .int .i64 (-1), .bool true, .int .i64 s.steps])]), fun _ _ h => h, ?_⟩
  show K (.int .i64 10) (AMem.wth m [(r, .cells [.slice true (s.kept.map fileAV), .slice true (s.now.map fileAV), .slice true (s.wait.map trnAV), .int .i64 (-1), .bool true, .int .i64 s.steps])])
 
  have e0 : stepQ s = (((⟨s.kept, s.now, s.wait, -1, true, s.steps⟩ : RSt), 10) : RSt × Int) := by
   have := hR.fu0
   obtain ⟨kept, now, wait, fuse, down, steps⟩ := s
   simp_all [stepQ] <;> omega
  rw [e0] at hK
  exact hK
 replace h2 : s.fuse ≠ 0 := (ne_of_beq_false h2)
 refine awp_skip ?_
 refine hK3 _ _ ?_; clear hK3
 refine awp_seq_k ?_; intro K4 hK4
 refine awp_reg2_seq [] [0, 22] (by decide) ?_
 intro K1 hK1
 refine ⟨trivial, trivial, ⟨rfl, by decide⟩, ?_⟩
 refine ar_loadp rfl (v := .int .i64 s.fuse) rfl (wth_get 0 (nodup_1 r) rfl) rfl (apartOk_one rfl rfl (Nat.le_of_ble_eq_true rfl)) rfl ?_
 refine ⟨trivial, ?_⟩
 show K1 [(0, .ptr ⟨r, 0, none⟩), (22, .bool (decide (0 < s.fuse)))] (AMem.wth m [(r, rObj s)])
 refine hK1 _ _ ?_; clear hK1 K1
 refine awp_cond rfl rfl (fun h3 => ?_) (fun h3 => ?_)
 ·
  replace h3 : 0 < s.fuse := (of_decide_eq_true h3)
  refine awp_reg2 [] [0] (by decide) ?_
  intro K1 hK1
  refine ⟨trivial, trivial, ⟨rfl, by decide⟩, ?_⟩
  refine ar_loadp rfl (v := .int .i64 s.fuse) rfl (wth_get 0 (nodup_1 r) rfl) rfl (apartOk_one rfl rfl (Nat.le_of_ble_eq_true rfl)) rfl ?_
  refine ar_sub rfl (a := s.fuse) (b := 1) rfl rfl (by omega) (by omega) ?_
  refine ⟨trivial, ⟨rfl, by decide⟩, ?_⟩
  refine ar_storep rfl 0 (v := .int .i64 (s.fuse - 1)) (l' := [.slice true (s.kept.map fileAV), .slice true (s.now.map fileAV), .slice true (s.wait.map trnAV), .int .i64 (s.fuse - 1), .bool s.down, .int .i64 s.steps]) rfl rfl (nodup_1 r) rfl rfl rfl rfl rfl (Nat.le_of_ble_eq_true rfl) rfl ?_
  show K1 [(0, .ptr ⟨r, 0, none⟩)] (AMem.wth m [(r, .cells [.slice true (s.kept.map fileAV), .slice true (s.now.map fileAV), .slice true (s.wait.map trnAV), .int .i64 (s.fuse - 1), .bool s.down, .int .i64 s.steps])])
  refine hK1 _ _ ?_; clear hK1 K1
  refine hK4 _ _ ?_; clear hK4
  refine awp_reg2_seq [] [] (by decide) ?_
  intro K1 hK1
  refine ⟨trivial, trivial, ⟨rfl, by decide⟩, ?_⟩
  refine ar_loadp rfl (v := .int .i64 s.steps) rfl (wth_get 0 (nodup_1 r) rfl) rfl (apartOk_one rfl rfl (Nat.le_of_ble_eq_true rfl)) rfl ?_
  refine ar_add rfl (a := s.steps) (b := 1) rfl rfl (by omega) (by omega) ?_
  refine ⟨trivial, ⟨rfl, by decide⟩, ?_⟩
  refine ar_storep rfl 0 (v := .int .i64 (s.steps + 1)) (l' := [.slice true (s.kept.map fileAV), .slice true (s.now.map fileAV), .slice true (s.wait.map trnAV), .int .i64 (s.fuse - 1), .bool s.down, .int .i64 (s.steps + 1)]) rfl rfl (nodup_1 r) rfl rfl rfl rfl rfl (Nat.le_of_ble_eq_true rfl) rfl ?_
  show K1 [] (AMem.wth m [(r, .cells [.slice true (s.kept.map fileAV), .slice true (s.now.map fileAV), .slice true (s.wait.map trnAV), .int .i64 (s.fuse - 1), .bool s.down, .int .i64 (s.steps + 1)])])
  refine hK1 _ _ ?_; clear hK1 K1
  refine awp_reg2_seq [] [2] (by decide) ?_
  intro K1 hK1
  refine ⟨trivial, ?_⟩
  show K1 [(2, .int .i64 0)] (AMem.wth m [(r, .cells [.slice true (s.kept.map fileAV), .slice true (s.now.map fileAV), .slice true (s.wait.map trnAV), .int .i64 (s.fuse - 1), .bool s.down, .int .i64 (s.steps + 1)])])
  refine hK1 _ _ ?_; clear hK1 K1
  refine awp_ret ?_
  refine ⟨trivial, (AMem.wth m [(r, .cells [.slice true (s.kept.map fileAV), .slice true (s.now.map fileAV), .slice true (s.wait.map trnAV), .int .i64 (s.fuse - 1), .bool s.down, .int .i64 (s.steps + 1)])]), fun _ _ h => h, ?_⟩
  show K (.int .i64 0) (AMem.wth m [(r, .cells [.slice true (s.kept.map fileAV), .slice true (s.now.map fileAV), .slice true (s.wait.map trnAV), .int .i64 (s.fuse - 1), .bool s.down, .int .i64 (s.steps + 1)])])
 
  have e0 : stepQ s = (((⟨s.kept, s.now, s.wait, s.fuse - 1, s.down, s.steps + 1⟩ : RSt), 0) : RSt × Int) := by
   have := hR.fu0
   obtain ⟨kept, now, wait, fuse, down, steps⟩ := s
   simp_all [stepQ] <;> omega
  rw [e0] at hK
  exact hK
 replace h3 : s.fuse ≤ 0 := (Int.not_lt.1 (of_decide_eq_false h3))
 refine awp_skip ?_
 refine hK4 _ _ ?_; clear hK4
 refine awp_reg2_seq [] [] (by decide) ?_
 intro K1 hK1
 refine ⟨trivial, trivial, ⟨rfl, by decide⟩, ?_⟩
 refine ar_loadp rfl (v := .int .i64 s.steps) rfl (wth_get 0 (nodup_1 r) rfl) rfl (apartOk_one rfl rfl (Nat.le_of_ble_eq_true rfl)) rfl ?_
 refine ar_add rfl (a := s.steps) (b := 1) rfl rfl (by omega) (by omega) ?_
 refine ⟨trivial, ⟨rfl, by decide⟩, ?_⟩
 refine ar_storep rfl 0 (v := .int .i64 (s.steps + 1)) (l' := [.slice true (s.kept.map fileAV), .slice true (s.now.map fileAV), .slice true (s.wait.map trnAV), .int .i64 s.fuse, .bool s.down, .int .i64 (s.steps + 1)]) rfl rfl (nodup_1 r) rfl rfl rfl rfl rfl (Nat.le_of_ble_eq_true rfl) rfl ?_
 show K1 [] (AMem.wth m [(r, .cells [.slice true (s.kept.map fileAV), .slice true (s.now.map fileAV), .slice true (s.wait.map trnAV), .int .i64 s.fuse, .bool s.down, .int .i64 (s.steps + 1)])])
 refine hK1 _ _ ?_; clear hK1 K1
 refine awp_reg2_seq [] [2] (by decide) ?_
 intro K1 hK1
 refine ⟨trivial, ?_⟩
 show K1 [(2, .int .i64 0)] (AMem.wth m [(r, .cells [.slice true (s.kept.map fileAV), .slice true (s.now.map fileAV), .slice true (s.wait.map trnAV), .int .i64 s.fuse, .bool s.down, .int .i64 (s.steps + 1)])])
 refine hK1 _ _ ?_; clear hK1 K1
 refine awp_ret ?_
 refine ⟨trivial, (AMem.wth m [(r, .cells [.slice true (s.kept.map fileAV), .slice true (s.now.map fileAV), .slice true (s.wait.map trnAV), .int .i64 s.fuse, .bool s.down, .int .i64 (s.steps + 1)])]), fun _ _ h => h, ?_⟩
 show K (.int .i64 0) (AMem.wth m [(r, .cells [.slice true (s.kept.map fileAV), .slice true (s.now.map fileAV), .slice true (s.wait.map trnAV), .int .i64 s.fuse, .bool s.down, .int .i64 (s.steps + 1)])])

 have e0 : stepQ s = (((⟨s.kept, s.now, s.wait, s.fuse, s.down, s.steps + 1⟩ : RSt), 0) : RSt × Int) := by
  have := hR.fu0
  obtain ⟨kept, now, wait, fuse, down, steps⟩ := s
  simp_all [stepQ] <;> omega
 rw [e0] at hK
 exact hK

theorem u_QNew   (m : AMem)  (K : AV → AMem → Prop) (hK : ∀ r, m r = none → K (.ptr ⟨r, 0, none⟩) (AMem.wth m [(r, rObj ⟨[], [], [], -1, false, 0⟩)])) : ACalls Try.prog 24 [] m K := by
 refine acalls_enter Try.func24 rfl (by decide) (Nat.le_of_ble_eq_true rfl) ?_
 show AWP _ _ _ _ [] m
 refine awp_reg2_seq [] [] (by decide) ?_
 intro K1 hK1
 refine ⟨trivial, ?_⟩
 show K1 [] m
 refine hK1 _ _ ?_; clear hK1 K1
 refine awp_reg2_seq [] [0] (by decide) ?_
 intro K1 hK1
 refine ⟨⟨rfl, by simp only [List.forall_mem_cons]; exact ⟨rfl, rfl, rfl, rfl, rfl, rfl, fun _ h => by cases h⟩, by simp only [List.forall_mem_cons]; exact ⟨rfl, fun _ h => by cases h⟩⟩, ?_⟩
 refine ar_box rfl (m := m) (L := []) (v := .agg [.slice true [], .slice true [], .slice true [], .int .i64 (-1), .bool false, .int .i64 0]) rfl rfl ?_
 intro b1 hb1
 have hFb1 : m b1 = none := wth_none (m := m) (L := []) hb1
 have hNb1 : ([b1] : List Nat).Nodup := wth_nodup (m := m) (L := []) hb1 List.nodup_nil
 refine ⟨trivial, ?_⟩
 show K1 [(0, .ptr ⟨b1, 0, none⟩)] (AMem.wth m [(b1, .cells [.slice true [], .slice true [], .slice true [], .int .i64 (-1), .bool false, .int .i64 0])])
 refine hK1 _ _ ?_; clear hK1 K1
 refine awp_ret ?_
 refine ⟨trivial, (AMem.wth m [(b1, .cells [.slice true [], .slice true [], .slice true [], .int .i64 (-1), .bool false, .int .i64 0])]), fun _ _ h => h, ?_⟩
 show K (.ptr ⟨b1, 0, none⟩) (AMem.wth m [(b1, .cells [.slice true [], .slice true [], .slice true [], .int .i64 (-1), .bool false, .int .i64 0])])

 exact hK b1 hFb1

end Go.Proofs
end
