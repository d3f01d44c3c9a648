import Derived.Test.YtnahenbiipdlkaaGreatDoorPx15
import Derived.Test.YtnahenbiipdlkaaGreatDoorSv3
section
namespace Go.Proofs
open Go Go.Aw Go.Sx
set_option maxRecDepth 100000
theorem xc_eq_dep : ∀ (k : Nat) (e : Exp), depE e < k → xcE e = depE e
  | 0, _, h => absurd h (Nat.not_lt_zero _)
  | k + 1, e, h => by
    have hl : ∀ l : List Exp, (∀ x ∈ l, xcE x = depE x) → xcL l = depEL l := fun l => by
      induction l with
      | nil => intro _; simp [xcL, depEL]
      | cons a r ih =>
        intro hh
        simp only [xcL, depEL]
        rw [hh a (List.mem_cons_self ..), ih fun x hx => hh x (List.mem_cons_of_mem _ hx)]; omega
    rw [xcE_eq, depE_eq, hl e.a fun x hx => xc_eq_dep k x (by have := depE_mem hx; omega)]; omega
theorem exF_dep {e : Exp} (h : exF e = 0) : depE e ≤ 60 := by
  have := (exF_0 h).2.1
  have := xc_eq_dep _ e (Nat.lt_succ_self _)
  omega
def opM (k : Int) : Str := (mget (mput (mput ([] : List (Int × Str)) 5 [32, 43, 32]) 6 [32, 61, 61, 32]) k).getD []
theorem opM_5 : opM 5 = [32, 43, 32] := by decide +kernel
theorem opM_6 : opM 6 = [32, 61, 61, 32] := by decide +kernel
def textE : Nat → Exp → Str
  | 0, _ => []
  | k + 1, e =>
    if e.kind = 1 then textV e.v
    else if e.kind = 2 then [105, 110, 46] ++ e.s
    else if e.kind = 3 then [114, 101, 115, 46] ++ e.s ++ [46] ++ e.t
    else if e.kind = 4 then [115, 116, 97, 99, 107, 46] ++ e.s ++ [46] ++ e.t
    else if e.kind = 5 ∨ e.kind = 6 then [40] ++ textE k (gI e.a 0) ++ opM e.kind ++ textE k (gI e.a 1) ++ [41]
    else if e.kind = 7 then [40] ++ textE k (gI e.a 0) ++ [32, 63, 32] ++ textE k (gI e.a 1) ++ [32, 58, 32] ++ textE k (gI e.a 2) ++ [41]
    else if e.kind = 8 then [91] ++ joinA (textE k) e.a true ++ [93]
    else if e.kind = 9 then [123] ++ joinA (fun p : Str × Exp => p.1 ++ [58, 32] ++ textE k p.2) (e.n.zip e.a) true ++ [125]
    else if e.kind = 10 then [103, 101, 116, 32] ++ textE k (gI e.a 0) ++ [32] ++ e.s
    else []
theorem textE_x (k : Nat) (e : Exp) : textE (k + 1) e =
    if e.kind = 1 then textV e.v
    else if e.kind = 2 then [105, 110, 46] ++ e.s
    else if e.kind = 3 then [114, 101, 115, 46] ++ e.s ++ [46] ++ e.t
    else if e.kind = 4 then [115, 116, 97, 99, 107, 46] ++ e.s ++ [46] ++ e.t
    else if e.kind = 5 ∨ e.kind = 6 then [40] ++ textE k (gI e.a 0) ++ opM e.kind ++ textE k (gI e.a 1) ++ [41]
    else if e.kind = 7 then [40] ++ textE k (gI e.a 0) ++ [32, 63, 32] ++ textE k (gI e.a 1) ++ [32, 58, 32] ++ textE k (gI e.a 2) ++ [41]
    else if e.kind = 8 then [91] ++ joinA (textE k) e.a true ++ [93]
    else if e.kind = 9 then [123] ++ joinA (fun p : Str × Exp => p.1 ++ [58, 32] ++ textE k p.2) (e.n.zip e.a) true ++ [125]
    else if e.kind = 10 then [103, 101, 116, 32] ++ textE k (gI e.a 0) ++ [32] ++ e.s
    else [] := by rw [textE]
attribute [irreducible] textE
theorem nodeOk_len {e : Exp} (h : NodeOk e) : (e.kind = 5 → e.a.length = 2) ∧ (e.kind = 6 → e.a.length = 2) ∧ (e.kind = 7 → e.a.length = 3) ∧ (e.kind = 9 → e.a.length = e.n.length) ∧ (e.kind = 10 → e.a.length = 1) ∧ (e.kind = 1 → chk e.v = 0) ∧
    1 ≤ e.kind ∧ e.kind ≤ 10 ∧ (e.kind = 2 → nameV e.s = true) ∧ (e.kind = 3 → nameV e.s = true ∧ nameV e.t = true) ∧ (e.kind = 4 → nameV e.s = true ∧ nameV e.t = true) ∧ (e.kind = 10 → nameV e.s = true) ∧ (e.kind = 9 → NamesOk e.n) := by
  unfold NodeOk at h
  refine ⟨?_, ?_, ?_, ?_, ?_, ?_, ?_, ?_, ?_, ?_, ?_, ?_, ?_⟩ <;> grind
theorem name_len {s : Str} (h : nameV s = true) : s.length ≤ 12 := by
  unfold nameV at h
  simp only [Bool.and_eq_true, decide_eq_true_eq] at h
  omega
theorem gI_at {α : Type} [Inhabited α] {l : List α} {i : Int} {x : α} (h0 : 0 ≤ i) (h : l[i.toNat]? = some x) : gI l i = x := by
  simp [gI, List.getD_eq_getElem?_getD, h]
theorem name_mem {l : List Str} (h : NamesOk l) {s : Str} (hs : s ∈ l) : s.length ≤ 12 := by
  obtain ⟨i, hi, rfl⟩ := List.getElem_of_mem hs
  have := (h i (by omega) (by omega)).1
  rw [gI_at (x := l[i]) (by omega) (by simp [hi])] at this
  exact name_len this
theorem gI_zip {α β : Type} [Inhabited α] [Inhabited β] {a : List α} {b : List β} {i : Int} (h0 : 0 ≤ i) (ha : i < a.length) (hb : i < b.length) : gI (a.zip b) i = (gI a i, gI b i) :=
  gI_at h0 (by rw [List.getElem?_zip_eq_some]; exact ⟨by rw [List.getElem?_eq_getElem (by omega)]; exact congrArg some (gI_at h0 (List.getElem?_eq_getElem (by omega))).symm, by rw [List.getElem?_eq_getElem (by omega)]; exact congrArg some (gI_at h0 (List.getElem?_eq_getElem (by omega))).symm⟩)
theorem sumN_zip : ∀ (n : List Str) (a : List Exp), a.length = n.length → sumN (fun p : Str × Exp => depE p.2) (n.zip a) = depEL a
  | [], [], _ => rfl
  | [], _ :: _, h => by cases h
  | _ :: _, [], h => by cases h
  | s :: n, e :: a, h => by
    simp only [List.zip_cons_cons, sumN, depEL]
    rw [sumN_zip n a (by simpa using h)]
theorem sumN_a : ∀ (a : List Exp), sumN depE a = depEL a
  | [] => rfl
  | e :: a => by simp only [sumN, depEL, sumN_a a]
theorem opM_len (k : Int) : (opM k).length ≤ 4 := by
  unfold opM
  by_cases h5 : k = 5
  · subst h5; decide +kernel
  by_cases h6 : k = 6
  · subst h6; decide +kernel
  · simp [mput, mget, h5, h6, Ne.symm h5, Ne.symm h6]
theorem textE_len : ∀ (k : Nat) (e : Exp), fmE e → (textE k e).length + 60 ≤ 20000 * depE e
  | 0, e, _ => by rw [textE, depE_eq]; simp; omega
  | k + 1, e, h => by
    obtain ⟨hn, hk⟩ := fm_all h
    obtain ⟨n5, n6, n7, n9, n10, n1, _, _, s2, s3, s4, s10, m9⟩ := nodeOk_len hn
    have ih := fun (x : Exp) hx => textE_len k x (hk x hx)
    have hd := depE_eq e
    have g0 : 0 < e.a.length → (textE k (gI e.a 0)).length + 60 ≤ 20000 * depE (gI e.a 0) := fun hl => ih _ (gI_mem (by omega) (by omega))
    have g1 : 1 < e.a.length → (textE k (gI e.a 1)).length + 60 ≤ 20000 * depE (gI e.a 1) := fun hl => ih _ (gI_mem (by omega) (by omega))
    have g2 : 2 < e.a.length → (textE k (gI e.a 2)).length + 60 ≤ 20000 * depE (gI e.a 2) := fun hl => ih _ (gI_mem (by omega) (by omega))
    have ho := opM_len e.kind
    rw [textE_x]
    split
    · have := textV_len (v := e.v) (n1 (by assumption)); omega
    split
    · have := name_len (s2 (by assumption)); simp only [List.length_append, List.length_cons, List.length_nil]; omega
    split
    · have := name_len (s3 (by assumption)).1; have := name_len (s3 (by assumption)).2; simp only [List.length_append, List.length_cons, List.length_nil]; omega
    split
    · have := name_len (s4 (by assumption)).1; have := name_len (s4 (by assumption)).2; simp only [List.length_append, List.length_cons, List.length_nil]; omega
    split
    · rename_i hk5
      have hl : e.a.length = 2 := hk5.elim n5 n6
      have h2 : depEL e.a = depE (gI e.a 0) + depE (gI e.a 1) := by
        match e.a, hl with
        | [x, y], _ => simp [depEL, gI]
      have := g0 (by omega); have := g1 (by omega)
      simp only [List.length_append, List.length_cons, List.length_nil]; omega
    split
    · have hl : e.a.length = 3 := n7 (by assumption)
      have h2 : depEL e.a = depE (gI e.a 0) + depE (gI e.a 1) + depE (gI e.a 2) := by
        match e.a, hl with
        | [x, y, z], _ => simp [depEL, gI]; omega
      have := g0 (by omega); have := g1 (by omega); have := g2 (by omega)
      simp only [List.length_append, List.length_cons, List.length_nil]; omega
    split
    · have := joinA_len (g := textE k) (d := depE) (c := 20000) e.a true fun x hx => by have := ih x hx; omega
      rw [sumN_a] at this
      simp only [List.length_append, List.length_cons, List.length_nil]; omega
    split
    · rename_i hk9
      have := joinA_len (g := fun p : Str × Exp => p.1 ++ [58, 32] ++ textE k p.2) (d := fun p => depE p.2) (c := 20000) (e.n.zip e.a) true fun x hx => by
        obtain ⟨h1, h2⟩ := List.of_mem_zip hx
        have := ih x.2 h2
        have := name_mem (m9 hk9) h1
        simp only [List.length_append, List.length_cons, List.length_nil]; omega
      rw [sumN_zip _ _ (n9 hk9)] at this
      simp only [List.length_append, List.length_cons, List.length_nil]; omega
    split
    · have hl : e.a.length = 1 := n10 (by assumption)
      have h2 : depEL e.a = depE (gI e.a 0) := by
        match e.a, hl with
        | [x], _ => simp [depEL, gI]
      have := g0 (by omega)
      have := name_len (s10 (by assumption))
      simp only [List.length_append, List.length_cons, List.length_nil]; omega
    · simp; omega
def textX (e : Exp) : Str := textE (depE e + 1) e
theorem textX_len {e : Exp} (h : exF e = 0) : (textX e).length ≤ 1200000 := by
  have := textE_len (depE e + 1) e (exF_0 h).1
  have := exF_dep h
  unfold textX; omega
theorem mpIS : Go.Sx.MpOk tb 204 3 9 (.int .i64) (strAV []) := ⟨⟨rfl, rfl⟩, rfl, ⟨trivial, rfl⟩⟩
theorem u_TextOk (v : Val) (h : chk v = 0) (m : AMem) (K : AV → AMem → Prop) (hT : Tabs m) (hK : K (.tuple [.str (textV v), .err 115 0]) m) : ACalls Tryz.prog 81 [valTop v] m K :=
  u_Text v m K hT (by rw [if_pos h, h]; exact hK)
set_option maxHeartbeats 4000000 in
theorem u_lwrite1 (k : Nat) (e : Exp) (base : Str) (b : Nat) (ih : ∀ (x : Exp) (base : Str), depE x < k → fmE x → base.length + (textE k x).length ≤ 140737488355328 → ∀ (b : Nat) (m : AMem), Gd [b] m → Tabs m → ∀ (K : AV → AMem → Prop), K (.tuple []) (AMem.wth m [(b, .bld 112 5 ((base ++ textE k x).map byteAV))]) → ACalls Tryz.prog 57 [.ptr ⟨b, 0, none⟩, expTop x] (AMem.wth m [(b, .bld 112 5 (base.map byteAV))]) K) (hd : depE e < k + 1) (hf : fmE e) (hL : base.length + (textE (k + 1) e).length ≤ 140737488355328) (m : AMem) (gd : Gd [b] m) (K : AV → AMem → Prop) (hT : Tabs m) (hK : K (.tuple []) (AMem.wth m [(b, .bld 112 5 ((base ++ textE (k + 1) e).map byteAV))])) : ACalls Tryz.prog 57 [.ptr ⟨b, 0, none⟩, expTop e] (AMem.wth m [(b, .bld 112 5 (base.map byteAV))]) K := by
 obtain ⟨hn, hka⟩ := fm_all hf
 obtain ⟨n5, n6, n7, n9, n10, n1, k1, k10, s2, s3, s4, s10, m9⟩ := nodeOk_len hn
 refine enter (c := cf [] [0] [] [] [] [b]) (vs := [.loc 0 0, .av (expTop e)]) (L := [.obj (.bld 112 5 (base.map byteAV))]) (m := m) false tbOk Tryz.mixed Tryz.func57 rfl (k := 2) (by show fnOk [] _ _ _ = true; decide +kernel) rfl (gd.good rfl) ?_
 refine ⟨fun F0 => ?_⟩
 have hbd1_3 : e.v.s.length ≤ 140737488355328 := (F0 1 3 (Nat.le_of_ble_eq_true rfl))
 have hbd1_4 : e.v.l.length ≤ 140737488355328 := bd_map (F0 1 4 (Nat.le_of_ble_eq_true rfl))
 have hbd1_5 : e.v.f.length ≤ 140737488355328 := bd_map (F0 1 5 (Nat.le_of_ble_eq_true rfl))
 have hbd1_6 : e.s.length ≤ 140737488355328 := (F0 1 6 (Nat.le_of_ble_eq_true rfl))
 have hbd1_7 : e.t.length ≤ 140737488355328 := (F0 1 7 (Nat.le_of_ble_eq_true rfl))
 have hbd1_8 : e.a.length ≤ 140737488355328 := bd_map (F0 1 8 (Nat.le_of_ble_eq_true rfl))
 have hbd1_9 : e.n.length ≤ 140737488355328 := bd_map (F0 1 9 (Nat.le_of_ble_eq_true rfl))
 refine an (fun h1 => ?_) (fun h1 => ?_)
 · have hx : textE (k + 1) e = textV e.v := by rw [textE_x, if_pos (by omega)]
   rw [hx] at hL hK
   try simp only [List.length_append, List.length_cons, List.length_nil] at hL
   refine callT [] [] (.av (.tuple [.str (textV e.v), .err 115 0])) rfl (fun bs mm gd ht => fun K hK => u_TextOk e.v (n1 h1) mm K (Tabs.up ht hT) hK) ?_
   refine callM [0] [.obj (.bld 112 5 ((base ++ (textV e.v)).map byteAV))] (.av (.tuple [.int .i64 ((textV e.v).length : Int), .nilIface])) rfl (fun bs mm gd => u_WriteString (bs.getD 0 0) base (textV e.v) (by first | omega | (simp only [List.length_append, List.length_cons, List.length_nil]; omega)) mm) ?_
   refine rt rfl fun _ => ?_
   show K (.tuple []) (AMem.wth m [(b, .bld 112 5 ((base ++ (textV e.v)).map byteAV))])
   try simp only [List.append_assoc] at hK ⊢
   exact hK
 refine an (fun h2 => ?_) (fun h2 => ?_)
 · have hx : textE (k + 1) e = [105, 110, 46] ++ e.s := by rw [textE_x, if_neg (by omega), if_pos (by omega)]
   rw [hx] at hL hK
   try simp only [List.length_append, List.length_cons, List.length_nil] at hL
   refine an (by (first | omega | (simp only [List.length_append, List.length_cons, List.length_nil]; omega))) ?_
   refine callM [0] [.obj (.bld 112 5 ((base ++ (([105, 110, 46] : List UInt8) ++ e.s)).map byteAV))] (.av (.tuple [.int .i64 ((([105, 110, 46] : List UInt8) ++ e.s).length : Int), .nilIface])) rfl (fun bs mm gd => u_WriteString (bs.getD 0 0) base (([105, 110, 46] : List UInt8) ++ e.s) (by first | omega | (simp only [List.length_append, List.length_cons, List.length_nil]; omega)) mm) ?_
   refine rt rfl fun _ => ?_
   show K (.tuple []) (AMem.wth m [(b, .bld 112 5 ((base ++ (([105, 110, 46] : List UInt8) ++ e.s)).map byteAV))])
   try simp only [List.append_assoc] at hK ⊢
   exact hK
 refine an (fun h3 => ?_) (fun h3 => ?_)
 · have hx : textE (k + 1) e = [114, 101, 115, 46] ++ e.s ++ [46] ++ e.t := by rw [textE_x, if_neg (by omega), if_neg (by omega), if_pos (by omega)]
   rw [hx] at hL hK
   try simp only [List.length_append, List.length_cons, List.length_nil] at hL
   refine an (by (first | omega | (simp only [List.length_append, List.length_cons, List.length_nil]; omega))) ?_
   refine an (by (first | omega | (simp only [List.length_append, List.length_cons, List.length_nil]; omega))) ?_
   refine an (by (first | omega | (simp only [List.length_append, List.length_cons, List.length_nil]; omega))) ?_
   refine callM [0] [.obj (.bld 112 5 ((base ++ (((([114, 101, 115, 46] : List UInt8) ++ e.s) ++ ([46] : List UInt8)) ++ e.t)).map byteAV))] (.av (.tuple [.int .i64 ((((([114, 101, 115, 46] : List UInt8) ++ e.s) ++ ([46] : List UInt8)) ++ e.t).length : Int), .nilIface])) rfl (fun bs mm gd => u_WriteString (bs.getD 0 0) base (((([114, 101, 115, 46] : List UInt8) ++ e.s) ++ ([46] : List UInt8)) ++ e.t) (by first | omega | (simp only [List.length_append, List.length_cons, List.length_nil]; omega)) mm) ?_
   refine rt rfl fun _ => ?_
   show K (.tuple []) (AMem.wth m [(b, .bld 112 5 ((base ++ (((([114, 101, 115, 46] : List UInt8) ++ e.s) ++ ([46] : List UInt8)) ++ e.t)).map byteAV))])
   try simp only [List.append_assoc] at hK ⊢
   exact hK
 refine an (fun h4 => ?_) (fun h4 => ?_)
 · have hx : textE (k + 1) e = [115, 116, 97, 99, 107, 46] ++ e.s ++ [46] ++ e.t := by rw [textE_x, if_neg (by omega), if_neg (by omega), if_neg (by omega), if_pos (by omega)]
   rw [hx] at hL hK
   try simp only [List.length_append, List.length_cons, List.length_nil] at hL
   refine an (by (first | omega | (simp only [List.length_append, List.length_cons, List.length_nil]; omega))) ?_
   refine an (by (first | omega | (simp only [List.length_append, List.length_cons, List.length_nil]; omega))) ?_
   refine an (by (first | omega | (simp only [List.length_append, List.length_cons, List.length_nil]; omega))) ?_
   refine callM [0] [.obj (.bld 112 5 ((base ++ (((([115, 116, 97, 99, 107, 46] : List UInt8) ++ e.s) ++ ([46] : List UInt8)) ++ e.t)).map byteAV))] (.av (.tuple [.int .i64 ((((([115, 116, 97, 99, 107, 46] : List UInt8) ++ e.s) ++ ([46] : List UInt8)) ++ e.t).length : Int), .nilIface])) rfl (fun bs mm gd => u_WriteString (bs.getD 0 0) base (((([115, 116, 97, 99, 107, 46] : List UInt8) ++ e.s) ++ ([46] : List UInt8)) ++ e.t) (by first | omega | (simp only [List.length_append, List.length_cons, List.length_nil]; omega)) mm) ?_
   refine rt rfl fun _ => ?_
   show K (.tuple []) (AMem.wth m [(b, .bld 112 5 ((base ++ (((([115, 116, 97, 99, 107, 46] : List UInt8) ++ e.s) ++ ([46] : List UInt8)) ++ e.t)).map byteAV))])
   try simp only [List.append_assoc] at hK ⊢
   exact hK
 refine sq ?_
 refine an (fun h5 => ?_) (fun h5 => ?_)
 · have hx : textE (k + 1) e = [40] ++ textE k (gI e.a 0) ++ opM e.kind ++ textE k (gI e.a 1) ++ [41] := by rw [textE_x, if_neg (by omega), if_neg (by omega), if_neg (by omega), if_neg (by omega), if_pos (by omega)]
   rw [hx] at hL hK
   try simp only [List.length_append, List.length_cons, List.length_nil] at hL
   have hl5 := n5 h5
   refine an (fun h6 => ?_) (fun h6 => ?_)
   · refine callM [0] [.obj (.bld 112 5 ((base ++ ([40] : List UInt8)).map byteAV))] (.av (.tuple [.int .i64 (([40] : List UInt8).length : Int), .nilIface])) rfl (fun bs mm gd => u_WriteString (bs.getD 0 0) base ([40] : List UInt8) (by first | omega | (simp only [List.length_append, List.length_cons, List.length_nil]; omega)) mm) ?_
     refine ixg expTop expIn_eq (by omega) ?_
     refine callT [0] [.obj (.bld 112 5 (((base ++ ([40] : List UInt8)) ++ textE k (gI e.a 0)).map byteAV))] (.tup []) rfl (fun bs mm gd ht => ih (gI e.a 0) (base ++ ([40] : List UInt8)) (by have := depE_mem (gI_mem (l := e.a) (i := 0) (by omega) (by omega)); omega) (hka _ (gI_mem (by omega) (by omega))) (by first | omega | (simp only [List.length_append, List.length_cons, List.length_nil]; omega)) (bs.getD 0 0) mm gd (Tabs.up ht hT)) ?_
     refine mins tbOk (dk := .int .i64) intAV strAV intKey_ok ([] : List (Int × (List UInt8))) 5 ([32, 43, 32] : List UInt8) (t := 204) (ke := 3) (ve := 9) mpIS rfl rfl rfl rfl rfl (fun _ => rfl) (by decide +kernel) ?_
     refine mins tbOk (dk := .int .i64) intAV strAV intKey_ok (mput ([] : List (Int × (List UInt8))) 5 ([32, 43, 32] : List UInt8)) 6 ([32, 61, 61, 32] : List UInt8) (t := 204) (ke := 3) (ve := 9) mpIS rfl rfl rfl rfl rfl (fun _ => rfl) (by decide +kernel) ?_
     refine mlk tbOk (dk := .int .i64) intAV strAV intKey_ok (mput (mput ([] : List (Int × (List UInt8))) 5 ([32, 43, 32] : List UInt8)) 6 ([32, 61, 61, 32] : List UInt8)) e.kind [] (t := 204) (ke := 3) (ve := 9) (v := strAV (opM e.kind)) mpIS rfl rfl rfl rfl rfl rfl ?_
     refine callM [0] [.obj (.bld 112 5 ((((base ++ ([40] : List UInt8)) ++ textE k (gI e.a 0)) ++ (opM e.kind)).map byteAV))] (.av (.tuple [.int .i64 ((opM e.kind).length : Int), .nilIface])) rfl (fun bs mm gd => u_WriteString (bs.getD 0 0) ((base ++ ([40] : List UInt8)) ++ textE k (gI e.a 0)) (opM e.kind) (by first | omega | (simp only [List.length_append, List.length_cons, List.length_nil]; omega)) mm) ?_
     refine ixg expTop expIn_eq (by omega) ?_
     refine callT [0] [.obj (.bld 112 5 (((((base ++ ([40] : List UInt8)) ++ textE k (gI e.a 0)) ++ (opM e.kind)) ++ textE k (gI e.a 1)).map byteAV))] (.tup []) rfl (fun bs mm gd ht => ih (gI e.a 1) (((base ++ ([40] : List UInt8)) ++ textE k (gI e.a 0)) ++ (opM e.kind)) (by have := depE_mem (gI_mem (l := e.a) (i := 1) (by omega) (by omega)); omega) (hka _ (gI_mem (by omega) (by omega))) (by first | omega | (simp only [List.length_append, List.length_cons, List.length_nil]; omega)) (bs.getD 0 0) mm gd (Tabs.up ht hT)) ?_
     refine callM [0] [.obj (.bld 112 5 ((((((base ++ ([40] : List UInt8)) ++ textE k (gI e.a 0)) ++ (opM e.kind)) ++ textE k (gI e.a 1)) ++ ([41] : List UInt8)).map byteAV))] (.av (.tuple [.int .i64 (([41] : List UInt8).length : Int), .nilIface])) rfl (fun bs mm gd => u_WriteString (bs.getD 0 0) ((((base ++ ([40] : List UInt8)) ++ textE k (gI e.a 0)) ++ (opM e.kind)) ++ textE k (gI e.a 1)) ([41] : List UInt8) (by first | omega | (simp only [List.length_append, List.length_cons, List.length_nil]; omega)) mm) ?_
     refine rt rfl fun _ => ?_
     show K (.tuple []) (AMem.wth m [(b, .bld 112 5 ((((((base ++ ([40] : List UInt8)) ++ textE k (gI e.a 0)) ++ (opM e.kind)) ++ textE k (gI e.a 1)) ++ ([41] : List UInt8)).map byteAV))])
     try simp only [List.append_assoc] at hK ⊢
     exact hK
   exact absurd h5 h6
 refine an (fun h7 => ?_) (fun h7 => ?_)
 · have hx : textE (k + 1) e = [40] ++ textE k (gI e.a 0) ++ opM e.kind ++ textE k (gI e.a 1) ++ [41] := by rw [textE_x, if_neg (by omega), if_neg (by omega), if_neg (by omega), if_neg (by omega), if_pos (by omega)]
   rw [hx] at hL hK
   try simp only [List.length_append, List.length_cons, List.length_nil] at hL
   have hl5 := n6 h7
   refine callM [0] [.obj (.bld 112 5 ((base ++ ([40] : List UInt8)).map byteAV))] (.av (.tuple [.int .i64 (([40] : List UInt8).length : Int), .nilIface])) rfl (fun bs mm gd => u_WriteString (bs.getD 0 0) base ([40] : List UInt8) (by first | omega | (simp only [List.length_append, List.length_cons, List.length_nil]; omega)) mm) ?_
   refine ixg expTop expIn_eq (by omega) ?_
   refine callT [0] [.obj (.bld 112 5 (((base ++ ([40] : List UInt8)) ++ textE k (gI e.a 0)).map byteAV))] (.tup []) rfl (fun bs mm gd ht => ih (gI e.a 0) (base ++ ([40] : List UInt8)) (by have := depE_mem (gI_mem (l := e.a) (i := 0) (by omega) (by omega)); omega) (hka _ (gI_mem (by omega) (by omega))) (by first | omega | (simp only [List.length_append, List.length_cons, List.length_nil]; omega)) (bs.getD 0 0) mm gd (Tabs.up ht hT)) ?_
   refine mins tbOk (dk := .int .i64) intAV strAV intKey_ok ([] : List (Int × (List UInt8))) 5 ([32, 43, 32] : List UInt8) (t := 204) (ke := 3) (ve := 9) mpIS rfl rfl rfl rfl rfl (fun _ => rfl) (by decide +kernel) ?_
   refine mins tbOk (dk := .int .i64) intAV strAV intKey_ok (mput ([] : List (Int × (List UInt8))) 5 ([32, 43, 32] : List UInt8)) 6 ([32, 61, 61, 32] : List UInt8) (t := 204) (ke := 3) (ve := 9) mpIS rfl rfl rfl rfl rfl (fun _ => rfl) (by decide +kernel) ?_
   refine mlk tbOk (dk := .int .i64) intAV strAV intKey_ok (mput (mput ([] : List (Int × (List UInt8))) 5 ([32, 43, 32] : List UInt8)) 6 ([32, 61, 61, 32] : List UInt8)) e.kind [] (t := 204) (ke := 3) (ve := 9) (v := strAV (opM e.kind)) mpIS rfl rfl rfl rfl rfl rfl ?_
   refine callM [0] [.obj (.bld 112 5 ((((base ++ ([40] : List UInt8)) ++ textE k (gI e.a 0)) ++ (opM e.kind)).map byteAV))] (.av (.tuple [.int .i64 ((opM e.kind).length : Int), .nilIface])) rfl (fun bs mm gd => u_WriteString (bs.getD 0 0) ((base ++ ([40] : List UInt8)) ++ textE k (gI e.a 0)) (opM e.kind) (by first | omega | (simp only [List.length_append, List.length_cons, List.length_nil]; omega)) mm) ?_
   refine ixg expTop expIn_eq (by omega) ?_
   refine callT [0] [.obj (.bld 112 5 (((((base ++ ([40] : List UInt8)) ++ textE k (gI e.a 0)) ++ (opM e.kind)) ++ textE k (gI e.a 1)).map byteAV))] (.tup []) rfl (fun bs mm gd ht => ih (gI e.a 1) (((base ++ ([40] : List UInt8)) ++ textE k (gI e.a 0)) ++ (opM e.kind)) (by have := depE_mem (gI_mem (l := e.a) (i := 1) (by omega) (by omega)); omega) (hka _ (gI_mem (by omega) (by omega))) (by first | omega | (simp only [List.length_append, List.length_cons, List.length_nil]; omega)) (bs.getD 0 0) mm gd (Tabs.up ht hT)) ?_
   refine callM [0] [.obj (.bld 112 5 ((((((base ++ ([40] : List UInt8)) ++ textE k (gI e.a 0)) ++ (opM e.kind)) ++ textE k (gI e.a 1)) ++ ([41] : List UInt8)).map byteAV))] (.av (.tuple [.int .i64 (([41] : List UInt8).length : Int), .nilIface])) rfl (fun bs mm gd => u_WriteString (bs.getD 0 0) ((((base ++ ([40] : List UInt8)) ++ textE k (gI e.a 0)) ++ (opM e.kind)) ++ textE k (gI e.a 1)) ([41] : List UInt8) (by first | omega | (simp only [List.length_append, List.length_cons, List.length_nil]; omega)) mm) ?_
   refine rt rfl fun _ => ?_
   show K (.tuple []) (AMem.wth m [(b, .bld 112 5 ((((((base ++ ([40] : List UInt8)) ++ textE k (gI e.a 0)) ++ (opM e.kind)) ++ textE k (gI e.a 1)) ++ ([41] : List UInt8)).map byteAV))])
   try simp only [List.append_assoc] at hK ⊢
   exact hK
 refine an (fun h8 => ?_) (fun h8 => ?_)
 · have hx : textE (k + 1) e = [40] ++ textE k (gI e.a 0) ++ [32, 63, 32] ++ textE k (gI e.a 1) ++ [32, 58, 32] ++ textE k (gI e.a 2) ++ [41] := by rw [textE_x, if_neg (by omega), if_neg (by omega), if_neg (by omega), if_neg (by omega), if_neg (by omega), if_pos (by omega)]
   rw [hx] at hL hK
   try simp only [List.length_append, List.length_cons, List.length_nil] at hL
   have hl5 := n7 h8
   refine callM [0] [.obj (.bld 112 5 ((base ++ ([40] : List UInt8)).map byteAV))] (.av (.tuple [.int .i64 (([40] : List UInt8).length : Int), .nilIface])) rfl (fun bs mm gd => u_WriteString (bs.getD 0 0) base ([40] : List UInt8) (by first | omega | (simp only [List.length_append, List.length_cons, List.length_nil]; omega)) mm) ?_
   refine ixg expTop expIn_eq (by omega) ?_
   refine callT [0] [.obj (.bld 112 5 (((base ++ ([40] : List UInt8)) ++ textE k (gI e.a 0)).map byteAV))] (.tup []) rfl (fun bs mm gd ht => ih (gI e.a 0) (base ++ ([40] : List UInt8)) (by have := depE_mem (gI_mem (l := e.a) (i := 0) (by omega) (by omega)); omega) (hka _ (gI_mem (by omega) (by omega))) (by first | omega | (simp only [List.length_append, List.length_cons, List.length_nil]; omega)) (bs.getD 0 0) mm gd (Tabs.up ht hT)) ?_
   refine callM [0] [.obj (.bld 112 5 ((((base ++ ([40] : List UInt8)) ++ textE k (gI e.a 0)) ++ ([32, 63, 32] : List UInt8)).map byteAV))] (.av (.tuple [.int .i64 (([32, 63, 32] : List UInt8).length : Int), .nilIface])) rfl (fun bs mm gd => u_WriteString (bs.getD 0 0) ((base ++ ([40] : List UInt8)) ++ textE k (gI e.a 0)) ([32, 63, 32] : List UInt8) (by first | omega | (simp only [List.length_append, List.length_cons, List.length_nil]; omega)) mm) ?_
   refine ixg expTop expIn_eq (by omega) ?_
   refine callT [0] [.obj (.bld 112 5 (((((base ++ ([40] : List UInt8)) ++ textE k (gI e.a 0)) ++ ([32, 63, 32] : List UInt8)) ++ textE k (gI e.a 1)).map byteAV))] (.tup []) rfl (fun bs mm gd ht => ih (gI e.a 1) (((base ++ ([40] : List UInt8)) ++ textE k (gI e.a 0)) ++ ([32, 63, 32] : List UInt8)) (by have := depE_mem (gI_mem (l := e.a) (i := 1) (by omega) (by omega)); omega) (hka _ (gI_mem (by omega) (by omega))) (by first | omega | (simp only [List.length_append, List.length_cons, List.length_nil]; omega)) (bs.getD 0 0) mm gd (Tabs.up ht hT)) ?_
   refine callM [0] [.obj (.bld 112 5 ((((((base ++ ([40] : List UInt8)) ++ textE k (gI e.a 0)) ++ ([32, 63, 32] : List UInt8)) ++ textE k (gI e.a 1)) ++ ([32, 58, 32] : List UInt8)).map byteAV))] (.av (.tuple [.int .i64 (([32, 58, 32] : List UInt8).length : Int), .nilIface])) rfl (fun bs mm gd => u_WriteString (bs.getD 0 0) ((((base ++ ([40] : List UInt8)) ++ textE k (gI e.a 0)) ++ ([32, 63, 32] : List UInt8)) ++ textE k (gI e.a 1)) ([32, 58, 32] : List UInt8) (by first | omega | (simp only [List.length_append, List.length_cons, List.length_nil]; omega)) mm) ?_
   refine ixg expTop expIn_eq (by omega) ?_
   refine callT [0] [.obj (.bld 112 5 (((((((base ++ ([40] : List UInt8)) ++ textE k (gI e.a 0)) ++ ([32, 63, 32] : List UInt8)) ++ textE k (gI e.a 1)) ++ ([32, 58, 32] : List UInt8)) ++ textE k (gI e.a 2)).map byteAV))] (.tup []) rfl (fun bs mm gd ht => ih (gI e.a 2) (((((base ++ ([40] : List UInt8)) ++ textE k (gI e.a 0)) ++ ([32, 63, 32] : List UInt8)) ++ textE k (gI e.a 1)) ++ ([32, 58, 32] : List UInt8)) (by have := depE_mem (gI_mem (l := e.a) (i := 2) (by omega) (by omega)); omega) (hka _ (gI_mem (by omega) (by omega))) (by first | omega | (simp only [List.length_append, List.length_cons, List.length_nil]; omega)) (bs.getD 0 0) mm gd (Tabs.up ht hT)) ?_
   refine callM [0] [.obj (.bld 112 5 ((((((((base ++ ([40] : List UInt8)) ++ textE k (gI e.a 0)) ++ ([32, 63, 32] : List UInt8)) ++ textE k (gI e.a 1)) ++ ([32, 58, 32] : List UInt8)) ++ textE k (gI e.a 2)) ++ ([41] : List UInt8)).map byteAV))] (.av (.tuple [.int .i64 (([41] : List UInt8).length : Int), .nilIface])) rfl (fun bs mm gd => u_WriteString (bs.getD 0 0) ((((((base ++ ([40] : List UInt8)) ++ textE k (gI e.a 0)) ++ ([32, 63, 32] : List UInt8)) ++ textE k (gI e.a 1)) ++ ([32, 58, 32] : List UInt8)) ++ textE k (gI e.a 2)) ([41] : List UInt8) (by first | omega | (simp only [List.length_append, List.length_cons, List.length_nil]; omega)) mm) ?_
   refine rt rfl fun _ => ?_
   show K (.tuple []) (AMem.wth m [(b, .bld 112 5 ((((((((base ++ ([40] : List UInt8)) ++ textE k (gI e.a 0)) ++ ([32, 63, 32] : List UInt8)) ++ textE k (gI e.a 1)) ++ ([32, 58, 32] : List UInt8)) ++ textE k (gI e.a 2)) ++ ([41] : List UInt8)).map byteAV))])
   try simp only [List.append_assoc] at hK ⊢
   exact hK
 refine an (fun h9 => ?_) (fun h9 => ?_)
 · have hx : textE (k + 1) e = [91] ++ joinA (textE k) e.a true ++ [93] := by rw [textE_x, if_neg (by omega), if_neg (by omega), if_neg (by omega), if_neg (by omega), if_neg (by omega), if_neg (by omega), if_pos (by omega)]
   rw [hx] at hL hK
   try simp only [List.length_append, List.length_cons, List.length_nil] at hL
   refine callM [0] [.obj (.bld 112 5 ((base ++ ([91] : List UInt8)).map byteAV))] (.av (.tuple [.int .i64 (([91] : List UInt8).length : Int), .nilIface])) rfl (fun bs mm gd => u_WriteString (bs.getD 0 0) base ([91] : List UInt8) (by first | omega | (simp only [List.length_append, List.length_cons, List.length_nil]; omega)) mm) ?_
   refine sq ?_
   refine ln ?_
   refine lp (σ := Int × Str) [] [0, 111, 112, 113] 2 (fun ⟨i, w_⟩ => ([(0, .loc 0 0), (111, vL (e.a.map expIn)), (112, vI (e.a.length : Int)), (113, vI i)], [.obj (.bld 112 5 (w_.map byteAV)), .cells [vI e.kind, vI e.v.kind, vI e.v.n, vS e.v.s, vL (e.v.l.map valIn), vL (e.v.f.map fldIn), vS e.s, vS e.t, vL (e.a.map expIn), vL (e.n.map strAV)]], m)) (fun ⟨i, w_⟩ => 0 ≤ i ∧ i ≤ e.a.length ∧ base ++ [91] ++ joinA (textE k) e.a true = w_ ++ joinA (textE k) (e.a.drop i.toNat) (i == 0)) (fun ⟨i, w_⟩ => e.a.length - i.toNat) (0, base ++ ([91] : List UInt8)) ⟨rfl, rfl⟩ ?_ ?_
   · try dsimp only
     exact ⟨by omega, by omega, rfl⟩
   rintro ⟨i, w_⟩ hI
   dsimp only at hI
   have hj := congrArg List.length hI.2.2
   simp only [List.length_append, List.length_cons, List.length_nil] at hj
   refine sq ?_
   refine an (fun h10 => ?_) (fun h10 => ?_)
   · refine sq ?_
     refine ixg expTop expIn_eq (by omega) ?_
     refine sq ?_
     refine an (fun h11 => ?_) (fun h11 => ?_)
     · have hst := joinA_1 (g := textE k) (l := e.a) hI.1 (by first | assumption | omega | (rw [List.length_zip]; omega)) (by omega)
       have hsl := congrArg List.length hst
       simp only [List.length_append, List.length_cons, List.length_nil] at hsl
       refine callM [0] [.obj (.bld 112 5 ((w_ ++ ([44, 32] : List UInt8)).map byteAV))] (.av (.tuple [.int .i64 (([44, 32] : List UInt8).length : Int), .nilIface])) rfl (fun bs mm gd => u_WriteString (bs.getD 0 0) w_ ([44, 32] : List UInt8) (by first | omega | (simp only [List.length_append, List.length_cons, List.length_nil]; omega)) mm) ?_
       refine callT [0] [.obj (.bld 112 5 (((w_ ++ ([44, 32] : List UInt8)) ++ textE k (gI e.a i)).map byteAV))] (.tup []) rfl (fun bs mm gd ht => ih (gI e.a i) (w_ ++ ([44, 32] : List UInt8)) (by have := depE_mem (gI_mem (l := e.a) (i := i) (by omega) (by omega)); omega) (hka _ (gI_mem (by omega) (by omega))) (by first | omega | (simp only [List.length_append, List.length_cons, List.length_nil]; omega)) (bs.getD 0 0) mm gd (Tabs.up ht hT)) ?_
       refine an (by omega) ?_
       refine ⟨(i + 1, (w_ ++ ([44, 32] : List UInt8)) ++ textE k (gI e.a i)), ⟨rfl, rfl⟩, ?_, ?_⟩
       · try dsimp only
         exact ⟨by omega, by omega, by rw [hI.2.2, hst]; simp only [List.append_assoc, List.nil_append]⟩
       try dsimp only
       omega
     have hst := joinA_0 (g := textE k) (l := e.a) hI.1 (by first | assumption | omega | (rw [List.length_zip]; omega)) (by omega)
     have hsl := congrArg List.length hst
     simp only [List.length_append, List.length_cons, List.length_nil] at hsl
     refine callT [0] [.obj (.bld 112 5 ((w_ ++ textE k (gI e.a i)).map byteAV))] (.tup []) rfl (fun bs mm gd ht => ih (gI e.a i) w_ (by have := depE_mem (gI_mem (l := e.a) (i := i) (by omega) (by omega)); omega) (hka _ (gI_mem (by omega) (by omega))) (by first | omega | (simp only [List.length_append, List.length_cons, List.length_nil]; omega)) (bs.getD 0 0) mm gd (Tabs.up ht hT)) ?_
     refine an (by omega) ?_
     refine ⟨(i + 1, w_ ++ textE k (gI e.a i)), ⟨rfl, rfl⟩, ?_, ?_⟩
     · try dsimp only
       exact ⟨by omega, by omega, by rw [hI.2.2, hst]; simp only [List.append_assoc, List.nil_append]⟩
     try dsimp only
     omega
   refine callM [0] [.obj (.bld 112 5 ((w_ ++ ([93] : List UInt8)).map byteAV))] (.av (.tuple [.int .i64 (([93] : List UInt8).length : Int), .nilIface])) rfl (fun bs mm gd => u_WriteString (bs.getD 0 0) w_ ([93] : List UInt8) (by first | omega | (simp only [List.length_append, List.length_cons, List.length_nil]; omega)) mm) ?_
   refine rt rfl fun _ => ?_
   show K (.tuple []) (AMem.wth m [(b, .bld 112 5 ((w_ ++ ([93] : List UInt8)).map byteAV))])
   have e2 : base ++ ([91] ++ joinA (textE k) e.a true ++ [93]) = w_ ++ [93] := by
     have := hI.2.2
     rw [joinA_end (by omega), List.append_nil] at this
     rw [← this]; simp only [List.append_assoc]
   rw [e2] at hK; exact hK
 refine an (fun h12 => ?_) (fun h12 => ?_)
 · have hx : textE (k + 1) e = [123] ++ joinA (fun p : Str × Exp => p.1 ++ [58, 32] ++ textE k p.2) (e.n.zip e.a) true ++ [125] := by rw [textE_x, if_neg (by omega), if_neg (by omega), if_neg (by omega), if_neg (by omega), if_neg (by omega), if_neg (by omega), if_neg (by omega), if_pos (by omega)]
   rw [hx] at hL hK
   try simp only [List.length_append, List.length_cons, List.length_nil] at hL
   have hl9 := n9 h12
   have hzl : (e.n.zip e.a).length = e.a.length := by rw [List.length_zip]; omega
   refine callM [0] [.obj (.bld 112 5 ((base ++ ([123] : List UInt8)).map byteAV))] (.av (.tuple [.int .i64 (([123] : List UInt8).length : Int), .nilIface])) rfl (fun bs mm gd => u_WriteString (bs.getD 0 0) base ([123] : List UInt8) (by first | omega | (simp only [List.length_append, List.length_cons, List.length_nil]; omega)) mm) ?_
   refine sq ?_
   refine ln ?_
   refine lp (σ := Int × Str) [] [0, 3, 133, 134, 135] 2 (fun ⟨i, w_⟩ => ([(0, .loc 0 0), (3, .loc 1 0), (133, vL (e.a.map expIn)), (134, vI (e.a.length : Int)), (135, vI i)], [.obj (.bld 112 5 (w_.map byteAV)), .cells [vI e.kind, vI e.v.kind, vI e.v.n, vS e.v.s, vL (e.v.l.map valIn), vL (e.v.f.map fldIn), vS e.s, vS e.t, vL (e.a.map expIn), vL (e.n.map strAV)]], m)) (fun ⟨i, w_⟩ => 0 ≤ i ∧ i ≤ e.a.length ∧ base ++ [123] ++ joinA (fun p : Str × Exp => p.1 ++ [58, 32] ++ textE k p.2) (e.n.zip e.a) true = w_ ++ joinA (fun p : Str × Exp => p.1 ++ [58, 32] ++ textE k p.2) ((e.n.zip e.a).drop i.toNat) (i == 0)) (fun ⟨i, w_⟩ => e.a.length - i.toNat) (0, base ++ ([123] : List UInt8)) ⟨rfl, rfl⟩ ?_ ?_
   · try dsimp only
     exact ⟨by omega, by omega, rfl⟩
   rintro ⟨i, w_⟩ hI
   dsimp only at hI
   have hj := congrArg List.length hI.2.2
   simp only [List.length_append, List.length_cons, List.length_nil] at hj
   refine sq ?_
   refine an (fun h13 => ?_) (fun h13 => ?_)
   · refine sq ?_
     refine ixg expTop expIn_eq (by omega) ?_
     refine sq ?_
     refine an (fun h14 => ?_) (fun h14 => ?_)
     · have hst := joinA_1 (g := fun p : Str × Exp => p.1 ++ [58, 32] ++ textE k p.2) (l := e.n.zip e.a) hI.1 (by first | assumption | omega | (rw [List.length_zip]; omega)) (by omega)
       rw [gI_zip (by omega) (by omega) (by omega)] at hst
       have hsl := congrArg List.length hst
       simp only [List.length_append, List.length_cons, List.length_nil] at hsl
       refine callM [0] [.obj (.bld 112 5 ((w_ ++ ([44, 32] : List UInt8)).map byteAV))] (.av (.tuple [.int .i64 (([44, 32] : List UInt8).length : Int), .nilIface])) rfl (fun bs mm gd => u_WriteString (bs.getD 0 0) w_ ([44, 32] : List UInt8) (by first | omega | (simp only [List.length_append, List.length_cons, List.length_nil]; omega)) mm) ?_
       refine ix (by omega) ?_
       refine an (by (first | omega | (simp only [List.length_append, List.length_cons, List.length_nil]; omega))) ?_
       refine callM [0] [.obj (.bld 112 5 (((w_ ++ ([44, 32] : List UInt8)) ++ ((gI e.n i) ++ ([58, 32] : List UInt8))).map byteAV))] (.av (.tuple [.int .i64 (((gI e.n i) ++ ([58, 32] : List UInt8)).length : Int), .nilIface])) rfl (fun bs mm gd => u_WriteString (bs.getD 0 0) (w_ ++ ([44, 32] : List UInt8)) ((gI e.n i) ++ ([58, 32] : List UInt8)) (by first | omega | (simp only [List.length_append, List.length_cons, List.length_nil]; omega)) mm) ?_
       refine callT [0] [.obj (.bld 112 5 ((((w_ ++ ([44, 32] : List UInt8)) ++ ((gI e.n i) ++ ([58, 32] : List UInt8))) ++ textE k (gI e.a i)).map byteAV))] (.tup []) rfl (fun bs mm gd ht => ih (gI e.a i) ((w_ ++ ([44, 32] : List UInt8)) ++ ((gI e.n i) ++ ([58, 32] : List UInt8))) (by have := depE_mem (gI_mem (l := e.a) (i := i) (by omega) (by omega)); omega) (hka _ (gI_mem (by omega) (by omega))) (by first | omega | (simp only [List.length_append, List.length_cons, List.length_nil]; omega)) (bs.getD 0 0) mm gd (Tabs.up ht hT)) ?_
       refine an (by omega) ?_
       refine ⟨(i + 1, ((w_ ++ ([44, 32] : List UInt8)) ++ ((gI e.n i) ++ ([58, 32] : List UInt8))) ++ textE k (gI e.a i)), ⟨rfl, rfl⟩, ?_, ?_⟩
       · try dsimp only
         exact ⟨by omega, by omega, by rw [hI.2.2, hst]; simp only [List.append_assoc, List.nil_append]⟩
       try dsimp only
       omega
     have hst := joinA_0 (g := fun p : Str × Exp => p.1 ++ [58, 32] ++ textE k p.2) (l := e.n.zip e.a) hI.1 (by first | assumption | omega | (rw [List.length_zip]; omega)) (by omega)
     rw [gI_zip (by omega) (by omega) (by omega)] at hst
     have hsl := congrArg List.length hst
     simp only [List.length_append, List.length_cons, List.length_nil] at hsl
     refine ix (by omega) ?_
     refine an (by (first | omega | (simp only [List.length_append, List.length_cons, List.length_nil]; omega))) ?_
     refine callM [0] [.obj (.bld 112 5 ((w_ ++ ((gI e.n i) ++ ([58, 32] : List UInt8))).map byteAV))] (.av (.tuple [.int .i64 (((gI e.n i) ++ ([58, 32] : List UInt8)).length : Int), .nilIface])) rfl (fun bs mm gd => u_WriteString (bs.getD 0 0) w_ ((gI e.n i) ++ ([58, 32] : List UInt8)) (by first | omega | (simp only [List.length_append, List.length_cons, List.length_nil]; omega)) mm) ?_
     refine callT [0] [.obj (.bld 112 5 (((w_ ++ ((gI e.n i) ++ ([58, 32] : List UInt8))) ++ textE k (gI e.a i)).map byteAV))] (.tup []) rfl (fun bs mm gd ht => ih (gI e.a i) (w_ ++ ((gI e.n i) ++ ([58, 32] : List UInt8))) (by have := depE_mem (gI_mem (l := e.a) (i := i) (by omega) (by omega)); omega) (hka _ (gI_mem (by omega) (by omega))) (by first | omega | (simp only [List.length_append, List.length_cons, List.length_nil]; omega)) (bs.getD 0 0) mm gd (Tabs.up ht hT)) ?_
     refine an (by omega) ?_
     refine ⟨(i + 1, (w_ ++ ((gI e.n i) ++ ([58, 32] : List UInt8))) ++ textE k (gI e.a i)), ⟨rfl, rfl⟩, ?_, ?_⟩
     · try dsimp only
       exact ⟨by omega, by omega, by rw [hI.2.2, hst]; simp only [List.append_assoc, List.nil_append]⟩
     try dsimp only
     omega
   refine callM [0] [.obj (.bld 112 5 ((w_ ++ ([125] : List UInt8)).map byteAV))] (.av (.tuple [.int .i64 (([125] : List UInt8).length : Int), .nilIface])) rfl (fun bs mm gd => u_WriteString (bs.getD 0 0) w_ ([125] : List UInt8) (by first | omega | (simp only [List.length_append, List.length_cons, List.length_nil]; omega)) mm) ?_
   refine rt rfl fun _ => ?_
   show K (.tuple []) (AMem.wth m [(b, .bld 112 5 ((w_ ++ ([125] : List UInt8)).map byteAV))])
   have e2 : base ++ ([123] ++ joinA (fun p : Str × Exp => p.1 ++ [58, 32] ++ textE k p.2) (e.n.zip e.a) true ++ [125]) = w_ ++ [125] := by
     have := hI.2.2
     rw [joinA_end (by omega), List.append_nil] at this
     rw [← this]; simp only [List.append_assoc]
   rw [e2] at hK; exact hK
 refine an (fun h15 => ?_) (fun h15 => ?_)
 · have hx : textE (k + 1) e = [103, 101, 116, 32] ++ textE k (gI e.a 0) ++ [32] ++ e.s := by rw [textE_x, if_neg (by omega), if_neg (by omega), if_neg (by omega), if_neg (by omega), if_neg (by omega), if_neg (by omega), if_neg (by omega), if_neg (by omega), if_pos (by omega)]
   rw [hx] at hL hK
   try simp only [List.length_append, List.length_cons, List.length_nil] at hL
   have hl5 := n10 h15
   refine callM [0] [.obj (.bld 112 5 ((base ++ ([103, 101, 116, 32] : List UInt8)).map byteAV))] (.av (.tuple [.int .i64 (([103, 101, 116, 32] : List UInt8).length : Int), .nilIface])) rfl (fun bs mm gd => u_WriteString (bs.getD 0 0) base ([103, 101, 116, 32] : List UInt8) (by first | omega | (simp only [List.length_append, List.length_cons, List.length_nil]; omega)) mm) ?_
   refine ixg expTop expIn_eq (by omega) ?_
   refine callT [0] [.obj (.bld 112 5 (((base ++ ([103, 101, 116, 32] : List UInt8)) ++ textE k (gI e.a 0)).map byteAV))] (.tup []) rfl (fun bs mm gd ht => ih (gI e.a 0) (base ++ ([103, 101, 116, 32] : List UInt8)) (by have := depE_mem (gI_mem (l := e.a) (i := 0) (by omega) (by omega)); omega) (hka _ (gI_mem (by omega) (by omega))) (by first | omega | (simp only [List.length_append, List.length_cons, List.length_nil]; omega)) (bs.getD 0 0) mm gd (Tabs.up ht hT)) ?_
   refine an (by (first | omega | (simp only [List.length_append, List.length_cons, List.length_nil]; omega))) ?_
   refine callM [0] [.obj (.bld 112 5 ((((base ++ ([103, 101, 116, 32] : List UInt8)) ++ textE k (gI e.a 0)) ++ (([32] : List UInt8) ++ e.s)).map byteAV))] (.av (.tuple [.int .i64 ((([32] : List UInt8) ++ e.s).length : Int), .nilIface])) rfl (fun bs mm gd => u_WriteString (bs.getD 0 0) ((base ++ ([103, 101, 116, 32] : List UInt8)) ++ textE k (gI e.a 0)) (([32] : List UInt8) ++ e.s) (by first | omega | (simp only [List.length_append, List.length_cons, List.length_nil]; omega)) mm) ?_
   refine rt rfl fun _ => ?_
   show K (.tuple []) (AMem.wth m [(b, .bld 112 5 ((((base ++ ([103, 101, 116, 32] : List UInt8)) ++ textE k (gI e.a 0)) ++ (([32] : List UInt8) ++ e.s)).map byteAV))])
   try simp only [List.append_assoc] at hK ⊢
   exact hK
 exfalso
 omega
theorem u_lwrite : ∀ (k : Nat) (e : Exp) (base : Str), depE e < k → fmE e → base.length + (textE k e).length ≤ 140737488355328 → ∀ (b : Nat) (m : AMem), Gd [b] m → Tabs m → ∀ (K : AV → AMem → Prop), K (.tuple []) (AMem.wth m [(b, .bld 112 5 ((base ++ textE k e).map byteAV))]) → ACalls Tryz.prog 57 [.ptr ⟨b, 0, none⟩, expTop e] (AMem.wth m [(b, .bld 112 5 (base.map byteAV))]) K
  | 0, _, _, h => absurd h (Nat.not_lt_zero _)
  | k + 1, e, base, h => fun hf hL b m gd hT K hK => u_lwrite1 k e base b (u_lwrite k) h hf hL m gd K hT hK
theorem u_LText (e : Exp)  (m : AMem)  (K : AV → AMem → Prop) (hT : Tabs m) (hK : K (.tuple [.str (if exF e = 0 then textX e else []), .err 115 (exF e)]) m) : ACalls Tryz.prog 12 [expTop e] m K := by
 refine enter (c := cf [] [] [] [] [] []) (vs := [.av (expTop e)]) (L := []) (m := m) true tbOk Tryz.mixed Tryz.func12 rfl (k := 1) (by show fnOk [] _ _ _ = true; decide +kernel) rfl (Good.nil m) ?_
 refine call0 (fun _ => u_LCheck e) rfl ?_
 refine sq ?_
 refine an (fun h1 => ?_) (fun h1 => ?_)
 · rw [if_pos h1, h1] at hK
   refine nb (eb := 5) bldInfo.choose_spec.1 bldInfo.choose_spec.2 rfl ?_
   refine callT [1] [.obj (.bld 112 5 ((([] : Str) ++ textE (depE e + 1) e).map byteAV))] (.tup []) rfl (fun bs mm gd ht => u_lwrite (depE e + 1) e ([] : Str) (Nat.lt_succ_self _) (exF_0 (by assumption)).1 (by have := textX_len (e := e) (by assumption); unfold textX at this; simp only [List.length_nil]; omega) (bs.getD 1 0) mm gd (Tabs.up ht hT)) ?_
   refine callM [1] [.cells [.av (.junk), .av (.junk)]] (vS (([] : Str) ++ textE (depE e + 1) e)) rfl (fun bs mm gd => u_String (bs.getD 1 0) (([] : Str) ++ textE (depE e + 1) e) mm) ?_
   refine rt0 rfl fun _ => ?_
   show K (.tuple [.str (([] : Str) ++ textE (depE e + 1) e), .err 115 0]) m
   exact hK
 rw [if_neg h1] at hK
 refine rt0 rfl fun _ => ?_
 show K (.tuple [.str ([]), .err 115 (exF e)]) m
 exact hK
end Go.Proofs
end
section
namespace Go.Proofs
open Go Go.Aw Go.Sx
set_option maxRecDepth 100000
structure Gr {α : Type} (w : α → Nat) (p : PR α) (a : Int) : Prop where
  h : p.f = 0 → 4 * a + (w p.x : Int) ≤ 4 * p.a
  n : 0 ≤ p.f
section
variable {α β : Type} {u : α → Nat} {w : β → Nat} {a b : Int}
theorem Gr.no [Inhabited α] {f s : Int} (h : 0 < f) : Gr u (.bad f s : PR α) a := ⟨fun e => absurd (show f = 0 from e) (by omega), show 0 ≤ f by omega⟩
theorem Gr.yes {x : α} (h : 4 * a + (u x : Int) ≤ 4 * b) : Gr u (.ok x b) a := ⟨fun _ => h, Int.le_refl _⟩
theorem Gr.bind [Inhabited β] {p : PR α} {g : α → Int → PR β} (h : Gr u p b) (h2 : ∀ x a1, 4 * b + (u x : Int) ≤ 4 * a1 → Gr w (g x a1) a) : Gr w (p.bind g) a := by
  rw [PR.bind]
  split
  · exact h2 _ _ (h.h (by assumption))
  · rename_i hz; exact Gr.no (by have := h.n; omega)
end
theorem gr_want (l : List Tok) (n k : Int) (s : Str) (a : Int) : Gr (fun _ => 4) (wantP l n k s a) a := by
  rw [wantP]; split
  · exact Gr.yes (by simp; omega)
  · exact Gr.no (by decide)
theorem gr_pair (l : List Tok) (n a : Int) : Gr (fun _ => 4) (pairP l n a) a := by
  rw [pairP]
  refine (gr_want ..).bind fun _ a1 h1 => (gr_want ..).bind fun _ a2 h2 => (gr_want ..).bind fun _ a3 h3 => (gr_want ..).bind fun _ a4 h4 => Gr.yes ?_
  omega
theorem szL_app (x y : List Exp) : szL (x ++ y) = szL x + szL y := by
  induction x with
  | nil => simp [szL]
  | cons a r ih => simp only [List.cons_append, szL, ih]; omega
theorem depV_z : depV zV = 1 := by simp [zV, depV, depL, depF]
theorem szE_lit (k n : Int) (s : Str) : szE (litE (.mk k n s [] [])) = 2 := by simp [litE, szE, szL, depV, depL, depF]
section
variable {f : Int → PR Exp} (hf : ∀ a, Gr szE (f a) a) (l : List Tok) (n : Int)
include hf
theorem gr_between (a c : Int) (hc : c + 1 ≤ a) : Gr szE (betweenP f l n a) c := by
  rw [betweenP]
  refine (hf a).bind fun x a1 h1 => ?_
  split
  · refine (hf _).bind fun y a2 h2 => (gr_want ..).bind fun _ a3 h3 => Gr.yes ?_
    simp only [szE, szL, depV_z, List.length_nil] at h3 ⊢; omega
  split
  · refine (hf _).bind fun y a2 h2 => (gr_want ..).bind fun _ a3 h3 => Gr.yes ?_
    simp only [szE, szL, depV_z, List.length_nil] at h3 ⊢; omega
  split
  · refine (hf _).bind fun y a2 h2 => (gr_want ..).bind fun _ a3 h3 => (hf _).bind fun z a4 h4 => (gr_want ..).bind fun _ a5 h5 => Gr.yes ?_
    simp only [szE, szL, depV_z, List.length_nil] at h3 h5 ⊢; omega
  · exact Gr.no (by decide)
omit hf in
theorem gr_sep {xs : List Exp} {a c : Int} {g : Int → PR Exp} (hg : ∀ b, a ≤ b → Gr szE (g b) c) : Gr szE (sepP l n xs a g) c := by
  rw [sepP]; split
  · exact hg _ (Int.le_refl _)
  · exact (gr_want ..).bind fun _ a1 h1 => hg _ (by omega)
theorem gr_list : ∀ (k : Nat) (a : Int) (xs : List Exp) (c : Int), 4 * c + (szL xs : Int) + 2 ≤ 4 * a → Gr szE (listP f l n k a xs) c
  | 0, _, _, _, _ => Gr.no (by decide)
  | k + 1, a, xs, c, hc => by
    rw [listP]; split
    · refine Gr.yes ?_
      simp only [szE, depV_z, List.length_nil]; omega
    · refine gr_sep l n fun b hb => (hf _).bind fun x a1 h1 => gr_list k _ _ _ ?_
      rw [szL_app]; simp only [szL]; omega
theorem gr_rec : ∀ (k : Nat) (a : Int) (ns : List Str) (xs : List Exp) (c : Int), 4 * c + (szL xs : Int) + (ns.length : Int) + 2 ≤ 4 * a → Gr szE (recP f l n k a ns xs) c
  | 0, _, _, _, _, _ => Gr.no (by decide)
  | k + 1, a, ns, xs, c, hc => by
    rw [recP]; split
    · refine Gr.yes ?_
      simp only [szE, depV_z]; omega
    · refine gr_sep l n fun b hb => (gr_want ..).bind fun _ a1 h1 => ?_
      split
      · exact Gr.no (by decide)
      · refine (gr_want ..).bind fun _ a2 h2 => (hf _).bind fun x a3 h3 => gr_rec k _ _ _ _ ?_
        rw [szL_app]; simp only [szL, List.length_append, List.length_cons, List.length_nil]; omega
theorem gr_word (a : Int) : Gr szE (wordP f l n a) a := by
  rw [wordP]
  split
  · exact Gr.yes (by first | (rw [szE_lit]; omega) | (have := szE_lit 0 0 []; simp only [zV]; omega))
  split
  · exact Gr.yes (by first | (rw [szE_lit]; omega) | (have := szE_lit 0 0 []; simp only [zV]; omega))
  split
  · exact Gr.yes (by first | (rw [szE_lit]; omega) | (have := szE_lit 0 0 []; simp only [zV]; omega))
  split
  · exact (gr_want ..).bind fun _ a1 h1 => (gr_want ..).bind fun _ a2 h2 => Gr.yes (by simp only [szE, szL, depV_z, List.length_nil]; omega)
  split
  · exact (gr_pair ..).bind fun _ a1 h1 => Gr.yes (by simp only [szE, szL, depV_z, List.length_nil]; omega)
  split
  · exact (gr_pair ..).bind fun _ a1 h1 => Gr.yes (by simp only [szE, szL, depV_z, List.length_nil]; omega)
  split
  · exact (hf _).bind fun _ a1 h1 => (gr_want ..).bind fun _ a2 h2 => Gr.yes (by simp only [szE, szL, depV_z, List.length_nil]; omega)
  · exact Gr.no (by decide)
end
theorem gr_num (l : List Tok) (n sg a : Int) : Gr szE (numP l n sg a) a := by
  rw [numP]
  split
  · split
    · exact Gr.no (by decide)
    · exact Gr.yes (by first | (rw [szE_lit]; omega) | (have := szE_lit 0 0 []; simp only [zV]; omega))
  · exact Gr.no (by decide)
theorem Gr.from {p : PR Exp} {a b : Int} (h : Gr szE p a) (hb : b ≤ a) : Gr szE p b := ⟨fun z => by have := h.h z; omega, h.n⟩
theorem gr_expr (l : List Tok) (n : Int) : ∀ (k : Nat) (a : Int), Gr szE (exprP l n k a) a
  | 0, _ => Gr.no (by decide)
  | k + 1, a => by
    have ih := gr_expr l n k
    rw [exprP]
    split
    · exact gr_between ih l n _ _ (Int.le_refl _)
    split
    · exact gr_list ih l n _ _ _ _ (by simp [szL]; omega)
    split
    · exact gr_rec ih l n _ _ _ _ _ (by simp [szL]; omega)
    split
    · exact (gr_num ..).from (by omega)
    split
    · exact gr_num ..
    split
    · exact Gr.yes (by first | (rw [szE_lit]; omega) | (have := szE_lit 0 0 []; simp only [zV]; omega))
    · exact gr_word ih l n a
noncomputable def wholeP (l : List Tok) (n a : Int) : PR Exp := (exprP l n 6 a).bind fun x a' => if exF x = 0 then .ok x a' else .bad (exF x) (hereP l n a)
noncomputable def parseP (s : Str) : Exp × Int × Int :=
  if (tokR s).2.2 = 0 then (if (wholeP (tokR s).1 s.length 0).f = 0 then (if (wholeP (tokR s).1 s.length 0).a < (tokR s).1.length then (zE, hereP (tokR s).1 s.length (wholeP (tokR s).1 s.length 0).a, 5) else ((wholeP (tokR s).1 s.length 0).x, 0, 0)) else (zE, (wholeP (tokR s).1 s.length 0).p, (wholeP (tokR s).1 s.length 0).f)) else (zE, (tokR s).2.1, (tokR s).2.2)
section
variable {l : List Tok} {n a e q a1 e1 q1 : Int} {x : Exp}
theorem OX.sz (o : OX l (exprP l n 6 a) x a e q a1 e1 q1) (he : e = 0) (hz : e1 = 0) (hl : l.length ≤ 5000) (h0 : 0 ≤ a) : szE x ≤ 1000000000 := by
  have h := o.ok he
  obtain ⟨rfl, rfl⟩ := h.y hz
  have := (gr_expr l n 6 a).h (h.f ▸ hz)
  have := o.hi
  omega
theorem OX.whole_y (o : OX l (exprP l n 6 a) x a e q a1 e1 q1) (h : e1 = 0 → exF x = 0) : OX l (wholeP l n a) x a e q a1 e1 q1 := by
  refine ⟨fun he => ?_, o.st, o.lo, o.hi, o.nn, o.gt⟩
  have h1 := o.ok he
  by_cases hz : e1 = 0
  · obtain ⟨rfl, rfl⟩ := h1.y hz
    rw [wholeP, PR.bind, if_pos (by rw [← h1.f]; exact hz), if_pos (h hz)]
    exact ⟨hz, fun _ => ⟨rfl, rfl⟩, fun h => absurd hz h⟩
  · rw [wholeP, PR.bind, if_neg (by rw [← h1.f]; exact hz)]
    exact ⟨h1.f, fun h => absurd h hz, fun _ => h1.z hz⟩
theorem OX.whole_n (o : OX l (exprP l n 6 a) x a e q a1 e1 q1) (he : e = 0) (hz : e1 = 0) (h : exF x ≠ 0) : OX l (wholeP l n a) x a e q a1 (exF x) (hereP l n a) := by
  refine ⟨fun he => ?_, fun h => absurd he h, o.lo, o.hi, exF_nn x, fun hh => absurd hh h⟩
  have h1 := o.ok he
  obtain ⟨rfl, rfl⟩ := h1.y hz
  rw [wholeP, PR.bind, if_pos (by rw [← h1.f]; exact hz), if_neg h]
  exact ⟨rfl, fun hh => absurd hh h, fun _ => rfl⟩
end
theorem parse_end {s : Str} {l : List Tok} {x : Exp} {a1 e1 q1 : Int} (hl0 : (tokR s).1 = l) (ht : (tokR s).2.2 = 0) (o : OX l (wholeP l s.length 0) x 0 0 0 a1 e1 q1) :
    parseP s = if e1 = 0 then (if a1 < l.length then (zE, hereP l s.length a1, 5) else (x, 0, 0)) else (zE, q1, e1) := by
  subst hl0
  have h := o.ok rfl
  rw [parseP, if_pos ht, ← h.f]
  split
  · rename_i hz
    obtain ⟨rfl, rfl⟩ := h.y hz
    rfl
  · rw [← h.z (by assumption)]
set_option maxHeartbeats 2000000 in
theorem u_whole1 (l : List Tok) (n a e q : Int) (k : Nat) (r : Nat) (ih : ∀ a e q d : Int, d = 7 - (k : Int) → 0 ≤ a → a ≤ l.length → 0 ≤ e → ∀ (r : Nat) (m : AMem), Gd [r] m → Tabs m → ∀ (K : AV → AMem → Prop), (∀ x' a' e' q', OX l (exprP l n k a) x' a e q a' e' q' → K (expTop x') (AMem.wth m [(r, .cells [.slice false (l.map tokAV), .int .i64 a', .int .i64 n, .err 115 e', .int .i64 q'])])) → ACalls Tryz.prog 127 [.ptr ⟨r, 0, none⟩, .int .i64 d] (AMem.wth m [(r, .cells [.slice false (l.map tokAV), .int .i64 a, .int .i64 n, .err 115 e, .int .i64 q])]) K) (hl : l.length ≤ 5000) (h0 : 0 ≤ a) (ha : a ≤ l.length) (he : 0 ≤ e) (hk : k = 6) (hz : e = 0) (m : AMem) (gd : Gd [r] m) (K : AV → AMem → Prop) (hT : Tabs m) (hK : ∀ x' a' e' q', OX l (wholeP l n a) x' a e q a' e' q' → K (expTop x') (AMem.wth m [(r, .cells [.slice false (l.map tokAV), .int .i64 a', .int .i64 n, .err 115 e', .int .i64 q'])])) : ACalls Tryz.prog 65 [.ptr ⟨r, 0, none⟩] (AMem.wth m [(r, .cells [.slice false (l.map tokAV), .int .i64 a, .int .i64 n, .err 115 e, .int .i64 q])]) K := by
 refine enter (c := cf [] [] [3] [] [] [r]) (vs := [.loc 0 0]) (L := [rP l n a e q]) (m := m) false tbOk Tryz.mixed Tryz.func65 rfl (k := 1) (by show fnOk [] _ _ _ = true; decide +kernel) rfl (gd.good rfl) ?_
 refine callM [0] [rP l n a e q] (vI (hereP l n a)) rfl (fun bs mm gd => u_here l n a e q (bs.getD 0 0) hl (by omega) (by omega) mm gd) ?_
 refine callY 115 [0] (σ := Exp × Int × Int × Int) (fun ⟨x_1, a_1, e_1, q_1⟩ => OX l (exprP l n k a) x_1 a e q a_1 e_1 q_1) (fun ⟨x_1, a_1, e_1, q_1⟩ => xS x_1) (fun ⟨x_1, a_1, e_1, q_1⟩ => [rP l n a_1 e_1 q_1]) rfl (fun _ => rfl) (fun bs mm gd ht K hK => ih a e q 1 (by omega) (by omega) (by omega) (by omega) (bs.getD 0 0) mm gd (Tabs.up ht hT) K (fun x_ a_ e_ q_ hh => hK (x_, a_, e_, q_) hh)) ?_
 rintro ⟨x_1, a_1, e_1, q_1⟩ hx1
 dsimp only at hx1
 have lo1 := hx1.lo
 have hi1 := hx1.hi
 have nn1 := hx1.nn
 refine sq ?_
 refine mg [0, 2, 3, 4] 18 ((e_1 == 0) && (!((exF x_1) == 0))) ?_ ?_
 · repeat' first
    | exact ⟨⟨_, rfl, by grind [SB.val]⟩, rfl⟩
    | refine an (fun _ => ?_) (fun _ => ?_)
    | refine call0 (fun _ => u_LCheck x_1) rfl ?_
 refine an (fun h1 => ?_) (fun h1 => ?_)
 · replace h1 : (e_1 = 0) ∧ (exF x_1 ≠ 0) := ⟨(eq_of_beq (bandL h1)), (ne_of_beq_false (bnT (bandR h1)))⟩
   refine call0 (fun _ => u_LCheck x_1) rfl ?_
   refine rt rfl fun _ => ?_
   show K (.agg [.int .i64 x_1.kind, .int .i64 x_1.v.kind, .int .i64 x_1.v.n, .str x_1.v.s, .slice false (x_1.v.l.map valIn), .slice false (x_1.v.f.map fldIn), .str x_1.s, .str x_1.t, .slice false (x_1.a.map expIn), .slice false (x_1.n.map strAV)]) (AMem.wth m [(r, .cells [.slice false (l.map tokAV), .int .i64 a_1, .int .i64 n, .err 115 (exF x_1), .int .i64 (hereP l n a)])])
   subst hk
   exact hK _ _ _ _ (hx1.whole_n hz h1.1 h1.2)
 replace h1 : (e_1 ≠ 0) ∨ (exF x_1 = 0) := ((bandF h1).imp (fun q => (ne_of_beq_false q)) (fun q => (eq_of_beq (bnF q))))
 refine rt rfl fun _ => ?_
 show K (.agg [.int .i64 x_1.kind, .int .i64 x_1.v.kind, .int .i64 x_1.v.n, .str x_1.v.s, .slice false (x_1.v.l.map valIn), .slice false (x_1.v.f.map fldIn), .str x_1.s, .str x_1.t, .slice false (x_1.a.map expIn), .slice false (x_1.n.map strAV)]) (AMem.wth m [(r, .cells [.slice false (l.map tokAV), .int .i64 a_1, .int .i64 n, .err 115 e_1, .int .i64 q_1])])
 subst hk
 exact hK _ _ _ _ (hx1.whole_y fun hq => h1.resolve_left (fun hn => hn hq))
set_option maxHeartbeats 2000000 in
theorem u_Whole1 (l : List Tok) (n a e q : Int) (k : Nat) (r : Nat) (ih : ∀ a e q d : Int, d = 7 - (k : Int) → 0 ≤ a → a ≤ l.length → 0 ≤ e → ∀ (r : Nat) (m : AMem), Gd [r] m → ∀ (K : AV → AMem → Prop), (∀ x' a' e' q', OX l (exprP l n k a) x' a e q a' e' q' → K (expTop x') (AMem.wth m [(r, .cells [.slice false (l.map tokAV), .int .i64 a', .int .i64 n, .int .i64 e', .int .i64 q'])])) → ACalls Tryz.prog 130 [.ptr ⟨r, 0, none⟩, .int .i64 d] (AMem.wth m [(r, .cells [.slice false (l.map tokAV), .int .i64 a, .int .i64 n, .int .i64 e, .int .i64 q])]) K) (hl : l.length ≤ 5000) (h0 : 0 ≤ a) (ha : a ≤ l.length) (he : 0 ≤ e) (hk : k = 6) (hz : e = 0) (m : AMem) (gd : Gd [r] m) (K : AV → AMem → Prop) (hK : ∀ x' a' e' q', OX l (wholeP l n a) x' a e q a' e' q' → K (expTop x') (AMem.wth m [(r, .cells [.slice false (l.map tokAV), .int .i64 a', .int .i64 n, .int .i64 e', .int .i64 q'])])) : ACalls Tryz.prog 68 [.ptr ⟨r, 0, none⟩] (AMem.wth m [(r, .cells [.slice false (l.map tokAV), .int .i64 a, .int .i64 n, .int .i64 e, .int .i64 q])]) K := by
 refine enter (c := cf [] [] [] [] [] [r]) (vs := [.loc 0 0]) (L := [rD l n a e q]) (m := m) false tbOk Tryz.mixed Tryz.func68 rfl (k := 1) (by show fnOk [] _ _ _ = true; decide +kernel) rfl (gd.good rfl) ?_
 refine callM [0] [rD l n a e q] (vI (hereP l n a)) rfl (fun bs mm gd => u_Here l n a e q (bs.getD 0 0) hl (by omega) (by omega) mm gd) ?_
 refine callY 115 [0] (σ := Exp × Int × Int × Int) (fun ⟨x_1, a_1, e_1, q_1⟩ => OX l (exprP l n k a) x_1 a e q a_1 e_1 q_1) (fun ⟨x_1, a_1, e_1, q_1⟩ => xS x_1) (fun ⟨x_1, a_1, e_1, q_1⟩ => [rD l n a_1 e_1 q_1]) rfl (fun _ => rfl) (fun bs mm gd ht K hK => ih a e q 1 (by omega) (by omega) (by omega) (by omega) (bs.getD 0 0) mm gd K (fun x_ a_ e_ q_ hh => hK (x_, a_, e_, q_) hh)) ?_
 rintro ⟨x_1, a_1, e_1, q_1⟩ hx1
 dsimp only at hx1
 have lo1 := hx1.lo
 have hi1 := hx1.hi
 have nn1 := hx1.nn
 refine sq ?_
 refine an (fun h1 => ?_) (fun h1 => ?_)
 · refine call0 (fun _ => u_ExprFault x_1 (by subst hk; exact hx1.sz hz (by assumption) hl h0)) rfl ?_
   refine an (fun h2 => ?_) (fun h2 => ?_)
   · refine rt rfl fun _ => ?_
     show K (.agg [.int .i64 x_1.kind, .int .i64 x_1.v.kind, .int .i64 x_1.v.n, .str x_1.v.s, .slice false (x_1.v.l.map valIn), .slice false (x_1.v.f.map fldIn), .str x_1.s, .str x_1.t, .slice false (x_1.a.map expIn), .slice false (x_1.n.map strAV)]) (AMem.wth m [(r, .cells [.slice false (l.map tokAV), .int .i64 a_1, .int .i64 n, .int .i64 (exF x_1), .int .i64 (hereP l n a)])])
     subst hk
     exact hK _ _ _ _ (hx1.whole_n hz h1 (by omega))
   refine rt rfl fun _ => ?_
   show K (.agg [.int .i64 x_1.kind, .int .i64 x_1.v.kind, .int .i64 x_1.v.n, .str x_1.v.s, .slice false (x_1.v.l.map valIn), .slice false (x_1.v.f.map fldIn), .str x_1.s, .str x_1.t, .slice false (x_1.a.map expIn), .slice false (x_1.n.map strAV)]) (AMem.wth m [(r, .cells [.slice false (l.map tokAV), .int .i64 a_1, .int .i64 n, .int .i64 e_1, .int .i64 q_1])])
   subst hk
   exact hK _ _ _ _ (hx1.whole_y fun _ => by have := exF_nn x_1; omega)
 refine rt rfl fun _ => ?_
 show K (.agg [.int .i64 x_1.kind, .int .i64 x_1.v.kind, .int .i64 x_1.v.n, .str x_1.v.s, .slice false (x_1.v.l.map valIn), .slice false (x_1.v.f.map fldIn), .str x_1.s, .str x_1.t, .slice false (x_1.a.map expIn), .slice false (x_1.n.map strAV)]) (AMem.wth m [(r, .cells [.slice false (l.map tokAV), .int .i64 a_1, .int .i64 n, .int .i64 e_1, .int .i64 q_1])])
 subst hk
 exact hK _ _ _ _ (hx1.whole_y fun hq => absurd hq h1)
set_option maxHeartbeats 2000000 in
theorem u_Parse1 (s : Str) (l : List Tok) (hs : s.length ≤ 16777216) (hl0 : (tokR s).1 = l) (m : AMem)  (K : AV → AMem → Prop) (hT : Tabs m) (hK : K (.tuple [expTop (parseP s).1, .int .i64 (parseP s).2.1, .err 115 (parseP s).2.2]) m) : ACalls Tryz.prog 18 [.str s] m K := by
 have hl : l.length ≤ 5000 := by rw [← hl0]; have := tokR_len s; omega
 have hnn := tokR_nn s
 refine enter (c := cf [] [] [6] [9999] [9] []) (vs := [.av (.str s)]) (L := []) (m := m) true tbOk Tryz.mixed Tryz.func18 rfl (k := 1) (by show fnOk [9999] _ _ _ = true; decide +kernel) rfl (Good.nil m) ?_
 refine call0 (fun _ => fun m K hK => u_Tokens s hs m K (by rw [hl0]; exact hK)) rfl ?_
 refine sq ?_
 refine an (fun h1 => ?_) (fun h1 => ?_)
 · refine callY 115 [1] (σ := Exp × Int × Int × Int) (fun ⟨x_1, a_1, e_1, q_1⟩ => OX l (wholeP l s.length 0) x_1 0 0 0 a_1 e_1 q_1) (fun ⟨x_1, a_1, e_1, q_1⟩ => xS x_1) (fun ⟨x_1, a_1, e_1, q_1⟩ => [rP l (s.length : Int) a_1 e_1 q_1]) rfl (fun _ => rfl) (fun bs mm gd ht K hK => u_whole1 l (s.length : Int) 0 0 0 6 (bs.getD 1 0) (u_expr l (s.length : Int) hl (by rw [← hl0]; exact tokR_ok s) 6 (by decide)) hl (by omega) (by omega) (by omega) rfl rfl mm gd K (Tabs.up ht hT) (fun x_ a_ e_ q_ hh => hK (x_, a_, e_, q_) hh)) ?_
   rintro ⟨x_1, a_1, e_1, q_1⟩ hx1
   dsimp only at hx1
   have lo1 := hx1.lo
   have hi1 := hx1.hi
   have nn1 := hx1.nn
   refine sq ?_
   refine mg [2, 8, 9] 44 ((e_1 == 0) && (decide (a_1 < (l.length : Int)))) ?_ ?_
   · repeat' first
      | exact ⟨⟨_, rfl, by grind [SB.val]⟩, rfl⟩
      | refine an (fun _ => ?_) (fun _ => ?_)
      | refine ln ?_
   refine an (fun h2 => ?_) (fun h2 => ?_)
   · replace h2 : (e_1 = 0) ∧ (a_1 < (l.length : Int)) := ⟨(eq_of_beq (bandL h2)), (of_decide_eq_true (bandR h2))⟩
     refine callY 115 [1] (σ := Int × Int) (fun ⟨e_2, q_2⟩ => (e_1 = 0 → e_2 = 5 ∧ q_2 = hereP l (s.length : Int) a_1) ∧ (e_1 ≠ 0 → e_2 = e_1 ∧ q_2 = q_1) ∧ 0 < e_2) (fun ⟨e_2, q_2⟩ => .tup []) (fun ⟨e_2, q_2⟩ => [rP l (s.length : Int) a_1 e_2 q_2]) rfl (fun _ => rfl) (fun bs mm gd ht K hK => u_fail l (s.length : Int) a_1 e_1 q_1 5 (bs.getD 1 0) (by decide) hl (by omega) (by omega) (by omega) mm gd K (fun z => hK (5, hereP l (s.length : Int) a_1) ⟨fun _ => ⟨rfl, rfl⟩, fun y => absurd z y, by decide⟩) (fun z => hK (e_1, q_1) ⟨fun y => absurd y z, fun _ => ⟨rfl, rfl⟩, by omega⟩)) ?_
     rintro ⟨e_2, q_2⟩ hx2
     dsimp only at hx2
     obtain ⟨fa2, fb2, fc2⟩ := hx2
     refine sq ?_
     refine an (fun h3 => ?_) (fun h3 => ?_)
     · refine rt0 rfl fun _ => ?_
       show K (.tuple [.agg [.int .i64 x_1.kind, .int .i64 x_1.v.kind, .int .i64 x_1.v.n, .str x_1.v.s, .slice false (x_1.v.l.map valIn), .slice false (x_1.v.f.map fldIn), .str x_1.s, .str x_1.t, .slice false (x_1.a.map expIn), .slice false (x_1.n.map strAV)], .int .i64 0, .err 115 0]) m
       exact absurd h3 (by omega)
     refine rgA tbOk Tryz.mixed (σ := Unit) (.f 1 (.f 2 (.f 3 (.f 5 (.f 6 (.f 7 (.o 0 (.o 4 (.o 8 (.s 9 (.s 10 (.s 11 .d))) (.o 9 (.o 8 (.s 10 (.s 11 .d)) (.o 10 (.s 8 (.s 11 .d)) .z)) .z)) (.o 8 (.o 4 (.s 9 (.s 10 (.s 11 .d))) (.o 9 (.s 4 (.s 10 (.s 11 .d))) .z)) (.o 9 (.o 4 (.o 8 (.s 10 (.s 11 .d)) (.o 10 (.s 8 (.s 11 .d)) .z)) (.o 8 (.s 4 (.s 10 (.s 11 .d))) .z)) .z))) (.o 4 (.o 0 (.o 8 (.s 9 (.s 10 (.s 11 .d))) (.o 9 (.o 8 (.s 10 (.s 11 .d)) (.o 10 (.s 8 (.s 11 .d)) .z)) .z)) (.o 8 (.s 0 (.s 9 (.s 10 (.s 11 .d)))) .z)) (.o 8 (.o 0 (.o 4 (.s 9 (.s 10 (.s 11 .d))) (.o 9 (.s 4 (.s 10 (.s 11 .d))) .z)) (.o 4 (.s 0 (.s 9 (.s 10 (.s 11 .d)))) .z)) .z))))))))) [] [2, 3, 4] 3 (fun _ => ([(2, .loc 0 0), (3, vI q_2), (4, .av (.err 115 e_2))], [.cells [vI 0, vI 0, vI 0, vS ([]), .own [], .own [], vS ([]), vS ([]), .own [], .own []], rP l (s.length : Int) a_1 e_2 q_2, .cells [vI x_1.kind, vI x_1.v.kind, vI x_1.v.n, vS x_1.v.s, vL (x_1.v.l.map valIn), vL (x_1.v.f.map fldIn), vS x_1.s, vS x_1.t, vL (x_1.a.map expIn), vL (x_1.n.map strAV)]], m)) (fun _ => True) (by decide +kernel) ?_ ?_
     · rintro _ hy9
       try dsimp only at hy9
       refine rt0 rfl fun _ => ?_
       show K (.tuple [.agg [.int .i64 0, .int .i64 0, .int .i64 0, .str ([]), .slice false [], .slice false [], .str ([]), .str ([]), .slice false [], .slice false []], .int .i64 q_2, .err 115 e_2]) m
       have e := parse_end hl0 (by omega) hx1
       obtain ⟨rfl, rfl⟩ := fa2 h2.1
       rw [if_pos h2.1, if_pos (by omega)] at e
       rw [e] at hK
       exact hK
     refine ⟨?_, ?_, ?_, trivial⟩
     · refine ⟨?_, ?_, ?_, trivial⟩
       · refine ⟨?_, ?_, trivial⟩
         · refine ⟨(), ⟨rfl, rfl⟩, ?_⟩
           trivial
         · refine ⟨?_, ?_, trivial⟩
           · refine ⟨(), ⟨rfl, rfl⟩, ?_⟩
             trivial
           · refine ⟨(), ⟨rfl, rfl⟩, ?_⟩
             trivial
       · refine ⟨?_, ?_, trivial⟩
         · refine ⟨(), ⟨rfl, rfl⟩, ?_⟩
           trivial
         · refine ⟨(), ⟨rfl, rfl⟩, ?_⟩
           trivial
       · refine ⟨?_, ?_, trivial⟩
         · refine ⟨?_, ?_, trivial⟩
           · refine ⟨(), ⟨rfl, rfl⟩, ?_⟩
             trivial
           · refine ⟨(), ⟨rfl, rfl⟩, ?_⟩
             trivial
         · refine ⟨(), ⟨rfl, rfl⟩, ?_⟩
           trivial
     · refine ⟨?_, ?_, trivial⟩
       · refine ⟨?_, ?_, trivial⟩
         · refine ⟨(), ⟨rfl, rfl⟩, ?_⟩
           trivial
         · refine ⟨?_, ?_, trivial⟩
           · refine ⟨(), ⟨rfl, rfl⟩, ?_⟩
             trivial
           · refine ⟨(), ⟨rfl, rfl⟩, ?_⟩
             trivial
       · refine ⟨(), ⟨rfl, rfl⟩, ?_⟩
         trivial
     · refine ⟨?_, ?_, trivial⟩
       · refine ⟨?_, ?_, trivial⟩
         · refine ⟨(), ⟨rfl, rfl⟩, ?_⟩
           trivial
         · refine ⟨(), ⟨rfl, rfl⟩, ?_⟩
           trivial
       · refine ⟨(), ⟨rfl, rfl⟩, ?_⟩
         trivial
   replace h2 : (e_1 ≠ 0) ∨ ((l.length : Int) ≤ a_1) := ((bandF h2).imp (fun q => (ne_of_beq_false q)) (fun q => (Int.not_lt.1 (of_decide_eq_false q))))
   refine sq ?_
   refine an (fun h4 => ?_) (fun h4 => ?_)
   · refine rt0 rfl fun _ => ?_
     show K (.tuple [.agg [.int .i64 x_1.kind, .int .i64 x_1.v.kind, .int .i64 x_1.v.n, .str x_1.v.s, .slice false (x_1.v.l.map valIn), .slice false (x_1.v.f.map fldIn), .str x_1.s, .str x_1.t, .slice false (x_1.a.map expIn), .slice false (x_1.n.map strAV)], .int .i64 0, .err 115 0]) m
     have e := parse_end hl0 (by omega) hx1
     rw [if_pos h4, if_neg (by omega)] at e
     rw [e] at hK
     exact hK
   refine rgA tbOk Tryz.mixed (σ := Unit) (.f 1 (.f 2 (.f 3 (.f 5 (.f 6 (.f 7 (.o 0 (.o 4 (.o 8 (.s 9 (.s 10 (.s 11 .d))) (.o 9 (.o 8 (.s 10 (.s 11 .d)) (.o 10 (.s 8 (.s 11 .d)) .z)) .z)) (.o 8 (.o 4 (.s 9 (.s 10 (.s 11 .d))) (.o 9 (.s 4 (.s 10 (.s 11 .d))) .z)) (.o 9 (.o 4 (.o 8 (.s 10 (.s 11 .d)) (.o 10 (.s 8 (.s 11 .d)) .z)) (.o 8 (.s 4 (.s 10 (.s 11 .d))) .z)) .z))) (.o 4 (.o 0 (.o 8 (.s 9 (.s 10 (.s 11 .d))) (.o 9 (.o 8 (.s 10 (.s 11 .d)) (.o 10 (.s 8 (.s 11 .d)) .z)) .z)) (.o 8 (.s 0 (.s 9 (.s 10 (.s 11 .d)))) .z)) (.o 8 (.o 0 (.o 4 (.s 9 (.s 10 (.s 11 .d))) (.o 9 (.s 4 (.s 10 (.s 11 .d))) .z)) (.o 4 (.s 0 (.s 9 (.s 10 (.s 11 .d)))) .z)) .z))))))))) [] [2, 3, 4] 3 (fun _ => ([(2, .loc 0 0), (3, vI q_1), (4, .av (.err 115 e_1))], [.cells [vI 0, vI 0, vI 0, vS ([]), .own [], .own [], vS ([]), vS ([]), .own [], .own []], rP l (s.length : Int) a_1 e_1 q_1, .cells [vI x_1.kind, vI x_1.v.kind, vI x_1.v.n, vS x_1.v.s, vL (x_1.v.l.map valIn), vL (x_1.v.f.map fldIn), vS x_1.s, vS x_1.t, vL (x_1.a.map expIn), vL (x_1.n.map strAV)]], m)) (fun _ => True) (by decide +kernel) ?_ ?_
   · rintro _ hy9
     try dsimp only at hy9
     refine rt0 rfl fun _ => ?_
     show K (.tuple [.agg [.int .i64 0, .int .i64 0, .int .i64 0, .str ([]), .slice false [], .slice false [], .str ([]), .str ([]), .slice false [], .slice false []], .int .i64 q_1, .err 115 e_1]) m
     have e := parse_end hl0 (by omega) hx1
     rw [if_neg h4] at e
     rw [e] at hK
     exact hK
   refine ⟨?_, ?_, ?_, trivial⟩
   · refine ⟨?_, ?_, ?_, trivial⟩
     · refine ⟨?_, ?_, trivial⟩
       · refine ⟨(), ⟨rfl, rfl⟩, ?_⟩
         trivial
       · refine ⟨?_, ?_, trivial⟩
         · refine ⟨(), ⟨rfl, rfl⟩, ?_⟩
           trivial
         · refine ⟨(), ⟨rfl, rfl⟩, ?_⟩
           trivial
     · refine ⟨?_, ?_, trivial⟩
       · refine ⟨(), ⟨rfl, rfl⟩, ?_⟩
         trivial
       · refine ⟨(), ⟨rfl, rfl⟩, ?_⟩
         trivial
     · refine ⟨?_, ?_, trivial⟩
       · refine ⟨?_, ?_, trivial⟩
         · refine ⟨(), ⟨rfl, rfl⟩, ?_⟩
           trivial
         · refine ⟨(), ⟨rfl, rfl⟩, ?_⟩
           trivial
       · refine ⟨(), ⟨rfl, rfl⟩, ?_⟩
         trivial
   · refine ⟨?_, ?_, trivial⟩
     · refine ⟨?_, ?_, trivial⟩
       · refine ⟨(), ⟨rfl, rfl⟩, ?_⟩
         trivial
       · refine ⟨?_, ?_, trivial⟩
         · refine ⟨(), ⟨rfl, rfl⟩, ?_⟩
           trivial
         · refine ⟨(), ⟨rfl, rfl⟩, ?_⟩
           trivial
     · refine ⟨(), ⟨rfl, rfl⟩, ?_⟩
       trivial
   · refine ⟨?_, ?_, trivial⟩
     · refine ⟨?_, ?_, trivial⟩
       · refine ⟨(), ⟨rfl, rfl⟩, ?_⟩
         trivial
       · refine ⟨(), ⟨rfl, rfl⟩, ?_⟩
         trivial
     · refine ⟨(), ⟨rfl, rfl⟩, ?_⟩
       trivial
 refine rt0 rfl fun _ => ?_
 show K (.tuple [.agg [.int .i64 0, .int .i64 0, .int .i64 0, .str ([]), .slice false [], .slice false [], .str ([]), .str ([]), .slice false [], .slice false []], .int .i64 ((tokR s).2.1), .err 115 ((tokR s).2.2)]) m
 have e : parseP s = (zE, (tokR s).2.1, (tokR s).2.2) := by rw [parseP, if_neg (by omega)]
 rw [e] at hK
 exact hK
set_option maxHeartbeats 2000000 in
theorem u_Parsed1 (s : Str) (l : List Tok) (hs : s.length ≤ 16777216) (hl0 : (tokR s).1 = l) (m : AMem)  (K : AV → AMem → Prop) (hK : K (.tuple [expTop (parseP s).1, .int .i64 (parseP s).2.1, .int .i64 (parseP s).2.2]) m) : ACalls Tryz.prog 19 [.str s] m K := by
 have hl : l.length ≤ 5000 := by rw [← hl0]; have := tokR_len s; omega
 have hnn := tokR_nn s
 refine enter (c := cf [] [] [] [9999] [9] []) (vs := [.av (.str s)]) (L := []) (m := m) false tbOk Tryz.mixed Tryz.func19 rfl (k := 1) (by show fnOk [9999] _ _ _ = true; decide +kernel) rfl (Good.nil m) ?_
 refine call0 (fun _ => fun m K hK => u_refTokens s hs m K (by rw [hl0]; exact hK)) rfl ?_
 refine sq ?_
 refine an (fun h1 => ?_) (fun h1 => ?_)
 · refine rt0 rfl fun _ => ?_
   show K (.tuple [.agg [.int .i64 0, .int .i64 0, .int .i64 0, .str ([]), .slice false [], .slice false [], .str ([]), .str ([]), .slice false [], .slice false []], .int .i64 ((tokR s).2.1), .int .i64 ((tokR s).2.2)]) m
   have e : parseP s = (zE, (tokR s).2.1, (tokR s).2.2) := by rw [parseP, if_neg (by omega)]
   rw [e] at hK
   exact hK
 refine callY 115 [1] (σ := Exp × Int × Int × Int) (fun ⟨x_1, a_1, e_1, q_1⟩ => OX l (wholeP l s.length 0) x_1 0 0 0 a_1 e_1 q_1) (fun ⟨x_1, a_1, e_1, q_1⟩ => xS x_1) (fun ⟨x_1, a_1, e_1, q_1⟩ => [rD l (s.length : Int) a_1 e_1 q_1]) rfl (fun _ => rfl) (fun bs mm gd ht K hK => u_Whole1 l (s.length : Int) 0 0 0 6 (bs.getD 1 0) (u_DExpr l (s.length : Int) hl (by rw [← hl0]; exact tokR_ok s) 6 (by decide)) hl (by omega) (by omega) (by omega) rfl rfl mm gd K (fun x_ a_ e_ q_ hh => hK (x_, a_, e_, q_) hh)) ?_
 rintro ⟨x_1, a_1, e_1, q_1⟩ hx1
 dsimp only at hx1
 have lo1 := hx1.lo
 have hi1 := hx1.hi
 have nn1 := hx1.nn
 refine sq ?_
 refine ln ?_
 refine an (fun h2 => ?_) (fun h2 => ?_)
 · refine callY 115 [1] (σ := Int × Int) (fun ⟨e_2, q_2⟩ => (e_1 = 0 → e_2 = 5 ∧ q_2 = hereP l (s.length : Int) a_1) ∧ (e_1 ≠ 0 → e_2 = e_1 ∧ q_2 = q_1) ∧ 0 < e_2) (fun ⟨e_2, q_2⟩ => .tup []) (fun ⟨e_2, q_2⟩ => [rD l (s.length : Int) a_1 e_2 q_2]) rfl (fun _ => rfl) (fun bs mm gd ht K hK => u_Fail l (s.length : Int) a_1 e_1 q_1 5 (bs.getD 1 0) (by decide) hl (by omega) (by omega) (by omega) mm gd K (fun z => hK (5, hereP l (s.length : Int) a_1) ⟨fun _ => ⟨rfl, rfl⟩, fun y => absurd z y, by decide⟩) (fun z => hK (e_1, q_1) ⟨fun y => absurd y z, fun _ => ⟨rfl, rfl⟩, by omega⟩)) ?_
   rintro ⟨e_2, q_2⟩ hx2
   dsimp only at hx2
   obtain ⟨fa2, fb2, fc2⟩ := hx2
   refine sq ?_
   refine an (fun h3 => ?_) (fun h3 => ?_)
   · refine rgA tbOk Tryz.mixed (σ := Unit) (.f 1 (.f 2 (.f 3 (.f 5 (.f 6 (.f 7 (.o 0 (.o 4 (.o 8 (.s 9 (.s 10 (.s 11 .d))) (.o 9 (.o 8 (.s 10 (.s 11 .d)) (.o 10 (.s 8 (.s 11 .d)) .z)) .z)) (.o 8 (.o 4 (.s 9 (.s 10 (.s 11 .d))) (.o 9 (.s 4 (.s 10 (.s 11 .d))) .z)) (.o 9 (.o 4 (.o 8 (.s 10 (.s 11 .d)) (.o 10 (.s 8 (.s 11 .d)) .z)) (.o 8 (.s 4 (.s 10 (.s 11 .d))) .z)) .z))) (.o 4 (.o 0 (.o 8 (.s 9 (.s 10 (.s 11 .d))) (.o 9 (.o 8 (.s 10 (.s 11 .d)) (.o 10 (.s 8 (.s 11 .d)) .z)) .z)) (.o 8 (.s 0 (.s 9 (.s 10 (.s 11 .d)))) .z)) (.o 8 (.o 0 (.o 4 (.s 9 (.s 10 (.s 11 .d))) (.o 9 (.s 4 (.s 10 (.s 11 .d))) .z)) (.o 4 (.s 0 (.s 9 (.s 10 (.s 11 .d)))) .z)) .z))))))))) [] [2, 3, 4] 3 (fun _ => ([(2, .loc 0 0), (3, vI q_2), (4, vI e_2)], [.cells [vI 0, vI 0, vI 0, vS ([]), .own [], .own [], vS ([]), vS ([]), .own [], .own []], rD l (s.length : Int) a_1 e_2 q_2, .cells [vI x_1.kind, vI x_1.v.kind, vI x_1.v.n, vS x_1.v.s, vL (x_1.v.l.map valIn), vL (x_1.v.f.map fldIn), vS x_1.s, vS x_1.t, vL (x_1.a.map expIn), vL (x_1.n.map strAV)]], m)) (fun _ => True) (by decide +kernel) ?_ ?_
     · rintro _ hy9
       try dsimp only at hy9
       refine rt0 rfl fun _ => ?_
       show K (.tuple [.agg [.int .i64 0, .int .i64 0, .int .i64 0, .str ([]), .slice false [], .slice false [], .str ([]), .str ([]), .slice false [], .slice false []], .int .i64 q_2, .int .i64 e_2]) m
       by_cases hz : e_1 = 0
       · have e := parse_end hl0 (by omega) hx1
         obtain ⟨rfl, rfl⟩ := fa2 hz
         rw [if_pos hz, if_pos (by omega)] at e
         rw [e] at hK
         exact hK
       · have e := parse_end hl0 (by omega) hx1
         obtain ⟨rfl, rfl⟩ := fb2 hz
         rw [if_neg hz] at e
         rw [e] at hK
         exact hK
     refine ⟨?_, ?_, ?_, trivial⟩
     · refine ⟨?_, ?_, ?_, trivial⟩
       · refine ⟨?_, ?_, trivial⟩
         · refine ⟨(), ⟨rfl, rfl⟩, ?_⟩
           trivial
         · refine ⟨?_, ?_, trivial⟩
           · refine ⟨(), ⟨rfl, rfl⟩, ?_⟩
             trivial
           · refine ⟨(), ⟨rfl, rfl⟩, ?_⟩
             trivial
       · refine ⟨?_, ?_, trivial⟩
         · refine ⟨(), ⟨rfl, rfl⟩, ?_⟩
           trivial
         · refine ⟨(), ⟨rfl, rfl⟩, ?_⟩
           trivial
       · refine ⟨?_, ?_, trivial⟩
         · refine ⟨?_, ?_, trivial⟩
           · refine ⟨(), ⟨rfl, rfl⟩, ?_⟩
             trivial
           · refine ⟨(), ⟨rfl, rfl⟩, ?_⟩
             trivial
         · refine ⟨(), ⟨rfl, rfl⟩, ?_⟩
           trivial
     · refine ⟨?_, ?_, trivial⟩
       · refine ⟨?_, ?_, trivial⟩
         · refine ⟨(), ⟨rfl, rfl⟩, ?_⟩
           trivial
         · refine ⟨?_, ?_, trivial⟩
           · refine ⟨(), ⟨rfl, rfl⟩, ?_⟩
             trivial
           · refine ⟨(), ⟨rfl, rfl⟩, ?_⟩
             trivial
       · refine ⟨(), ⟨rfl, rfl⟩, ?_⟩
         trivial
     · refine ⟨?_, ?_, trivial⟩
       · refine ⟨?_, ?_, trivial⟩
         · refine ⟨(), ⟨rfl, rfl⟩, ?_⟩
           trivial
         · refine ⟨(), ⟨rfl, rfl⟩, ?_⟩
           trivial
       · refine ⟨(), ⟨rfl, rfl⟩, ?_⟩
         trivial
   refine rt0 rfl fun _ => ?_
   show K (.tuple [.agg [.int .i64 x_1.kind, .int .i64 x_1.v.kind, .int .i64 x_1.v.n, .str x_1.v.s, .slice false (x_1.v.l.map valIn), .slice false (x_1.v.f.map fldIn), .str x_1.s, .str x_1.t, .slice false (x_1.a.map expIn), .slice false (x_1.n.map strAV)], .int .i64 0, .int .i64 0]) m
   exact absurd fc2 (by omega)
 refine sq ?_
 refine an (fun h4 => ?_) (fun h4 => ?_)
 · refine rgA tbOk Tryz.mixed (σ := Unit) (.f 1 (.f 2 (.f 3 (.f 5 (.f 6 (.f 7 (.o 0 (.o 4 (.o 8 (.s 9 (.s 10 (.s 11 .d))) (.o 9 (.o 8 (.s 10 (.s 11 .d)) (.o 10 (.s 8 (.s 11 .d)) .z)) .z)) (.o 8 (.o 4 (.s 9 (.s 10 (.s 11 .d))) (.o 9 (.s 4 (.s 10 (.s 11 .d))) .z)) (.o 9 (.o 4 (.o 8 (.s 10 (.s 11 .d)) (.o 10 (.s 8 (.s 11 .d)) .z)) (.o 8 (.s 4 (.s 10 (.s 11 .d))) .z)) .z))) (.o 4 (.o 0 (.o 8 (.s 9 (.s 10 (.s 11 .d))) (.o 9 (.o 8 (.s 10 (.s 11 .d)) (.o 10 (.s 8 (.s 11 .d)) .z)) .z)) (.o 8 (.s 0 (.s 9 (.s 10 (.s 11 .d)))) .z)) (.o 8 (.o 0 (.o 4 (.s 9 (.s 10 (.s 11 .d))) (.o 9 (.s 4 (.s 10 (.s 11 .d))) .z)) (.o 4 (.s 0 (.s 9 (.s 10 (.s 11 .d)))) .z)) .z))))))))) [] [2, 3, 4] 3 (fun _ => ([(2, .loc 0 0), (3, vI q_1), (4, vI e_1)], [.cells [vI 0, vI 0, vI 0, vS ([]), .own [], .own [], vS ([]), vS ([]), .own [], .own []], rD l (s.length : Int) a_1 e_1 q_1, .cells [vI x_1.kind, vI x_1.v.kind, vI x_1.v.n, vS x_1.v.s, vL (x_1.v.l.map valIn), vL (x_1.v.f.map fldIn), vS x_1.s, vS x_1.t, vL (x_1.a.map expIn), vL (x_1.n.map strAV)]], m)) (fun _ => True) (by decide +kernel) ?_ ?_
   · rintro _ hy9
     try dsimp only at hy9
     refine rt0 rfl fun _ => ?_
     show K (.tuple [.agg [.int .i64 0, .int .i64 0, .int .i64 0, .str ([]), .slice false [], .slice false [], .str ([]), .str ([]), .slice false [], .slice false []], .int .i64 q_1, .int .i64 e_1]) m
     have e := parse_end hl0 (by omega) hx1
     rw [if_neg (by omega)] at e
     rw [e] at hK
     exact hK
   refine ⟨?_, ?_, ?_, trivial⟩
   · refine ⟨?_, ?_, ?_, trivial⟩
     · refine ⟨?_, ?_, trivial⟩
       · refine ⟨(), ⟨rfl, rfl⟩, ?_⟩
         trivial
       · refine ⟨?_, ?_, trivial⟩
         · refine ⟨(), ⟨rfl, rfl⟩, ?_⟩
           trivial
         · refine ⟨(), ⟨rfl, rfl⟩, ?_⟩
           trivial
     · refine ⟨?_, ?_, trivial⟩
       · refine ⟨(), ⟨rfl, rfl⟩, ?_⟩
         trivial
       · refine ⟨(), ⟨rfl, rfl⟩, ?_⟩
         trivial
     · refine ⟨?_, ?_, trivial⟩
       · refine ⟨?_, ?_, trivial⟩
         · refine ⟨(), ⟨rfl, rfl⟩, ?_⟩
           trivial
         · refine ⟨(), ⟨rfl, rfl⟩, ?_⟩
           trivial
       · refine ⟨(), ⟨rfl, rfl⟩, ?_⟩
         trivial
   · refine ⟨?_, ?_, trivial⟩
     · refine ⟨?_, ?_, trivial⟩
       · refine ⟨(), ⟨rfl, rfl⟩, ?_⟩
         trivial
       · refine ⟨?_, ?_, trivial⟩
         · refine ⟨(), ⟨rfl, rfl⟩, ?_⟩
           trivial
         · refine ⟨(), ⟨rfl, rfl⟩, ?_⟩
           trivial
     · refine ⟨(), ⟨rfl, rfl⟩, ?_⟩
       trivial
   · refine ⟨?_, ?_, trivial⟩
     · refine ⟨?_, ?_, trivial⟩
       · refine ⟨(), ⟨rfl, rfl⟩, ?_⟩
         trivial
       · refine ⟨(), ⟨rfl, rfl⟩, ?_⟩
         trivial
     · refine ⟨(), ⟨rfl, rfl⟩, ?_⟩
       trivial
 refine rt0 rfl fun _ => ?_
 show K (.tuple [.agg [.int .i64 x_1.kind, .int .i64 x_1.v.kind, .int .i64 x_1.v.n, .str x_1.v.s, .slice false (x_1.v.l.map valIn), .slice false (x_1.v.f.map fldIn), .str x_1.s, .str x_1.t, .slice false (x_1.a.map expIn), .slice false (x_1.n.map strAV)], .int .i64 0, .int .i64 0]) m
 have e := parse_end hl0 (by omega) hx1
 rw [if_pos (by omega), if_neg (by omega)] at e
 rw [e] at hK
 exact hK
theorem u_Parse (s : Str) (hs : s.length ≤ 16777216) (m : AMem) (hT : Tabs m) (K : AV → AMem → Prop) (hK : K (.tuple [expTop (parseP s).1, .int .i64 (parseP s).2.1, .err 115 (parseP s).2.2]) m) : ACalls Tryz.prog 18 [.str s] m K := u_Parse1 s _ hs rfl m K hT hK
theorem u_Parsed (s : Str) (hs : s.length ≤ 16777216) (m : AMem) (K : AV → AMem → Prop) (hK : K (.tuple [expTop (parseP s).1, .int .i64 (parseP s).2.1, .int .i64 (parseP s).2.2]) m) : ACalls Tryz.prog 19 [.str s] m K := u_Parsed1 s _ hs rfl m K hK
theorem parseP_nn (s : Str) : 0 ≤ (parseP s).2.2 := by
  rw [parseP]
  split
  · split
    · split
      · exact (by decide : (0 : Int) ≤ 5)
      · exact Int.le_refl _
    · show 0 ≤ (wholeP _ _ _).f
      unfold wholeP PR.bind
      split
      · dsimp only
        split
        · exact Int.le_refl _
        · exact exF_nn _
      · exact (gr_expr _ _ _ _).n
  · exact tokR_nn s
end Go.Proofs
end
section
namespace Go.Proofs
open Go Go.Aw Go.Sx
set_option maxRecDepth 100000
open Classical in
noncomputable def eEq (a b : Exp) : Bool := decide (a = b)
theorem eEq_true {a b : Exp} (h : a = b) : eEq a b = true := by simp [eEq, h]
theorem eEq_false {a b : Exp} (h : a ≠ b) : eEq a b = false := by simp [eEq, h]
theorem eEq_iff {a b : Exp} : eEq a b = true ↔ a = b := by simp [eEq]
theorem Exp.ext' {a b : Exp} (h1 : a.kind = b.kind) (h2 : a.v = b.v) (h3 : a.s = b.s) (h4 : a.t = b.t) (h5 : a.a = b.a) (h6 : a.n = b.n) : a = b := by
  cases a; cases b
  simp only [Exp.kind, Exp.v, Exp.s, Exp.t, Exp.a, Exp.n] at *
  subst h1 h2 h3 h4 h5 h6; rfl
set_option maxHeartbeats 1000000 in
theorem u_SameTexts (a b : List Str)  (m : AMem)  (K : AV → AMem → Prop) (hK : K (.bool (decide (a = b))) m) : ACalls Tryz.prog 62 [.slice false (a.map strAV), .slice false (b.map strAV)] m K := by
 refine enter (c := cf [] [0] [] [] [] []) (vs := [.av (.slice false (a.map strAV)), .av (.slice false (b.map strAV))]) (L := []) (m := m) false tbOk Tryz.mixed Tryz.func62 rfl (k := 2) (by show fnOk [] _ _ _ = true; decide +kernel) rfl (Good.nil m) ?_
 refine ⟨fun F0 => ?_⟩
 have hbd0_0 : a.length ≤ 140737488355328 := bd_map (o := false) (F0 0).1
 have hbd1_0 : b.length ≤ 140737488355328 := bd_map (o := false) (F0 1).1
 refine sq ?_
 refine ln ?_
 refine ln ?_
 refine an (fun h1 => ?_) (fun h1 => ?_)
 · refine sq ?_
   refine lp (σ := Int) [] [0, 1, 5] 0 (fun i => ([(0, vL (a.map strAV)), (1, vL (b.map strAV)), (5, vI i)], [], m)) (fun i => 0 ≤ i ∧ i ≤ a.length ∧ a.take i.toNat = b.take i.toNat) (fun i => a.length - i.toNat) (0) ⟨rfl, rfl⟩ ?_ ?_
   · try dsimp only
     exact ⟨by omega, by omega, rfl⟩
   rintro i hI
   refine sq ?_
   refine ln ?_
   refine an (fun h2 => ?_) (fun h2 => ?_)
   · refine sq ?_
     refine ix (by omega) ?_
     refine ix (by omega) ?_
     refine an (fun h3 => ?_) (fun h3 => ?_)
     · refine an (by omega) ?_
       refine ⟨(i + 1), ⟨rfl, rfl⟩, ?_, ?_⟩
       · try dsimp only
         exact ⟨by omega, by omega, by rw [take_succ_gI hI.1 h2, take_succ_gI hI.1 (by omega), hI.2.2, h3]⟩
       try dsimp only
       omega
     refine rt0 rfl fun _ => ?_
     show K (.bool false) m
     rw [decide_eq_false (by intro hh; subst hh; exact h3 rfl)] at hK; exact hK
   refine rt0 rfl fun _ => ?_
   show K (.bool true) m
   rw [decide_eq_true (by have := hI.2.2; rwa [take_full (by omega), take_full (by omega)] at this)] at hK; exact hK
 refine rt0 rfl fun _ => ?_
 show K (.bool false) m
 rw [decide_eq_false (by intro hh; subst hh; exact h1 rfl)] at hK; exact hK
set_option maxHeartbeats 4000000 in
theorem u_SameExpr1 (a b : Exp) (ih : ∀ v w : Exp, depE v < depE a → ∀ (m : AMem) (K : AV → AMem → Prop), K (.bool (eEq v w)) m → ACalls Tryz.prog 16 [expTop v, expTop w] m K) (m : AMem)  (K : AV → AMem → Prop) (hK : K (.bool (eEq a b)) m) : ACalls Tryz.prog 16 [expTop a, expTop b] m K := by
 refine enter (c := cf [] [0] [2] [] [] []) (vs := [.av (expTop a), .av (expTop b)]) (L := []) (m := m) false tbOk Tryz.mixed Tryz.func16 rfl (k := 2) (by show fnOk [] _ _ _ = true; decide +kernel) rfl (Good.nil m) ?_
 refine ⟨fun F0 => ?_⟩
 have hbd0_3 : a.v.s.length ≤ 140737488355328 := (F0 0 3 (Nat.le_of_ble_eq_true rfl))
 have hbd0_4 : a.v.l.length ≤ 140737488355328 := bd_map (F0 0 4 (Nat.le_of_ble_eq_true rfl))
 have hbd0_5 : a.v.f.length ≤ 140737488355328 := bd_map (F0 0 5 (Nat.le_of_ble_eq_true rfl))
 have hbd0_6 : a.s.length ≤ 140737488355328 := (F0 0 6 (Nat.le_of_ble_eq_true rfl))
 have hbd0_7 : a.t.length ≤ 140737488355328 := (F0 0 7 (Nat.le_of_ble_eq_true rfl))
 have hbd0_8 : a.a.length ≤ 140737488355328 := bd_map (F0 0 8 (Nat.le_of_ble_eq_true rfl))
 have hbd0_9 : a.n.length ≤ 140737488355328 := bd_map (F0 0 9 (Nat.le_of_ble_eq_true rfl))
 have hbd1_3 : b.v.s.length ≤ 140737488355328 := (F0 1 3 (Nat.le_of_ble_eq_true rfl))
 have hbd1_4 : b.v.l.length ≤ 140737488355328 := bd_map (F0 1 4 (Nat.le_of_ble_eq_true rfl))
 have hbd1_5 : b.v.f.length ≤ 140737488355328 := bd_map (F0 1 5 (Nat.le_of_ble_eq_true rfl))
 have hbd1_6 : b.s.length ≤ 140737488355328 := (F0 1 6 (Nat.le_of_ble_eq_true rfl))
 have hbd1_7 : b.t.length ≤ 140737488355328 := (F0 1 7 (Nat.le_of_ble_eq_true rfl))
 have hbd1_8 : b.a.length ≤ 140737488355328 := bd_map (F0 1 8 (Nat.le_of_ble_eq_true rfl))
 have hbd1_9 : b.n.length ≤ 140737488355328 := bd_map (F0 1 9 (Nat.le_of_ble_eq_true rfl))
 refine call0 (fun _ => u_RAlike a.v b.v) rfl ?_
 refine sq ?_
 refine mg [2, 3] 52 ((((((!(a.kind == b.kind)) || (!(vEq a.v b.v))) || (!(a.s == b.s))) || (!(a.t == b.t))) || (!((a.a.length : Int) == (b.a.length : Int)))) || (!(decide (a.n = b.n)))) ?_ ?_
 · repeat' first
    | exact ⟨⟨_, rfl, by grind [SB.val]⟩, rfl⟩
    | refine an (fun _ => ?_) (fun _ => ?_)
    | refine ln ?_
    | refine call0 (fun _ => u_SameTexts a.n b.n) rfl ?_
 refine an (fun h1 => ?_) (fun h1 => ?_)
 · replace h1 : (((((a.kind ≠ b.kind) ∨ (vEq a.v b.v = false)) ∨ (a.s ≠ b.s)) ∨ (a.t ≠ b.t)) ∨ ((a.a.length : Int) ≠ (b.a.length : Int))) ∨ (decide (a.n = b.n) = false) := ((borT h1).imp (fun q => ((borT q).imp (fun q => ((borT q).imp (fun q => ((borT q).imp (fun q => ((borT q).imp (fun q => (ne_of_beq_false (bnT q))) (fun q => (bnT q)))) (fun q => (ne_of_beq_false (bnT q))))) (fun q => (ne_of_beq_false (bnT q))))) (fun q => (ne_of_beq_false (bnT q))))) (fun q => (bnT q)))
   refine rt0 rfl fun _ => ?_
   show K (.bool false) m
   rw [eEq_false (by intro hh; subst hh; simp [vEq_true rfl] at h1)] at hK; exact hK
 replace h1 : (((((a.kind = b.kind) ∧ (vEq a.v b.v = true)) ∧ (a.s = b.s)) ∧ (a.t = b.t)) ∧ ((a.a.length : Int) = (b.a.length : Int))) ∧ (decide (a.n = b.n) = true) := ⟨⟨⟨⟨⟨(eq_of_beq (bnF (borL (borL (borL (borL (borL h1))))))), (bnF (borR (borL (borL (borL (borL h1))))))⟩, (eq_of_beq (bnF (borR (borL (borL (borL h1))))))⟩, (eq_of_beq (bnF (borR (borL (borL h1)))))⟩, (eq_of_beq (bnF (borR (borL h1))))⟩, (bnF (borR h1))⟩
 refine sq ?_
 refine lp (σ := Int) [] [2, 3, 6] 2 (fun i => ([(2, .loc 0 0), (3, .loc 1 0), (6, vI i)], [.cells [vI a.kind, vI a.v.kind, vI a.v.n, vS a.v.s, vL (a.v.l.map valIn), vL (a.v.f.map fldIn), vS a.s, vS a.t, vL (a.a.map expIn), vL (a.n.map strAV)], .cells [vI b.kind, vI b.v.kind, vI b.v.n, vS b.v.s, vL (b.v.l.map valIn), vL (b.v.f.map fldIn), vS b.s, vS b.t, vL (b.a.map expIn), vL (b.n.map strAV)]], m)) (fun i => 0 ≤ i ∧ i ≤ a.a.length ∧ a.a.take i.toNat = b.a.take i.toNat) (fun i => a.a.length - i.toNat) (0) ⟨rfl, rfl⟩ ?_ ?_
 · try dsimp only
   exact ⟨by omega, by omega, rfl⟩
 rintro i hI
 refine sq ?_
 refine ln ?_
 refine an (fun h2 => ?_) (fun h2 => ?_)
 · refine sq ?_
   refine ixg expTop expIn_eq (by omega) ?_
   refine ixg expTop expIn_eq (by omega) ?_
   refine pure0 (fun _ => ih (gI a.a i) (gI b.a i) (depE_mem (gI_mem hI.1 (by assumption)))) ?_
   refine an (fun h3 => ?_) (fun h3 => ?_)
   · refine an (by omega) ?_
     refine ⟨(i + 1), ⟨rfl, rfl⟩, ?_, ?_⟩
     · try dsimp only
       exact ⟨by omega, by omega, by rw [take_succ_gI hI.1 h2, take_succ_gI hI.1 (by omega), hI.2.2, eEq_iff.1 h3]⟩
     try dsimp only
     omega
   refine rt0 rfl fun _ => ?_
   show K (.bool false) m
   rw [eEq_false (by intro hh; subst hh; rw [eEq_true rfl] at h3; cases h3)] at hK; exact hK
 refine rt0 rfl fun _ => ?_
 show K (.bool true) m
 rw [eEq_true (Exp.ext' h1.1.1.1.1.1 (vEq_iff.1 h1.1.1.1.1.2) h1.1.1.1.2 h1.1.1.2 (by have := hI.2.2; rwa [take_full (by omega), take_full (by omega)] at this) (of_decide_eq_true h1.2))] at hK; exact hK
theorem u_SameExpr2 : ∀ (n : Nat) (a b : Exp), depE a < n → ∀ (m : AMem) (K : AV → AMem → Prop), K (.bool (eEq a b)) m → ACalls Tryz.prog 16 [expTop a, expTop b] m K
  | 0, _, _, h => absurd h (Nat.not_lt_zero _)
  | n + 1, a, b, h => fun m K hK => u_SameExpr1 a b (fun v w hv => u_SameExpr2 n v w (by omega)) m K hK
theorem u_SameExpr (a b : Exp) (m : AMem) (K : AV → AMem → Prop) (hK : K (.bool (eEq a b)) m) : ACalls Tryz.prog 16 [expTop a, expTop b] m K := u_SameExpr2 (depE a + 1) a b (Nat.lt_succ_self _) m K hK
set_option maxHeartbeats 4000000 in
theorem u_CopyExpr1 (e : Exp) (hz : szE e ≤ 1000000000) (ih : ∀ x : Exp, depE x < depE e → szE x ≤ 1000000000 → ∀ (m : AMem) (K : AV → AMem → Prop), K (expTop x) m → ACalls Tryz.prog 17 [expTop x] m K) (m : AMem)  (K : AV → AMem → Prop) (hK : K (expTop e) m) : ACalls Tryz.prog 17 [expTop e] m K := by
 have hs := szE_eq e
 have hsl := szL_len e.a
 refine enter (c := cf [] [] [] [2999, 6999] [2, 6] []) (vs := [.av (expTop e)]) (L := []) (m := m) false tbOk Tryz.mixed Tryz.func17 rfl (k := 1) (by show fnOk [2999, 6999] _ _ _ = true; decide +kernel) rfl (Good.nil m) ?_
 refine rgA tbOk Tryz.mixed (σ := Unit) (.f 0 (.f 3 (.o 1 (.o 2 (.s 4 (.f 6 (.o 5 (.s 7 (.f 8 (.s 9 (.f 10 (.s 11 .d))))) (.o 7 (.f 8 (.o 5 (.s 9 (.f 10 (.s 11 .d))) (.o 9 (.s 5 (.f 10 (.s 11 .d))) .z))) .z)))) (.o 4 (.s 2 (.f 6 (.o 5 (.s 7 (.f 8 (.s 9 (.f 10 (.s 11 .d))))) (.o 7 (.f 8 (.o 5 (.s 9 (.f 10 (.s 11 .d))) (.o 9 (.s 5 (.f 10 (.s 11 .d))) .z))) .z)))) .z)) (.o 4 (.s 1 (.s 2 (.f 6 (.o 5 (.s 7 (.f 8 (.s 9 (.f 10 (.s 11 .d))))) (.o 7 (.f 8 (.o 5 (.s 9 (.f 10 (.s 11 .d))) (.o 9 (.s 5 (.f 10 (.s 11 .d))) .z))) .z))))) .z)))) [] [1, 2, 3] 2 (fun _ => ([(1, .loc 0 0), (2, .loc 1 0), (3, vL (e.a.map expIn))], [.cells [vI e.kind, vI e.v.kind, vI e.v.n, vS e.v.s, vL (e.v.l.map valIn), vL (e.v.f.map fldIn), vS e.s, vS e.t, .own [], .own (e.n.map strAV)], .cells [vI 0, vI 0, vI 0, vS ([]), .own [], .own [], vS ([]), vS ([]), .own [], .own []]], m)) (fun _ => True) (by decide +kernel) ?_ ?_
 · rintro _ hy2
   try dsimp only at hy2
   refine sq ?_
   refine ln ?_
   refine lp (σ := Int × List Exp) [] [1, 2, 17, 18, 19] 2 (fun ⟨i, xs⟩ => ([(1, .loc 0 0), (2, .loc 1 0), (17, vL (e.a.map expIn)), (18, vI (e.a.length : Int)), (19, vI i)], [.cells [vI e.kind, vI e.v.kind, vI e.v.n, vS e.v.s, vL (e.v.l.map valIn), vL (e.v.f.map fldIn), vS e.s, vS e.t, .own (xs.map expIn), .own (e.n.map strAV)], .cells [vI 0, vI 0, vI 0, vS ([]), .own [], .own [], vS ([]), vS ([]), .own [], .own []]], m)) (fun ⟨i, xs⟩ => 0 ≤ i ∧ i ≤ e.a.length ∧ xs = e.a.take i.toNat) (fun ⟨i, xs⟩ => e.a.length - i.toNat) (0, []) ⟨rfl, rfl⟩ ?_ ?_
   · try dsimp only
     exact ⟨by omega, by omega, by simp⟩
   rintro ⟨i, xs⟩ hI
   dsimp only at hI
   have hxl : (xs.length : Int) = i := by rw [hI.2.2, List.length_take]; omega
   refine sq ?_
   refine an (fun h1 => ?_) (fun h1 => ?_)
   · refine sq ?_
     refine ixg expTop expIn_eq (by omega) ?_
     refine rgA tbOk Tryz.mixed (σ := Unit) (.f 0 (.o 1 (.s 2 (.s 3 (.s 4 (.s 5 (.f 6 (.s 7 .d)))))) (.o 2 (.o 1 (.s 3 (.s 4 (.s 5 (.f 6 (.s 7 .d))))) (.o 3 (.o 1 (.s 4 (.s 5 (.f 6 (.s 7 .d)))) (.o 4 (.s 1 (.s 5 (.f 6 (.s 7 .d)))) .z)) .z)) .z))) [] [1, 2, 17, 18, 19] 3 (fun _ => ([(1, .loc 0 0), (2, .loc 1 0), (17, vL (e.a.map expIn)), (18, vI (e.a.length : Int)), (19, vI i)], [.cells [vI e.kind, vI e.v.kind, vI e.v.n, vS e.v.s, vL (e.v.l.map valIn), vL (e.v.f.map fldIn), vS e.s, vS e.t, .own ((xs ++ ([(gI e.a i)] : List Exp)).map expIn), .own (e.n.map strAV)], .cells [vI 0, vI 0, vI 0, vS ([]), .own [], .own [], vS ([]), vS ([]), .own [], .own []], .cells [vI ((gI e.a i).kind), vI (((gI e.a i).v).kind), vI (((gI e.a i).v).n), vS (((gI e.a i).v).s), vL ((((gI e.a i).v).l).map valIn), vL ((((gI e.a i).v).f).map fldIn), vS ((gI e.a i).s), vS ((gI e.a i).t), vL (((gI e.a i).a).map expIn), vL (((gI e.a i).n).map strAV)]], m)) (fun _ => True) (by decide +kernel) ?_ ?_
     · rintro _ hy6
       try dsimp only at hy6
       refine an (by omega) ?_
       refine ⟨(i + 1, xs ++ ([(gI e.a i)] : List Exp)), ⟨rfl, rfl⟩, ?_, ?_⟩
       · try dsimp only
         exact ⟨by omega, by omega, by rw [take_succ_gI hI.1 (by omega), ← hI.2.2]⟩
       try dsimp only
       omega
     refine ⟨?_, ?_, trivial⟩
     · refine call0 (fun _ => ih (gI e.a i) (depE_mem (gI_mem hI.1 (by assumption))) (by have := szL_mem (gI_mem (l := e.a) (i := i) hI.1 (by assumption)); omega)) rfl ?_
       refine ap expIn xs ([(gI e.a i)] : List Exp) rfl (by simp only [List.map_cons, List.map_nil, expIn_eq]; try rfl) (fun a => by rw [expIn_eq]; exact ⟨rfl, rfl⟩) (by (simp only [List.length_append, List.length_cons, List.length_nil]; omega)) ?_
       refine ⟨(), ⟨rfl, rfl⟩, ?_⟩
       trivial
     · refine ⟨?_, ?_, trivial⟩
       · refine call0 (fun _ => ih (gI e.a i) (depE_mem (gI_mem hI.1 (by assumption))) (by have := szL_mem (gI_mem (l := e.a) (i := i) hI.1 (by assumption)); omega)) rfl ?_
         refine ap expIn xs ([(gI e.a i)] : List Exp) rfl (by simp only [List.map_cons, List.map_nil, expIn_eq]; try rfl) (fun a => by rw [expIn_eq]; exact ⟨rfl, rfl⟩) (by (simp only [List.length_append, List.length_cons, List.length_nil]; omega)) ?_
         refine ⟨(), ⟨rfl, rfl⟩, ?_⟩
         trivial
       · refine call0 (fun _ => ih (gI e.a i) (depE_mem (gI_mem hI.1 (by assumption))) (by have := szL_mem (gI_mem (l := e.a) (i := i) hI.1 (by assumption)); omega)) rfl ?_
         refine ⟨?_, ?_, trivial⟩
         · refine ap expIn xs ([(gI e.a i)] : List Exp) rfl (by simp only [List.map_cons, List.map_nil, expIn_eq]; try rfl) (fun a => by rw [expIn_eq]; exact ⟨rfl, rfl⟩) (by (simp only [List.length_append, List.length_cons, List.length_nil]; omega)) ?_
           refine ⟨(), ⟨rfl, rfl⟩, ?_⟩
           trivial
         · refine ap expIn xs ([(gI e.a i)] : List Exp) rfl (by simp only [List.map_cons, List.map_nil, expIn_eq]; try rfl) (fun a => by rw [expIn_eq]; exact ⟨rfl, rfl⟩) (by (simp only [List.length_append, List.length_cons, List.length_nil]; omega)) ?_
           refine ⟨(), ⟨rfl, rfl⟩, ?_⟩
           trivial
   refine rt0 rfl fun _ => ?_
   show K (.agg [.int .i64 e.kind, .int .i64 e.v.kind, .int .i64 e.v.n, .str e.v.s, .slice false (e.v.l.map valIn), .slice false (e.v.f.map fldIn), .str e.s, .str e.t, .slice false (xs.map expIn), .slice false (e.n.map strAV)]) m
   have q1 : xs = e.a := by have := hI.2.2; rwa [take_full (by omega)] at this
   rw [q1]
   exact hK
 refine ⟨?_, ?_, trivial⟩
 · refine ⟨?_, ?_, trivial⟩
   · refine call0 (fun _ => u_Copy e.v (okV_small _ _ (Nat.lt_succ_self _) (by omega))) rfl ?_
     refine ⟨?_, ?_, trivial⟩
     · refine ap strAV ([]) e.n rfl rfl (fun _ => ⟨rfl, rfl⟩) (by (simp only [List.length_append, List.length_cons, List.length_nil]; omega)) ?_
       refine ⟨(), ⟨rfl, rfl⟩, ?_⟩
       trivial
     · refine ⟨?_, ?_, trivial⟩
       · refine ap strAV ([]) e.n rfl rfl (fun _ => ⟨rfl, rfl⟩) (by (simp only [List.length_append, List.length_cons, List.length_nil]; omega)) ?_
         refine ⟨(), ⟨rfl, rfl⟩, ?_⟩
         trivial
       · refine ap strAV ([]) e.n rfl rfl (fun _ => ⟨rfl, rfl⟩) (by (simp only [List.length_append, List.length_cons, List.length_nil]; omega)) ?_
         refine ⟨(), ⟨rfl, rfl⟩, ?_⟩
         trivial
   · refine call0 (fun _ => u_Copy e.v (okV_small _ _ (Nat.lt_succ_self _) (by omega))) rfl ?_
     refine ⟨?_, ?_, trivial⟩
     · refine ap strAV ([]) e.n rfl rfl (fun _ => ⟨rfl, rfl⟩) (by (simp only [List.length_append, List.length_cons, List.length_nil]; omega)) ?_
       refine ⟨(), ⟨rfl, rfl⟩, ?_⟩
       trivial
     · refine ⟨?_, ?_, trivial⟩
       · refine ap strAV ([]) e.n rfl rfl (fun _ => ⟨rfl, rfl⟩) (by (simp only [List.length_append, List.length_cons, List.length_nil]; omega)) ?_
         refine ⟨(), ⟨rfl, rfl⟩, ?_⟩
         trivial
       · refine ap strAV ([]) e.n rfl rfl (fun _ => ⟨rfl, rfl⟩) (by (simp only [List.length_append, List.length_cons, List.length_nil]; omega)) ?_
         refine ⟨(), ⟨rfl, rfl⟩, ?_⟩
         trivial
 · refine call0 (fun _ => u_Copy e.v (okV_small _ _ (Nat.lt_succ_self _) (by omega))) rfl ?_
   refine ⟨?_, ?_, trivial⟩
   · refine ap strAV ([]) e.n rfl rfl (fun _ => ⟨rfl, rfl⟩) (by (simp only [List.length_append, List.length_cons, List.length_nil]; omega)) ?_
     refine ⟨(), ⟨rfl, rfl⟩, ?_⟩
     trivial
   · refine ⟨?_, ?_, trivial⟩
     · refine ap strAV ([]) e.n rfl rfl (fun _ => ⟨rfl, rfl⟩) (by (simp only [List.length_append, List.length_cons, List.length_nil]; omega)) ?_
       refine ⟨(), ⟨rfl, rfl⟩, ?_⟩
       trivial
     · refine ap strAV ([]) e.n rfl rfl (fun _ => ⟨rfl, rfl⟩) (by (simp only [List.length_append, List.length_cons, List.length_nil]; omega)) ?_
       refine ⟨(), ⟨rfl, rfl⟩, ?_⟩
       trivial
theorem u_CopyExpr2 : ∀ (n : Nat) (e : Exp), depE e < n → szE e ≤ 1000000000 → ∀ (m : AMem) (K : AV → AMem → Prop), K (expTop e) m → ACalls Tryz.prog 17 [expTop e] m K
  | 0, _, h, _ => absurd h (Nat.not_lt_zero _)
  | n + 1, e, h, hz => fun m K hK => u_CopyExpr1 e hz (fun x hx hy => u_CopyExpr2 n x (by omega) hy) m K hK
theorem u_CopyExpr (e : Exp) (hz : szE e ≤ 1000000000) (m : AMem) (K : AV → AMem → Prop) (hK : K (expTop e) m) : ACalls Tryz.prog 17 [expTop e] m K := u_CopyExpr2 (depE e + 1) e (Nat.lt_succ_self _) hz m K hK
end Go.Proofs
end
section
namespace Go.Proofs
open Go Go.Aw Go.Sx
set_option maxRecDepth 100000
def tlE (k : Nat) (e : Exp) : List Str := if e.kind = 9 then (e.n.zip e.a).map (fun p : Str × Exp => p.1 ++ [58, 32] ++ textE k p.2) else e.a.map (textE k)
theorem gI_map {α β : Type} [Inhabited α] [Inhabited β] {f : α → β} {l : List α} {i : Int} (h0 : 0 ≤ i) (hi : i < l.length) : gI (l.map f) i = f (gI l i) :=
  gI_at h0 (by rw [List.getElem?_map, List.getElem?_eq_getElem (by omega), Option.map_some]; exact congrArg some (congrArg f (gI_at h0 (List.getElem?_eq_getElem (by omega))).symm))
theorem tlE_len {k : Nat} {e : Exp} (h : e.kind = 9 → e.a.length = e.n.length) : (tlE k e).length = e.a.length := by
  unfold tlE; split
  · have := h (by assumption); rw [List.length_map, List.length_zip]; omega
  · rw [List.length_map]
theorem tlE_9 {k : Nat} {e : Exp} {i : Int} (h : e.kind = 9) (hl : e.a.length = e.n.length) (h0 : 0 ≤ i) (hi : i < e.a.length) : gI (tlE k e) i = (gI e.n i ++ [58, 32]) ++ textE k (gI e.a i) := by
  rw [tlE, if_pos h, gI_map h0 (by rw [List.length_zip]; omega), gI_zip h0 (by omega) hi]
theorem tlE_o {k : Nat} {e : Exp} {i : Int} (h : e.kind ≠ 9) (h0 : 0 ≤ i) (hi : i < e.a.length) : gI (tlE k e) i = textE k (gI e.a i) := by
  rw [tlE, if_neg h, gI_map h0 hi]
theorem joinA_map {α β : Type} {g : β → Str} {f : α → β} : ∀ (l : List α) (b : Bool), joinA g (l.map f) b = joinA (fun x => g (f x)) l b
  | [], b => by rw [List.map_nil, joinA, joinA]
  | x :: r, b => by rw [List.map_cons, joinA, joinA, joinA_map r]
theorem joinA_bd {α : Type} {g : α → Str} {c : Nat} : ∀ (l : List α) (b : Bool), (∀ x ∈ l, (g x).length ≤ c) → (joinA g l b).length ≤ l.length * (c + 2)
  | [], b, _ => by rw [joinA]; simp
  | x :: r, b, h => by
    have h1 := h x (List.mem_cons_self ..)
    have h2 := joinA_bd r false fun y hy => h y (List.mem_cons_of_mem _ hy)
    have h3 : (if b = true then ([] : Str) else [44, 32]).length ≤ 2 := by split <;> simp
    rw [joinA, List.length_append, List.length_append, List.length_cons, Nat.add_mul]
    omega
theorem len_a (l : List Exp) : l.length ≤ depEL l := by
  induction l with
  | nil => simp
  | cons a r ih => simp only [depEL, List.length_cons]; have := depE_eq a; omega
theorem kid_len {k : Nat} {e x : Exp} (hf : fmE x) (hx : x ∈ e.a) (hd : depE e ≤ 60) : (textE k x).length ≤ 1200000 := by
  have := textE_len k x hf
  have := depE_mem hx
  omega
theorem tlE_mem {k : Nat} {e : Exp} (hf : fmE e) (hd : depE e ≤ 60) : ∀ t ∈ tlE k e, t.length ≤ 1300000 := by
  obtain ⟨hn, hk⟩ := fm_all hf
  have hs := nodeOk_len hn
  unfold tlE
  intro t ht
  split at ht
  · obtain ⟨p, hp, rfl⟩ := List.mem_map.1 ht
    obtain ⟨h1, h2⟩ := List.of_mem_zip hp
    have := kid_len (k := k) (hk _ h2) h2 hd
    have := name_mem (hs.2.2.2.2.2.2.2.2.2.2.2.2 (by assumption)) h1
    simp only [List.length_append, List.length_cons, List.length_nil]; omega
  · obtain ⟨x, hx, rfl⟩ := List.mem_map.1 ht
    have := kid_len (k := k) (hk _ hx) hx hd
    omega
set_option maxHeartbeats 4000000 in
theorem u_Wrote1 (k : Nat) (e : Exp) (ih : ∀ x : Exp, depE x < k → fmE x → depE x ≤ 60 → ∀ (m : AMem) (K : AV → AMem → Prop), K (.str (textE k x)) m → ACalls Tryz.prog 15 [expTop x] m K) (hd : depE e < k + 1) (hf : fmE e) (h60 : depE e ≤ 60) (m : AMem)  (K : AV → AMem → Prop) (hK : K (.str (textE (k + 1) e)) m) : ACalls Tryz.prog 15 [expTop e] m K := by
 obtain ⟨hn, hka⟩ := fm_all hf
 obtain ⟨n5, n6, n7, n9, n10, n1, k1, k10, s2, s3, s4, s10, m9⟩ := nodeOk_len hn
 have htl := tlE_len (k := k) n9
 have htm := tlE_mem (k := k) hf h60
 have hal := len_a e.a
 have hde := depE_eq e
 refine enter (c := cf [] [0] [] [] [] []) (vs := [.av (expTop e)]) (L := []) (m := m) false tbOk Tryz.mixed Tryz.func15 rfl (k := 1) (by show fnOk [] _ _ _ = true; decide +kernel) rfl (Good.nil m) ?_
 refine ⟨fun F0 => ?_⟩
 have hbd0_3 : e.v.s.length ≤ 140737488355328 := (F0 0 3 (Nat.le_of_ble_eq_true rfl))
 have hbd0_4 : e.v.l.length ≤ 140737488355328 := bd_map (F0 0 4 (Nat.le_of_ble_eq_true rfl))
 have hbd0_5 : e.v.f.length ≤ 140737488355328 := bd_map (F0 0 5 (Nat.le_of_ble_eq_true rfl))
 have hbd0_6 : e.s.length ≤ 140737488355328 := (F0 0 6 (Nat.le_of_ble_eq_true rfl))
 have hbd0_7 : e.t.length ≤ 140737488355328 := (F0 0 7 (Nat.le_of_ble_eq_true rfl))
 have hbd0_8 : e.a.length ≤ 140737488355328 := bd_map (F0 0 8 (Nat.le_of_ble_eq_true rfl))
 have hbd0_9 : e.n.length ≤ 140737488355328 := bd_map (F0 0 9 (Nat.le_of_ble_eq_true rfl))
 refine sq ?_
 refine lp (σ := (List (List UInt8)) × Int) [] [1, 3, 4] 1 (fun ⟨al, i⟩ => ([(1, .loc 0 0), (3, .own (al.map strAV)), (4, vI i)], [.cells [vI e.kind, vI e.v.kind, vI e.v.n, vS e.v.s, vL (e.v.l.map valIn), vL (e.v.f.map fldIn), vS e.s, vS e.t, vL (e.a.map expIn), vL (e.n.map strAV)]], m)) (fun ⟨al, i⟩ => 0 ≤ i ∧ i ≤ e.a.length ∧ al = (tlE k e).take i.toNat) (fun ⟨al, i⟩ => e.a.length - i.toNat) ([], 0) ⟨rfl, rfl⟩ ?_ ?_
 · try dsimp only
   exact ⟨by omega, by omega, by simp⟩
 rintro ⟨al, i⟩ hI
 dsimp only at hI
 have hll : (al.length : Int) = i := by rw [hI.2.2, List.length_take]; omega
 refine sq ?_
 refine ln ?_
 refine an (fun h1 => ?_) (fun h1 => ?_)
 · have hkl := kid_len (k := k) (hka _ (gI_mem hI.1 h1)) (gI_mem hI.1 h1) h60
   refine sq ?_
   refine ixg expTop expIn_eq (by omega) ?_
   refine call0 (fun _ => ih (gI e.a i) (by have := depE_mem (gI_mem (l := e.a) (i := i) hI.1 (by assumption)); omega) (hka _ (gI_mem hI.1 (by assumption))) (by have := depE_mem (gI_mem (l := e.a) (i := i) hI.1 (by assumption)); omega)) rfl ?_
   refine sq ?_
   refine an (fun h2 => ?_) (fun h2 => ?_)
   · have hl9 := n9 h2
     have hnl := name_mem (m9 h2) (gI_mem (l := e.n) hI.1 (by omega))
     refine ix (by omega) ?_
     refine an (by (first | omega | (simp only [List.length_append, List.length_cons, List.length_nil]; omega))) ?_
     refine an (by (first | omega | (simp only [List.length_append, List.length_cons, List.length_nil]; omega))) ?_
     refine ap strAV al ([((gI e.n i) ++ ([58, 32] : List UInt8)) ++ (textE k (gI e.a i))] : List (List UInt8)) rfl rfl (fun _ => ⟨rfl, rfl⟩) (by (simp only [List.length_append, List.length_cons, List.length_nil]; omega)) ?_
     refine an (by omega) ?_
     refine ⟨(al ++ ([((gI e.n i) ++ ([58, 32] : List UInt8)) ++ (textE k (gI e.a i))] : List (List UInt8)), i + 1), ⟨rfl, rfl⟩, ?_, ?_⟩
     · try dsimp only
       exact ⟨by omega, by omega, by rw [take_succ_gI hI.1 (by omega), ← hI.2.2, tlE_9 h2 hl9 hI.1 h1]⟩
     try dsimp only
     omega
   refine ap strAV al ([textE k (gI e.a i)] : List (List UInt8)) rfl rfl (fun _ => ⟨rfl, rfl⟩) (by (simp only [List.length_append, List.length_cons, List.length_nil]; omega)) ?_
   refine an (by omega) ?_
   refine ⟨(al ++ ([textE k (gI e.a i)] : List (List UInt8)), i + 1), ⟨rfl, rfl⟩, ?_, ?_⟩
   · try dsimp only
     exact ⟨by omega, by omega, by rw [take_succ_gI hI.1 (by omega), ← hI.2.2, tlE_o h2 hI.1 h1]⟩
   try dsimp only
   omega
 have hae : al = tlE k e := by have := hI.2.2; rwa [take_full (by omega)] at this
 have hjb := joinA_bd (g := id) (c := 1300000) al true (by rw [hae]; exact htm)
 refine sq ?_
 refine lp (σ := (List UInt8) × Int) [] [1, 3, 6, 7] 1 (fun ⟨w_, j⟩ => ([(1, .loc 0 0), (3, .own (al.map strAV)), (6, vS w_), (7, vI j)], [.cells [vI e.kind, vI e.v.kind, vI e.v.n, vS e.v.s, vL (e.v.l.map valIn), vL (e.v.f.map fldIn), vS e.s, vS e.t, vL (e.a.map expIn), vL (e.n.map strAV)]], m)) (fun ⟨w_, j⟩ => 0 ≤ j ∧ j ≤ al.length ∧ joinA id al true = w_ ++ joinA id (al.drop j.toNat) (j == 0)) (fun ⟨w_, j⟩ => al.length - j.toNat) ([], 0) ⟨rfl, rfl⟩ ?_ ?_
 · try dsimp only
   exact ⟨by omega, by omega, rfl⟩
 rintro ⟨w_, j⟩ hI2
 dsimp only at hI2
 have hjl := congrArg List.length hI2.2.2
 simp only [List.length_append] at hjl
 refine sq ?_
 refine ln ?_
 refine an (fun h3 => ?_) (fun h3 => ?_)
 · have hgj : (gI al j).length ≤ 1300000 := by rw [hae]; exact htm _ (gI_mem hI2.1 (by omega))
   refine sq ?_
   refine sq ?_
   refine an (fun h4 => ?_) (fun h4 => ?_)
   · have hst := joinA_1 (g := id) (l := al) hI2.1 h3 h4
     refine an (by (first | omega | (simp only [List.length_append, List.length_cons, List.length_nil]; omega))) ?_
     refine ix (by omega) ?_
     refine an (by (first | omega | (simp only [List.length_append, List.length_cons, List.length_nil]; omega))) ?_
     refine an (by omega) ?_
     refine ⟨((w_ ++ ([44, 32] : List UInt8)) ++ (gI al j), j + 1), ⟨rfl, rfl⟩, ?_, ?_⟩
     · try dsimp only
       exact ⟨by omega, by omega, by rw [hI2.2.2, hst]; simp only [List.append_assoc, List.nil_append, id]⟩
     try dsimp only
     omega
   have hst := joinA_0 (g := id) (l := al) hI2.1 h3 h4
   refine ix (by omega) ?_
   refine an (by (first | omega | (simp only [List.length_append, List.length_cons, List.length_nil]; omega))) ?_
   refine an (by omega) ?_
   refine ⟨(w_ ++ (gI al j), j + 1), ⟨rfl, rfl⟩, ?_, ?_⟩
   · try dsimp only
     exact ⟨by omega, by omega, by rw [hI2.2.2, hst]; simp only [List.append_assoc, List.nil_append, id]⟩
   try dsimp only
   omega
 have hwe : w_ = joinA id al true := by have := hI2.2.2; rw [joinA_end (by omega), List.append_nil] at this; exact this.symm
 have hwl := congrArg List.length hwe
 refine sq ?_
 refine an (fun h5 => ?_) (fun h5 => ?_)
 · have := name_len (s2 h5)
   refine an (by (first | omega | (simp only [List.length_append, List.length_cons, List.length_nil]; omega))) ?_
   refine rt0 rfl fun _ => ?_
   show K (.str (([105, 110, 46] : List UInt8) ++ e.s)) m
   have hx : textE (k + 1) e = [105, 110, 46] ++ e.s := by rw [textE_x, if_neg (by omega), if_pos (by omega)]
   rw [hx] at hK
   exact hK
 refine an (fun h6 => ?_) (fun h6 => ?_)
 · have := name_len (s3 h6).1
   have := name_len (s3 h6).2
   refine an (by (first | omega | (simp only [List.length_append, List.length_cons, List.length_nil]; omega))) ?_
   refine an (by (first | omega | (simp only [List.length_append, List.length_cons, List.length_nil]; omega))) ?_
   refine an (by (first | omega | (simp only [List.length_append, List.length_cons, List.length_nil]; omega))) ?_
   refine rt0 rfl fun _ => ?_
   show K (.str (((([114, 101, 115, 46] : List UInt8) ++ e.s) ++ ([46] : List UInt8)) ++ e.t)) m
   have hx : textE (k + 1) e = [114, 101, 115, 46] ++ e.s ++ [46] ++ e.t := by rw [textE_x, if_neg (by omega), if_neg (by omega), if_pos (by omega)]
   rw [hx] at hK
   exact hK
 refine an (fun h7 => ?_) (fun h7 => ?_)
 · have := name_len (s4 h7).1
   have := name_len (s4 h7).2
   refine an (by (first | omega | (simp only [List.length_append, List.length_cons, List.length_nil]; omega))) ?_
   refine an (by (first | omega | (simp only [List.length_append, List.length_cons, List.length_nil]; omega))) ?_
   refine an (by (first | omega | (simp only [List.length_append, List.length_cons, List.length_nil]; omega))) ?_
   refine rt0 rfl fun _ => ?_
   show K (.str (((([115, 116, 97, 99, 107, 46] : List UInt8) ++ e.s) ++ ([46] : List UInt8)) ++ e.t)) m
   have hx : textE (k + 1) e = [115, 116, 97, 99, 107, 46] ++ e.s ++ [46] ++ e.t := by rw [textE_x, if_neg (by omega), if_neg (by omega), if_neg (by omega), if_pos (by omega)]
   rw [hx] at hK
   exact hK
 refine an (fun h8 => ?_) (fun h8 => ?_)
 · have hl5 := n5 h8
   have g0 : gI al 0 = textE k (gI e.a 0) := by rw [hae]; exact tlE_o (by omega) (by omega) (by omega)
   have b0 : (gI al 0).length ≤ 1300000 := by rw [hae]; exact htm _ (gI_mem (by omega) (by omega))
   have g1 : gI al 1 = textE k (gI e.a 1) := by rw [hae]; exact tlE_o (by omega) (by omega) (by omega)
   have b1 : (gI al 1).length ≤ 1300000 := by rw [hae]; exact htm _ (gI_mem (by omega) (by omega))
   refine ix (by omega) ?_
   refine an (by (first | omega | (simp only [List.length_append, List.length_cons, List.length_nil]; omega))) ?_
   refine an (by (first | omega | (simp only [List.length_append, List.length_cons, List.length_nil]; omega))) ?_
   refine ix (by omega) ?_
   refine an (by (first | omega | (simp only [List.length_append, List.length_cons, List.length_nil]; omega))) ?_
   refine an (by (first | omega | (simp only [List.length_append, List.length_cons, List.length_nil]; omega))) ?_
   refine rt0 rfl fun _ => ?_
   show K (.str ((((([40] : List UInt8) ++ (gI al 0)) ++ ([32, 43, 32] : List UInt8)) ++ (gI al 1)) ++ ([41] : List UInt8))) m
   have hx : textE (k + 1) e = [40] ++ textE k (gI e.a 0) ++ opM e.kind ++ textE k (gI e.a 1) ++ [41] := by rw [textE_x, if_neg (by omega), if_neg (by omega), if_neg (by omega), if_neg (by omega), if_pos (by omega)]
   have ho : opM e.kind = [32, 43, 32] := by rw [h8]; exact opM_5
   rw [hx, ho] at hK
   rw [g0, g1]
   exact hK
 refine an (fun h9 => ?_) (fun h9 => ?_)
 · have hl5 := n6 h9
   have g0 : gI al 0 = textE k (gI e.a 0) := by rw [hae]; exact tlE_o (by omega) (by omega) (by omega)
   have b0 : (gI al 0).length ≤ 1300000 := by rw [hae]; exact htm _ (gI_mem (by omega) (by omega))
   have g1 : gI al 1 = textE k (gI e.a 1) := by rw [hae]; exact tlE_o (by omega) (by omega) (by omega)
   have b1 : (gI al 1).length ≤ 1300000 := by rw [hae]; exact htm _ (gI_mem (by omega) (by omega))
   refine ix (by omega) ?_
   refine an (by (first | omega | (simp only [List.length_append, List.length_cons, List.length_nil]; omega))) ?_
   refine an (by (first | omega | (simp only [List.length_append, List.length_cons, List.length_nil]; omega))) ?_
   refine ix (by omega) ?_
   refine an (by (first | omega | (simp only [List.length_append, List.length_cons, List.length_nil]; omega))) ?_
   refine an (by (first | omega | (simp only [List.length_append, List.length_cons, List.length_nil]; omega))) ?_
   refine rt0 rfl fun _ => ?_
   show K (.str ((((([40] : List UInt8) ++ (gI al 0)) ++ ([32, 61, 61, 32] : List UInt8)) ++ (gI al 1)) ++ ([41] : List UInt8))) m
   have hx : textE (k + 1) e = [40] ++ textE k (gI e.a 0) ++ opM e.kind ++ textE k (gI e.a 1) ++ [41] := by rw [textE_x, if_neg (by omega), if_neg (by omega), if_neg (by omega), if_neg (by omega), if_pos (by omega)]
   have ho : opM e.kind = [32, 61, 61, 32] := by rw [h9]; exact opM_6
   rw [hx, ho] at hK
   rw [g0, g1]
   exact hK
 refine an (fun h10 => ?_) (fun h10 => ?_)
 · have hl5 := n7 h10
   have g0 : gI al 0 = textE k (gI e.a 0) := by rw [hae]; exact tlE_o (by omega) (by omega) (by omega)
   have b0 : (gI al 0).length ≤ 1300000 := by rw [hae]; exact htm _ (gI_mem (by omega) (by omega))
   have g1 : gI al 1 = textE k (gI e.a 1) := by rw [hae]; exact tlE_o (by omega) (by omega) (by omega)
   have b1 : (gI al 1).length ≤ 1300000 := by rw [hae]; exact htm _ (gI_mem (by omega) (by omega))
   have g2 : gI al 2 = textE k (gI e.a 2) := by rw [hae]; exact tlE_o (by omega) (by omega) (by omega)
   have b2 : (gI al 2).length ≤ 1300000 := by rw [hae]; exact htm _ (gI_mem (by omega) (by omega))
   refine ix (by omega) ?_
   refine an (by (first | omega | (simp only [List.length_append, List.length_cons, List.length_nil]; omega))) ?_
   refine an (by (first | omega | (simp only [List.length_append, List.length_cons, List.length_nil]; omega))) ?_
   refine ix (by omega) ?_
   refine an (by (first | omega | (simp only [List.length_append, List.length_cons, List.length_nil]; omega))) ?_
   refine an (by (first | omega | (simp only [List.length_append, List.length_cons, List.length_nil]; omega))) ?_
   refine ix (by omega) ?_
   refine an (by (first | omega | (simp only [List.length_append, List.length_cons, List.length_nil]; omega))) ?_
   refine an (by (first | omega | (simp only [List.length_append, List.length_cons, List.length_nil]; omega))) ?_
   refine rt0 rfl fun _ => ?_
   show K (.str ((((((([40] : List UInt8) ++ (gI al 0)) ++ ([32, 63, 32] : List UInt8)) ++ (gI al 1)) ++ ([32, 58, 32] : List UInt8)) ++ (gI al 2)) ++ ([41] : List UInt8))) m
   have hx : textE (k + 1) e = [40] ++ textE k (gI e.a 0) ++ [32, 63, 32] ++ textE k (gI e.a 1) ++ [32, 58, 32] ++ textE k (gI e.a 2) ++ [41] := by rw [textE_x, if_neg (by omega), if_neg (by omega), if_neg (by omega), if_neg (by omega), if_neg (by omega), if_pos (by omega)]
   rw [hx] at hK
   rw [g0, g1, g2]
   exact hK
 refine an (fun h11 => ?_) (fun h11 => ?_)
 · refine an (by (first | omega | (simp only [List.length_append, List.length_cons, List.length_nil]; omega))) ?_
   refine an (by (first | omega | (simp only [List.length_append, List.length_cons, List.length_nil]; omega))) ?_
   refine rt0 rfl fun _ => ?_
   show K (.str ((([91] : List UInt8) ++ w_) ++ ([93] : List UInt8))) m
   have hx : textE (k + 1) e = [91] ++ joinA (textE k) e.a true ++ [93] := by rw [textE_x, if_neg (by omega), if_neg (by omega), if_neg (by omega), if_neg (by omega), if_neg (by omega), if_neg (by omega), if_pos (by omega)]
   have q : w_ = joinA (textE k) e.a true := by rw [hwe, hae, tlE, if_neg (by omega), joinA_map]; rfl
   rw [hx, ← q] at hK
   exact hK
 refine an (fun h12 => ?_) (fun h12 => ?_)
 · refine an (by (first | omega | (simp only [List.length_append, List.length_cons, List.length_nil]; omega))) ?_
   refine an (by (first | omega | (simp only [List.length_append, List.length_cons, List.length_nil]; omega))) ?_
   refine rt0 rfl fun _ => ?_
   show K (.str ((([123] : List UInt8) ++ w_) ++ ([125] : List UInt8))) m
   have hx : textE (k + 1) e = [123] ++ joinA (fun p : Str × Exp => p.1 ++ [58, 32] ++ textE k p.2) (e.n.zip e.a) true ++ [125] := by rw [textE_x, if_neg (by omega), if_neg (by omega), if_neg (by omega), if_neg (by omega), if_neg (by omega), if_neg (by omega), if_neg (by omega), if_pos (by omega)]
   have q : w_ = joinA (fun p : Str × Exp => p.1 ++ [58, 32] ++ textE k p.2) (e.n.zip e.a) true := by rw [hwe, hae, tlE, if_pos h12, joinA_map]; rfl
   rw [hx, ← q] at hK
   exact hK
 refine an (fun h13 => ?_) (fun h13 => ?_)
 · have hl5 := n10 h13
   have g0 : gI al 0 = textE k (gI e.a 0) := by rw [hae]; exact tlE_o (by omega) (by omega) (by omega)
   have b0 : (gI al 0).length ≤ 1300000 := by rw [hae]; exact htm _ (gI_mem (by omega) (by omega))
   have := name_len (s10 h13)
   refine ix (by omega) ?_
   refine an (by (first | omega | (simp only [List.length_append, List.length_cons, List.length_nil]; omega))) ?_
   refine an (by (first | omega | (simp only [List.length_append, List.length_cons, List.length_nil]; omega))) ?_
   refine an (by (first | omega | (simp only [List.length_append, List.length_cons, List.length_nil]; omega))) ?_
   refine rt0 rfl fun _ => ?_
   show K (.str (((([103, 101, 116, 32] : List UInt8) ++ (gI al 0)) ++ ([32] : List UInt8)) ++ e.s)) m
   have hx : textE (k + 1) e = [103, 101, 116, 32] ++ textE k (gI e.a 0) ++ [32] ++ e.s := by rw [textE_x, if_neg (by omega), if_neg (by omega), if_neg (by omega), if_neg (by omega), if_neg (by omega), if_neg (by omega), if_neg (by omega), if_neg (by omega), if_pos (by omega)]
   rw [hx] at hK
   rw [g0]
   exact hK
 refine call0 (fun _ => u_RText (depV e.v + 1) e.v (Nat.lt_succ_self _) (chk_0 (n1 (by omega))).1 (by have := textV_len (v := e.v) (n1 (by omega)); unfold textV at this; omega)) rfl ?_
 refine rt0 rfl fun _ => ?_
 show K (.str (textV e.v)) m
 have hx : textE (k + 1) e = textV e.v := by rw [textE_x, if_pos (by omega)]
 rw [hx] at hK
 exact hK
theorem u_Wrote2 : ∀ (k : Nat) (e : Exp), depE e < k → fmE e → depE e ≤ 60 → ∀ (m : AMem) (K : AV → AMem → Prop), K (.str (textE k e)) m → ACalls Tryz.prog 15 [expTop e] m K
  | 0, _, h => absurd h (Nat.not_lt_zero _)
  | k + 1, e, h => fun hf h6 m K hK => u_Wrote1 k e (u_Wrote2 k) h hf h6 m K hK
theorem u_Wrote (e : Exp) (h : exF e = 0) (m : AMem) (K : AV → AMem → Prop) (hK : K (.str (textX e)) m) : ACalls Tryz.prog 15 [expTop e] m K :=
  u_Wrote2 (depE e + 1) e (Nat.lt_succ_self _) (exF_0 h).1 (exF_dep h) m K hK
end Go.Proofs
end
section
namespace Go.Proofs
open Go Go.Aw Go.Sx
set_option maxRecDepth 100000
def S0 : Str := [40, 105, 110, 46, 97, 32, 43, 32, 55, 41]
def T0 : List Tok := [(4, 0, [40]), (1, 1, [105, 110]), (4, 3, [46]), (1, 4, [97]), (4, 6, [43]), (2, 8, [55]), (4, 9, [41])]
def eA : Exp := .mk 2 zV [97] [] [] []
def eB : Exp := .mk 1 (.mk 1 7 [] [] []) [] [] [] []
def e0 : Exp := .mk 5 zV [] [] [eA, eB] []
theorem tok0 : tokR S0 = (T0, 0, 0) := by decide +kernel
theorem ex0 : exprP T0 10 6 0 = .ok e0 7 := by kernel_rfl
theorem fm0 : fmE e0 := by
  have h1 : NodeOk e0 := .inr ⟨rfl, .inr (.inr (.inl ⟨.inl rfl, rfl, rfl, rfl, rfl⟩))⟩
  have h2 : NodeOk eA := .inr ⟨rfl, .inl ⟨rfl, by decide +kernel, rfl, rfl, rfl⟩⟩
  have h3 : NodeOk eB := .inl ⟨rfl, rfl, rfl, ⟨by decide, by decide +kernel⟩, rfl, rfl⟩
  refine (fmE_eq e0).2 ⟨h1, ?_⟩
  show fmL [eA, eB]
  simp only [fmL, fmE_eq]
  refine ⟨⟨h2, ?_⟩, ⟨h3, ?_⟩, trivial⟩
  · show fmL []; simp only [fmL]
  · show fmL []; simp only [fmL]
theorem exF0 : exF e0 = 0 := by
  rw [exF_few ⟨by decide +kernel, by decide +kernel⟩]; exact fmI_y fm0
theorem parse0 : parseP S0 = (e0, 0, 0) := by
  have hw : wholeP T0 10 0 = .ok e0 7 := by
    rw [wholeP, ex0, PR.bind, if_pos (show (PR.ok e0 7).f = 0 from rfl)]
    show (if exF e0 = 0 then _ else _) = _
    rw [if_pos exF0]; rfl
  rw [parseP, tok0]
  show (if (0 : Int) = 0 then _ else _) = _
  rw [if_pos rfl, show ((S0.length : Nat) : Int) = 10 from rfl]
  dsimp only
  rw [hw]
  rfl
theorem text0 : textX e0 = S0 := by
  have i7 : Lib.itoa 7 = [55] := by
    rw [Lib.itoa, if_neg (by decide), show (7 : Int).toNat = 7 from rfl, Lib.decDigits_one (by decide)]; rfl
  have hv : textV (.mk 1 7 [] [] []) = [55] := by rw [textV, textF_x, if_neg (by decide), if_pos (by decide)]; exact i7
  have hd : depE e0 = 3 := by decide +kernel
  have h1 : textE 3 eA = [105, 110, 46, 97] := by rw [textE_x, if_neg (by decide), if_pos (by decide)]; rfl
  have h2 : textE 3 eB = [55] := by rw [textE_x, if_pos (by decide)]; exact hv
  rw [textX, hd, textE_x, if_neg (by decide), if_neg (by decide), if_neg (by decide), if_neg (by decide), if_pos (by decide)]
  show [40] ++ textE 3 eA ++ opM 5 ++ textE 3 eB ++ [41] = _
  rw [h1, h2, opM_5]; rfl
theorem eEq_refl (e : Exp) : eEq e e = true := eEq_true rfl
set_option maxHeartbeats 4000000 in
theorem u_load1 (e : Exp) (most : Int) (ih : ∀ x : Exp, depE x < depE e → ∀ (m : AMem) (K : AV → AMem → Prop), K (.int .i64 (loadE most x)) m → ACalls Tryz.prog 54 [expTop x, .int .i64 most] m K) (m : AMem)  (K : AV → AMem → Prop) (hK : K (.int .i64 (loadE most e)) m) : ACalls Tryz.prog 54 [expTop e, .int .i64 most] m K := by
 refine enter (c := cf [20, 24, 44, 65] [0] [3, 7] [] [] []) (vs := [.av (expTop e), .av (.int .i64 most)]) (L := []) (m := m) false tbOk Tryz.mixed Tryz.func54 rfl (k := 2) (by show fnOk [] _ _ _ = true; decide +kernel) rfl (Good.nil m) ?_
 refine ⟨fun F0 => ?_⟩
 have hbd0_3 : e.v.s.length ≤ 140737488355328 := (F0 0 3 (Nat.le_of_ble_eq_true rfl))
 have hbd0_4 : e.v.l.length ≤ 140737488355328 := bd_map (F0 0 4 (Nat.le_of_ble_eq_true rfl))
 have hbd0_5 : e.v.f.length ≤ 140737488355328 := bd_map (F0 0 5 (Nat.le_of_ble_eq_true rfl))
 have hbd0_6 : e.s.length ≤ 140737488355328 := (F0 0 6 (Nat.le_of_ble_eq_true rfl))
 have hbd0_7 : e.t.length ≤ 140737488355328 := (F0 0 7 (Nat.le_of_ble_eq_true rfl))
 have hbd0_8 : e.a.length ≤ 140737488355328 := bd_map (F0 0 8 (Nat.le_of_ble_eq_true rfl))
 have hbd0_9 : e.n.length ≤ 140737488355328 := bd_map (F0 0 9 (Nat.le_of_ble_eq_true rfl))
 refine an (by omega) ?_
 refine an (by omega) ?_
 refine pure0 (fun _ => u_weight most (depV e.v + 1) e.v (Nat.lt_succ_self _)) ?_
 refine ln ?_
 refine sq ?_
 refine lp (σ := Int × Int) [] [1, 2, 5, 6] 1 (fun ⟨n_, i⟩ => ([(1, vI most), (2, .loc 0 0), (5, vI n_), (6, vI i)], [.cells [vI e.kind, vI e.v.kind, vI e.v.n, vS e.v.s, vL (e.v.l.map valIn), vL (e.v.f.map fldIn), vS e.s, vS e.t, vL (e.a.map expIn), vL (e.n.map strAV)]], m)) (fun ⟨n_, i⟩ => 0 ≤ i ∧ i ≤ e.n.length ∧ namesL most e.n (loadN most e) = namesL most (e.n.drop i.toNat) n_) (fun ⟨n_, i⟩ => e.n.length - i.toNat) (IntKind.i64.wrap ((IntKind.i64.wrap (((1 + (e.s.length : Int)) + (e.t.length : Int)) + (weightV most e.v))) + (e.n.length : Int)), 0) ⟨rfl, rfl⟩ ?_ ?_
 · try dsimp only
   exact ⟨by omega, by omega, rfl⟩
 rintro ⟨n_, i⟩ hI
 dsimp only at hI
 refine sq ?_
 refine mg [1, 2, 5, 6] 34 ((decide (i < (e.n.length : Int))) && (decide (n_ ≤ most))) ?_ ?_
 · repeat' first
    | exact ⟨⟨_, rfl, by grind [SB.val]⟩, rfl⟩
    | refine an (fun _ => ?_) (fun _ => ?_)
    | refine ln ?_
 refine an (fun h1 => ?_) (fun h1 => ?_)
 · replace h1 : (i < (e.n.length : Int)) ∧ (n_ ≤ most) := ⟨(of_decide_eq_true (bandL h1)), (of_decide_eq_true (bandR h1))⟩
   refine sq ?_
   refine ix (by omega) ?_
   refine an (by omega) ?_
   refine ⟨(IntKind.i64.wrap (n_ + ((gI e.n i).length : Int)), i + 1), ⟨rfl, rfl⟩, ?_, ?_⟩
   · try dsimp only
     exact ⟨by omega, by omega, by rw [hI.2.2, namesL_drop hI.1 h1.1 h1.2]⟩
   try dsimp only
   omega
 replace h1 : ((e.n.length : Int) ≤ i) ∨ (most < n_) := ((bandF h1).imp (fun q => (Int.not_lt.1 (of_decide_eq_false q))) (fun q => (Int.not_le.1 (of_decide_eq_false q))))
 refine sq ?_
 refine lp (σ := Int × Int) [] [1, 2, 5, 7] 1 (fun ⟨n2, k⟩ => ([(1, vI most), (2, .loc 0 0), (5, vI n2), (7, vI k)], [.cells [vI e.kind, vI e.v.kind, vI e.v.n, vS e.v.s, vL (e.v.l.map valIn), vL (e.v.f.map fldIn), vS e.s, vS e.t, vL (e.a.map expIn), vL (e.n.map strAV)]], m)) (fun ⟨n2, k⟩ => 0 ≤ k ∧ k ≤ e.a.length ∧ loadE most e = loadL most (e.a.drop k.toNat) n2) (fun ⟨n2, k⟩ => e.a.length - k.toNat) (n_, 0) ⟨rfl, rfl⟩ ?_ ?_
 · try dsimp only
   refine ⟨by omega, by omega, ?_⟩
   have q : namesL most (e.n.drop i.toNat) n_ = n_ := by
     by_cases hn : most < n_
     · exact namesL_stop _ _ _ hn
     · have hi : (e.n.length : Int) ≤ i := by
         rcases h1 with h | h <;> omega
       rw [List.drop_eq_nil_of_le (by omega)]; simp only [namesL]
   rw [loadE_eq, hI.2.2, q]; rfl
 rintro ⟨n2, k⟩ hI2
 dsimp only at hI2
 refine sq ?_
 refine mg [1, 2, 5, 7] 54 ((decide (k < (e.a.length : Int))) && (decide (n2 ≤ most))) ?_ ?_
 · repeat' first
    | exact ⟨⟨_, rfl, by grind [SB.val]⟩, rfl⟩
    | refine an (fun _ => ?_) (fun _ => ?_)
    | refine ln ?_
 refine an (fun h2 => ?_) (fun h2 => ?_)
 · replace h2 : (k < (e.a.length : Int)) ∧ (n2 ≤ most) := ⟨(of_decide_eq_true (bandL h2)), (of_decide_eq_true (bandR h2))⟩
   refine sq ?_
   refine ixg expTop expIn_eq (by omega) ?_
   refine call0 (fun _ => ih (gI e.a k) (depE_mem (gI_mem hI2.1 h2.1))) rfl ?_
   refine an (by omega) ?_
   refine ⟨(IntKind.i64.wrap (n2 + (loadE most (gI e.a k))), k + 1), ⟨rfl, rfl⟩, ?_, ?_⟩
   · try dsimp only
     exact ⟨by omega, by omega, by rw [hI2.2.2, loadL_drop hI2.1 h2.1 h2.2]⟩
   try dsimp only
   omega
 replace h2 : ((e.a.length : Int) ≤ k) ∨ (most < n2) := ((bandF h2).imp (fun q => (Int.not_lt.1 (of_decide_eq_false q))) (fun q => (Int.not_le.1 (of_decide_eq_false q))))
 refine rt0 rfl fun _ => ?_
 show K (.int .i64 n2) m
 have q : loadE most e = n2 := by
   rw [hI2.2.2]
   by_cases hn : most < n2
   · exact loadL_stop _ _ _ hn
   · have hi : (e.a.length : Int) ≤ k := by
       rcases h2 with h | h <;> omega
     rw [List.drop_eq_nil_of_le (by omega)]; simp only [loadL]
 rw [q] at hK; exact hK
theorem u_load (most : Int) : ∀ (n : Nat) (e : Exp), depE e < n → ∀ (m : AMem) (K : AV → AMem → Prop), K (.int .i64 (loadE most e)) m → ACalls Tryz.prog 54 [expTop e, .int .i64 most] m K
  | 0, _, h => absurd h (Nat.not_lt_zero _)
  | n + 1, e, h => fun m K hK => u_load1 e most (fun x hx => u_load most n x (by omega)) m K hK
theorem u_LightExpr (e : Exp)  (m : AMem)  (K : AV → AMem → Prop) (hK : K (.bool (decide (loadE 4000 e ≤ 4000))) m) : ACalls Tryz.prog 10 [expTop e] m K := by
 refine enter (c := cf [] [] [] [] [] []) (vs := [.av (expTop e)]) (L := []) (m := m) false tbOk Tryz.mixed Tryz.func10 rfl (k := 1) (by show fnOk [] _ _ _ = true; decide +kernel) rfl (Good.nil m) ?_
 refine call0 (fun _ => u_load 4000 (depE e + 1) e (Nat.lt_succ_self _)) rfl ?_
 exact rt0 rfl fun _ => hK
set_option maxHeartbeats 1000000 in
theorem u_speaks   (m : AMem)  (K : AV → AMem → Prop) (hT : Tabs m) (hK : K (.bool true) m) : ACalls Tryz.prog 9 [] m K := by
 refine enter (c := cf [] [] [3] [] [] []) (vs := []) (L := []) (m := m) false tbOk Tryz.mixed Tryz.func9 rfl (k := 0) (by show fnOk [] _ _ _ = true; decide +kernel) rfl (Good.nil m) ?_
 refine callT [] [] (.av (.tuple [expTop e0, .int .i64 0, .err 115 0])) rfl (fun bs mm gd ht => fun K hK => u_Parse S0 (by decide) mm (Tabs.up ht hT) K (by rw [parse0]; exact hK)) ?_
 refine callT [] [] (.av (.tuple [.str S0, .err 115 0])) rfl (fun bs mm gd ht => fun K hK => u_LText e0 mm K (Tabs.up ht hT) (by rw [exF0, if_pos rfl, text0]; exact hK)) ?_
 refine mg [] 0 ((((((0 : Int) == 0) && ((0 : Int) == 0)) && (0 == 0)) && (S0 == ([40, 105, 110, 46, 97, 32, 43, 32, 55, 41] : List UInt8))) && (e0.kind == 5)) ?_ ?_
 · repeat' first
    | exact ⟨⟨_, rfl, by grind [SB.val, e0, S0]⟩, rfl⟩
    | refine an (fun _ => ?_) (fun _ => ?_)
    | refine call0 (fun _ => u_same 0 0 (by decide)) rfl ?_
 refine rt0 rfl fun _ => ?_
 show K (.bool ((((((0 : Int) == 0) && ((0 : Int) == 0)) && (0 == 0)) && (S0 == ([40, 105, 110, 46, 97, 32, 43, 32, 55, 41] : List UInt8))) && (e0.kind == 5))) m
 exact hK
set_option maxHeartbeats 8000000 in
theorem u_ExprSays (e : Exp) (s : Str) (hz : szE e ≤ 1000000000) (m : AMem)  (K : AV → AMem → Prop) (hT : Tabs m) (hK : K (.bool true) m) : ACalls Tryz.prog 3 [expTop e, .str s] m K := by
 refine enter (c := cf [] [] [2, 6, 10] [] [] []) (vs := [.av (expTop e), .av (.str s)]) (L := []) (m := m) false tbOk Tryz.mixed Tryz.func3 rfl (k := 2) (by show fnOk [] _ _ _ = true; decide +kernel) rfl (Good.nil m) ?_
 refine callT [] [] (vB true) rfl (fun bs mm gd ht => fun K hK => u_speaks mm K (Tabs.up ht hT) hK) ?_
 refine sq ?_
 refine mg [1, 2, 5] 25 (((!true) || (!(decide (loadE 4000 e ≤ 4000)))) || (decide (3000 < (s.length : Int)))) ?_ ?_
 · repeat' first
    | exact ⟨⟨_, rfl, by grind [SB.val]⟩, rfl⟩
    | refine an (fun _ => ?_) (fun _ => ?_)
    | refine call0 (fun _ => u_LightExpr e) rfl ?_
 refine an (fun h1 => ?_) (fun h1 => ?_)
 · replace h1 : ((true = false) ∨ (decide (loadE 4000 e ≤ 4000) = false)) ∨ (3000 < (s.length : Int)) := ((borT h1).imp (fun q => ((borT q).imp (fun q => (bnT q)) (fun q => (bnT q)))) (fun q => (of_decide_eq_true q)))
   exact rt0 rfl fun _ => hK
 replace h1 : ((true = true) ∧ (decide (loadE 4000 e ≤ 4000) = true)) ∧ ((s.length : Int) ≤ 3000) := ⟨⟨(bnF (borL (borL h1))), (bnF (borR (borL h1)))⟩, (Int.not_lt.1 (of_decide_eq_false (borR h1)))⟩
 refine call0 (fun _ => u_ExprFault e hz) rfl ?_
 refine callT [] [] (.av (.tuple [.str (if exF e = 0 then textX e else []), .err 115 (exF e)])) rfl (fun bs mm gd ht => fun K hK => u_LText e mm K (Tabs.up ht hT) hK) ?_
 refine sq ?_
 refine mg [1] 69 (((((!((exF e) == (exF e))) || (!((exF e) == (exF e)))) || ((decide (0 < exF e)) && (!((if exF e = 0 then textX e else []) == ([]))))) || (((exF e) == 0) && (!((if exF e = 0 then textX e else []) == (textX e))))) || (!(eEq e e))) ?_ ?_
 · repeat' first
    | exact ⟨⟨_, rfl, by grind [SB.val, eEq_refl, exF_nn]⟩, rfl⟩
    | refine an (fun _ => ?_) (fun _ => ?_)
    | refine pure0 (fun _ => u_LCheck e) ?_
    | refine pure0 (fun _ => u_same (exF e) (exF e) (by first | exact exF_nn _ | exact parseP_nn _)) ?_
    | refine pure0 (fun _ => u_Wrote e (by assumption)) ?_
    | refine pure0 (fun _ => u_CopyExpr e hz) ?_
    | refine pure0 (fun _ => u_SameExpr e e) ?_
 refine an (fun h2 => ?_) (fun h2 => ?_)
 · replace h2 : ((((exF e ≠ exF e) ∨ (exF e ≠ exF e)) ∨ ((0 < exF e) ∧ ((if exF e = 0 then textX e else []) ≠ []))) ∨ ((exF e = 0) ∧ ((if exF e = 0 then textX e else []) ≠ textX e))) ∨ (eEq e e = false) := ((borT h2).imp (fun q => ((borT q).imp (fun q => ((borT q).imp (fun q => ((borT q).imp (fun q => (ne_of_beq_false (bnT q))) (fun q => (ne_of_beq_false (bnT q))))) (fun q => ⟨(of_decide_eq_true (bandL q)), (ne_of_beq_false (bnT (bandR q)))⟩))) (fun q => ⟨(eq_of_beq (bandL q)), (ne_of_beq_false (bnT (bandR q)))⟩))) (fun q => (bnT q)))
   exfalso
   rcases h2 with (((h | h) | ⟨h, h3⟩) | ⟨h, h3⟩) | h
   · exact h rfl
   · exact h rfl
   · exact h3 (if_neg (by omega))
   · exact h3 (if_pos h)
   · rw [eEq_refl] at h; cases h
 replace h2 : ((((exF e = exF e) ∧ (exF e = exF e)) ∧ ((exF e ≤ 0) ∨ ((if exF e = 0 then textX e else []) = []))) ∧ ((exF e ≠ 0) ∨ ((if exF e = 0 then textX e else []) = textX e))) ∧ (eEq e e = true) := ⟨⟨⟨⟨(eq_of_beq (bnF (borL (borL (borL (borL h2)))))), (eq_of_beq (bnF (borR (borL (borL (borL h2))))))⟩, ((bandF (borR (borL (borL h2)))).imp (fun q => (Int.not_lt.1 (of_decide_eq_false q))) (fun q => (eq_of_beq (bnF q))))⟩, ((bandF (borR (borL h2))).imp (fun q => (ne_of_beq_false q)) (fun q => (eq_of_beq (bnF q))))⟩, (bnF (borR h2))⟩
 refine callT [] [] (.av (.tuple [expTop ((parseP s).1), .int .i64 ((parseP s).2.1), .err 115 ((parseP s).2.2)])) rfl (fun bs mm gd ht => fun K hK => u_Parse s (by omega) mm (Tabs.up ht hT) K hK) ?_
 refine call0 (fun _ => u_Parsed s (by omega)) rfl ?_
 refine mg [] 4 (((((parseP s).2.2) == ((parseP s).2.2)) && (((parseP s).2.1) == ((parseP s).2.1))) && (eEq ((parseP s).1) ((parseP s).1))) ?_ ?_
 · repeat' first
    | exact ⟨⟨_, rfl, by grind [SB.val, eEq_refl]⟩, rfl⟩
    | refine an (fun _ => ?_) (fun _ => ?_)
    | refine call0 (fun _ => u_same ((parseP s).2.2) ((parseP s).2.2) (by first | exact exF_nn _ | exact parseP_nn _)) rfl ?_
    | refine call0 (fun _ => u_SameExpr ((parseP s).1) ((parseP s).1)) rfl ?_
 refine rt0 rfl fun _ => ?_
 show K (.bool (((((parseP s).2.2) == ((parseP s).2.2)) && (((parseP s).2.1) == ((parseP s).2.1))) && (eEq ((parseP s).1) ((parseP s).1)))) m
 have q : ((((parseP s).2.2 == (parseP s).2.2) && ((parseP s).2.1 == (parseP s).2.1)) && eEq (parseP s).1 (parseP s).1) = true := by rw [eEq_refl]; simp
 rw [q]; exact hK
end Go.Proofs
end
