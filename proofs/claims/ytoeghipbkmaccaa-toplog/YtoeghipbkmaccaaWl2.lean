import Derived.Test.YtoeghipbkmaccaaProg
import Derived.Test.YtoeghipbkmaccaaMix
import Derived.Test.YtoeghipbkmaccaaWxe
import Derived.Test.YtoeghipbkmaccaaWl1
namespace Go.Proofs
open Go Go.Aw
set_option maxRecDepth 100000


abbrev Str := List UInt8
structure Chg where
  name : Str
  data : Str
  to : Str
  kind : Int
instance : Inhabited Chg := ⟨⟨[], [], [], 0⟩⟩
def chgAV (c : Chg) : AV := .agg [.str c.name, .str c.data, .str c.to, .int .i64 c.kind]
structure DSt where
  kept : List (Str × Str)
  now : List (Str × Str)
  wait : List Chg
  fuse : Int
  down : Bool
  steps : Int
def nameB (s : Str) : Bool := s.all (fun c => (decide (97 ≤ c.toNat) && decide (c.toNat ≤ 122)) || (decide (48 ≤ c.toNat) && decide (c.toNat ≤ 57)) || c == 46) && !(s == []) && decide ((s.length : Int) ≤ 24)
def applyC (l : List (Str × Str)) (c : Chg) : List (Str × Str) :=
  if c.kind = 1 ∨ c.kind = 3 then mput l c.name c.data
  else if c.kind = 2 then mput l c.name ((mget l c.name).getD [] ++ c.data)
  else if c.kind = 4 then mdel (mput l c.to ((mget l c.name).getD [])) c.name
  else if c.kind = 5 then mdel l c.name
  else l
def stepF (s : DSt) : DSt × Int :=
  if s.down = true then (s, 10)
  else if s.fuse = 0 then ({ s with down := true, fuse := -1 }, 10)
  else ({ s with fuse := if 0 < s.fuse then s.fuse - 1 else s.fuse, steps := s.steps + 1 }, 0)
def doF (s : DSt) (c : Chg) : DSt × Int :=
  if (stepF s).2 ≠ 0 then stepF s
  else ({ (stepF s).1 with now := applyC s.now c, wait := s.wait ++ [c] }, 0)
def mayF (s : DSt) (name : Str) (size : Int) : Int :=
  if nameB name = false then 3 else if 4000 < size then 2 else if (mget s.now name).isSome = false ∧ 40 ≤ (s.now.length : Int) then 2 else 0
theorem nd2 {a b : Nat} (h : [a, b].Nodup) : a ≠ b := by simpa using h
theorem mget_le {l : List (Str × Str)} {k : Str} {B : Nat} (h : ∀ p ∈ l, p.2.length ≤ B) : ((mget l k).getD []).length ≤ B := by
  induction l with
  | nil => simp [mget]
  | cons p r ih =>
    obtain ⟨a, b⟩ := p
    simp only [mget]
    split
    · exact h (a, b) (by simp)
    · exact ih (fun p hp => h p (by simp [hp]))

theorem nodup_1 (d : Nat) : [d].Nodup := by simp

def dObj (kb nb : Nat) (s : DSt) : AObj := .cells [.map kb, .map nb, .slice true (s.wait.map chgAV), .int .i64 s.fuse, .bool s.down, .int .i64 s.steps]
def mObj (l : List (Str × Str)) : AObj := .map (l.map (mapAV strAV strAV))

set_option maxHeartbeats 2000000 in
theorem u_apply (b : Nat) (l : List (Str × Str)) (c : Chg) (hl : l.length ≤ 1099511627776) (hb : ∀ p ∈ l, p.2.length ≤ 1099511627776) (hc : c.data.length ≤ 1099511627776) (m : AMem)  (K : AV → AMem → Prop) (hK : K (.tuple []) (AMem.wth m [(b, mObj (applyC l c))])) : ACalls Try.prog 75 [.map b, chgAV c] (AMem.wth m [(b, mObj l)]) K := by
 have hg := mget_le (k := c.name) hb
 refine acalls_enter Try.func75 rfl (by decide) (Nat.le_of_ble_eq_true rfl) ?_
 show AWP _ _ _ _ [(0, .map b), (1, chgAV c)] (AMem.wth m [(b, mObj l)])
 refine awp_reg2_seq [] [0, 3] (by decide) ?_
 intro K1 hK1
 refine ar_box rfl (m := m) (L := [(b, mObj l)]) (v := chgAV c) (by rfl) rfl ?_
 intro b1 hb1
 have hFb1 : m b1 = none := wth_none (m := m) (L := [(b, mObj l)]) hb1
 have hNb1 : ([b1, b] : List Nat).Nodup := wth_nodup (m := m) (L := [(b, mObj l)]) hb1 (nodup_1 b)
 show K1 [(0, .map b), (3, .ptr ⟨b1, 0, none⟩)] (AMem.wth m [(b1, .cells [.str c.name, .str c.data, .str c.to, .int .i64 c.kind]), (b, mObj l)])
 refine hK1 _ _ ?_; clear hK1 K1
 refine awp_reg2_seq [] [0, 3, 5] (by decide) ?_
 intro K1 hK1
 refine ⟨⟨rfl, by decide⟩, ?_⟩
 refine ar_loadp rfl (m := m) (L := [(b1, .cells [.str c.name, .str c.data, .str c.to, .int .i64 c.kind]), (b, mObj l)]) (v := .int .i64 c.kind) rfl (wth_get (m := m) (L := [(b1, .cells [.str c.name, .str c.data, .str c.to, .int .i64 c.kind]), (b, mObj l)]) 0 hNb1 rfl) rfl (apartOk_one rfl rfl (Nat.le_of_ble_eq_true rfl)) rfl ?_
 show K1 [(0, .map b), (3, .ptr ⟨b1, 0, none⟩), (5, .int .i64 c.kind)] (AMem.wth m [(b1, .cells [.str c.name, .str c.data, .str c.to, .int .i64 c.kind]), (b, mObj l)])
 refine hK1 _ _ ?_; clear hK1 K1
 refine awp_block ?_
 refine awp_seq_k ?_; intro K2 hK2
 refine awp_reg2_seq [] [0, 3, 5, 6] (by decide) ?_
 intro K1 hK1
 refine ⟨trivial, trivial, ?_⟩
 show K1 [(0, .map b), (3, .ptr ⟨b1, 0, none⟩), (5, .int .i64 c.kind), (6, .bool (c.kind == 1))] (AMem.wth m [(b1, .cells [.str c.name, .str c.data, .str c.to, .int .i64 c.kind]), (b, mObj l)])
 refine hK1 _ _ ?_; clear hK1 K1
 refine awp_cond rfl rfl (fun h1 => ?_) (fun h1 => ?_)
 ·
  replace h1 : c.kind = 1 := (eq_of_beq h1)
  refine awp_skip ?_
  refine hK2 _ _ ?_; clear hK2
  refine awp_cond rfl rfl (fun h2 => ?_) (fun h2 => ?_)
  ·
   replace h2 : c.kind = 1 := (eq_of_beq h2)
   refine awp_reg2 [] [] (by decide) ?_
   intro K1 hK1
   refine ⟨trivial, ⟨rfl, by decide⟩, ?_⟩
   refine ar_loadp rfl (m := m) (L := [(b1, .cells [.str c.name, .str c.data, .str c.to, .int .i64 c.kind]), (b, mObj l)]) (v := .str c.name) rfl (wth_get (m := m) (L := [(b1, .cells [.str c.name, .str c.data, .str c.to, .int .i64 c.kind]), (b, mObj l)]) 0 hNb1 rfl) rfl (apartOk_one rfl rfl (Nat.le_of_ble_eq_true rfl)) rfl ?_
   refine ⟨⟨rfl, by decide⟩, ?_⟩
   refine ar_loadp rfl (m := m) (L := [(b1, .cells [.str c.name, .str c.data, .str c.to, .int .i64 c.kind]), (b, mObj l)]) (v := .str c.data) rfl (wth_get (m := m) (L := [(b1, .cells [.str c.name, .str c.data, .str c.to, .int .i64 c.kind]), (b, mObj l)]) 0 hNb1 rfl) rfl (apartOk_one rfl rfl (Nat.le_of_ble_eq_true rfl)) rfl ?_
   refine ar_mapUpdate rfl (m := m) (L := [(b1, .cells [.str c.name, .str c.data, .str c.to, .int .i64 c.kind]), (b, mObj l)]) 1 strAV strAV strKey_ok l c.name c.data rfl rfl rfl rfl rfl rfl hNb1 (by refine Nat.le_trans (mput_len _ _ _) (by omega)) ?_
   show K1 [] (AMem.wth m [(b1, .cells [.str c.name, .str c.data, .str c.to, .int .i64 c.kind]), (b, mObj (mput l c.name c.data))])
   refine hK1 _ _ ?_; clear hK1 K1
   refine ⟨(AMem.wth m [(b, mObj (mput l c.name c.data))]), (wth_sub2 (m := m) [(b1, .cells [.str c.name, .str c.data, .str c.to, .int .i64 c.kind])] [(b, mObj (mput l c.name c.data))] hNb1 (by simp only [List.map_cons, List.map_nil, List.forall_mem_cons]; exact ⟨hFb1, fun _ h => by cases h⟩)), ?_⟩
   show K (.tuple []) (AMem.wth m [(b, mObj (mput l c.name c.data))])
  
   have e0 : applyC l c = (mput l c.name c.data : List (Str × Str)) := by
    unfold applyC; simp_all
   rw [e0] at hK
   exact hK
  ·
   replace h2 : c.kind ≠ 1 := (ne_of_beq_false h2)
   refine awp_reg2_seq [] [0, 3, 5, 14] (by decide) ?_
   intro K1 hK1
   refine ⟨trivial, trivial, ?_⟩
   show K1 [(0, .map b), (3, .ptr ⟨b1, 0, none⟩), (5, .int .i64 c.kind), (14, .bool (c.kind == 2))] (AMem.wth m [(b1, .cells [.str c.name, .str c.data, .str c.to, .int .i64 c.kind]), (b, mObj l)])
   refine hK1 _ _ ?_; clear hK1 K1
   refine awp_cond rfl rfl (fun h3 => ?_) (fun h3 => ?_)
   ·
    replace h3 : c.kind = 2 := (eq_of_beq h3)
    refine awp_reg2 [] [] (by decide) ?_
    intro K1 hK1
    refine ⟨trivial, ⟨rfl, by decide⟩, ?_⟩
    refine ar_loadp rfl (m := m) (L := [(b1, .cells [.str c.name, .str c.data, .str c.to, .int .i64 c.kind]), (b, mObj l)]) (v := .str c.name) rfl (wth_get (m := m) (L := [(b1, .cells [.str c.name, .str c.data, .str c.to, .int .i64 c.kind]), (b, mObj l)]) 0 hNb1 rfl) rfl (apartOk_one rfl rfl (Nat.le_of_ble_eq_true rfl)) rfl ?_
    refine ar_lookup rfl (m := m) (L := [(b1, .cells [.str c.name, .str c.data, .str c.to, .int .i64 c.kind]), (b, mObj l)]) strAV strAV strKey_ok l c.name [] rfl rfl rfl rfl rfl (wth_get (m := m) (L := [(b1, .cells [.str c.name, .str c.data, .str c.to, .int .i64 c.kind]), (b, mObj l)]) 1 hNb1 rfl) rfl ?_
    refine ⟨⟨rfl, by decide⟩, ?_⟩
    refine ar_loadp rfl (m := m) (L := [(b1, .cells [.str c.name, .str c.data, .str c.to, .int .i64 c.kind]), (b, mObj l)]) (v := .str c.data) rfl (wth_get (m := m) (L := [(b1, .cells [.str c.name, .str c.data, .str c.to, .int .i64 c.kind]), (b, mObj l)]) 0 hNb1 rfl) rfl (apartOk_one rfl rfl (Nat.le_of_ble_eq_true rfl)) rfl ?_
    refine ⟨(by omega), ?_⟩
    refine ar_mapUpdate rfl (m := m) (L := [(b1, .cells [.str c.name, .str c.data, .str c.to, .int .i64 c.kind]), (b, mObj l)]) 1 strAV strAV strKey_ok l c.name (((mget l c.name).getD []) ++ c.data) rfl rfl rfl rfl rfl rfl hNb1 (by refine Nat.le_trans (mput_len _ _ _) (by omega)) ?_
    show K1 [] (AMem.wth m [(b1, .cells [.str c.name, .str c.data, .str c.to, .int .i64 c.kind]), (b, mObj (mput l c.name (((mget l c.name).getD []) ++ c.data)))])
    refine hK1 _ _ ?_; clear hK1 K1
    refine ⟨(AMem.wth m [(b, mObj (mput l c.name (((mget l c.name).getD []) ++ c.data)))]), (wth_sub2 (m := m) [(b1, .cells [.str c.name, .str c.data, .str c.to, .int .i64 c.kind])] [(b, mObj (mput l c.name (((mget l c.name).getD []) ++ c.data)))] hNb1 (by simp only [List.map_cons, List.map_nil, List.forall_mem_cons]; exact ⟨hFb1, fun _ h => by cases h⟩)), ?_⟩
    show K (.tuple []) (AMem.wth m [(b, mObj (mput l c.name (((mget l c.name).getD []) ++ c.data)))])
   
    have e0 : applyC l c = (mput l c.name (((mget l c.name).getD []) ++ c.data) : List (Str × Str)) := by
     unfold applyC; simp_all
    rw [e0] at hK
    exact hK
   ·
    replace h3 : c.kind ≠ 2 := (ne_of_beq_false h3)
    refine awp_reg2_seq [] [0, 3, 5, 23] (by decide) ?_
    intro K1 hK1
    refine ⟨trivial, trivial, ?_⟩
    show K1 [(0, .map b), (3, .ptr ⟨b1, 0, none⟩), (5, .int .i64 c.kind), (23, .bool (c.kind == 4))] (AMem.wth m [(b1, .cells [.str c.name, .str c.data, .str c.to, .int .i64 c.kind]), (b, mObj l)])
    refine hK1 _ _ ?_; clear hK1 K1
    refine awp_cond rfl rfl (fun h4 => ?_) (fun h4 => ?_)
    ·
     replace h4 : c.kind = 4 := (eq_of_beq h4)
     refine awp_reg2_seq [] [0, 3] (by decide) ?_
     intro K1 hK1
     refine ⟨trivial, ⟨rfl, by decide⟩, ?_⟩
     refine ar_loadp rfl (m := m) (L := [(b1, .cells [.str c.name, .str c.data, .str c.to, .int .i64 c.kind]), (b, mObj l)]) (v := .str c.to) rfl (wth_get (m := m) (L := [(b1, .cells [.str c.name, .str c.data, .str c.to, .int .i64 c.kind]), (b, mObj l)]) 0 hNb1 rfl) rfl (apartOk_one rfl rfl (Nat.le_of_ble_eq_true rfl)) rfl ?_
     refine ⟨trivial, ⟨rfl, by decide⟩, ?_⟩
     refine ar_loadp rfl (m := m) (L := [(b1, .cells [.str c.name, .str c.data, .str c.to, .int .i64 c.kind]), (b, mObj l)]) (v := .str c.name) rfl (wth_get (m := m) (L := [(b1, .cells [.str c.name, .str c.data, .str c.to, .int .i64 c.kind]), (b, mObj l)]) 0 hNb1 rfl) rfl (apartOk_one rfl rfl (Nat.le_of_ble_eq_true rfl)) rfl ?_
     refine ar_lookup rfl (m := m) (L := [(b1, .cells [.str c.name, .str c.data, .str c.to, .int .i64 c.kind]), (b, mObj l)]) strAV strAV strKey_ok l c.name [] rfl rfl rfl rfl rfl (wth_get (m := m) (L := [(b1, .cells [.str c.name, .str c.data, .str c.to, .int .i64 c.kind]), (b, mObj l)]) 1 hNb1 rfl) rfl ?_
     refine ar_mapUpdate rfl (m := m) (L := [(b1, .cells [.str c.name, .str c.data, .str c.to, .int .i64 c.kind]), (b, mObj l)]) 1 strAV strAV strKey_ok l c.to ((mget l c.name).getD []) rfl rfl rfl rfl rfl rfl hNb1 (by refine Nat.le_trans (mput_len _ _ _) (by omega)) ?_
     show K1 [(0, .map b), (3, .ptr ⟨b1, 0, none⟩)] (AMem.wth m [(b1, .cells [.str c.name, .str c.data, .str c.to, .int .i64 c.kind]), (b, mObj (mput l c.to ((mget l c.name).getD [])))])
     refine hK1 _ _ ?_; clear hK1 K1
     refine awp_reg2 [] [] (by decide) ?_
     intro K1 hK1
     refine ⟨trivial, ⟨rfl, by decide⟩, ?_⟩
     refine ar_loadp rfl (m := m) (L := [(b1, .cells [.str c.name, .str c.data, .str c.to, .int .i64 c.kind]), (b, mObj (mput l c.to ((mget l c.name).getD [])))]) (v := .str c.name) rfl (wth_get (m := m) (L := [(b1, .cells [.str c.name, .str c.data, .str c.to, .int .i64 c.kind]), (b, mObj (mput l c.to ((mget l c.name).getD [])))]) 0 hNb1 rfl) rfl (apartOk_one rfl rfl (Nat.le_of_ble_eq_true rfl)) rfl ?_
     refine ar_delete rfl (m := m) (L := [(b1, .cells [.str c.name, .str c.data, .str c.to, .int .i64 c.kind]), (b, mObj (mput l c.to ((mget l c.name).getD [])))]) 1 strAV strAV strKey_ok (mput l c.to ((mget l c.name).getD [])) c.name rfl rfl rfl rfl rfl hNb1 ?_
     show K1 [] (AMem.wth m [(b1, .cells [.str c.name, .str c.data, .str c.to, .int .i64 c.kind]), (b, mObj (mdel (mput l c.to ((mget l c.name).getD [])) c.name))])
     refine hK1 _ _ ?_; clear hK1 K1
     refine ⟨(AMem.wth m [(b, mObj (mdel (mput l c.to ((mget l c.name).getD [])) c.name))]), (wth_sub2 (m := m) [(b1, .cells [.str c.name, .str c.data, .str c.to, .int .i64 c.kind])] [(b, mObj (mdel (mput l c.to ((mget l c.name).getD [])) c.name))] hNb1 (by simp only [List.map_cons, List.map_nil, List.forall_mem_cons]; exact ⟨hFb1, fun _ h => by cases h⟩)), ?_⟩
     show K (.tuple []) (AMem.wth m [(b, mObj (mdel (mput l c.to ((mget l c.name).getD [])) c.name))])
    
     have e0 : applyC l c = (mdel (mput l c.to ((mget l c.name).getD [])) c.name : List (Str × Str)) := by
      unfold applyC; simp_all
     rw [e0] at hK
     exact hK
    ·
     replace h4 : c.kind ≠ 4 := (ne_of_beq_false h4)
     refine awp_reg2_seq [] [0, 3, 35] (by decide) ?_
     intro K1 hK1
     refine ⟨trivial, trivial, ?_⟩
     show K1 [(0, .map b), (3, .ptr ⟨b1, 0, none⟩), (35, .bool (c.kind == 5))] (AMem.wth m [(b1, .cells [.str c.name, .str c.data, .str c.to, .int .i64 c.kind]), (b, mObj l)])
     refine hK1 _ _ ?_; clear hK1 K1
     refine awp_cond rfl rfl (fun h5 => ?_) (fun h5 => ?_)
     ·
      replace h5 : c.kind = 5 := (eq_of_beq h5)
      refine awp_reg2 [] [] (by decide) ?_
      intro K1 hK1
      refine ⟨trivial, ⟨rfl, by decide⟩, ?_⟩
      refine ar_loadp rfl (m := m) (L := [(b1, .cells [.str c.name, .str c.data, .str c.to, .int .i64 c.kind]), (b, mObj l)]) (v := .str c.name) rfl (wth_get (m := m) (L := [(b1, .cells [.str c.name, .str c.data, .str c.to, .int .i64 c.kind]), (b, mObj l)]) 0 hNb1 rfl) rfl (apartOk_one rfl rfl (Nat.le_of_ble_eq_true rfl)) rfl ?_
      refine ar_delete rfl (m := m) (L := [(b1, .cells [.str c.name, .str c.data, .str c.to, .int .i64 c.kind]), (b, mObj l)]) 1 strAV strAV strKey_ok l c.name rfl rfl rfl rfl rfl hNb1 ?_
      show K1 [] (AMem.wth m [(b1, .cells [.str c.name, .str c.data, .str c.to, .int .i64 c.kind]), (b, mObj (mdel l c.name))])
      refine hK1 _ _ ?_; clear hK1 K1
      refine ⟨(AMem.wth m [(b, mObj (mdel l c.name))]), (wth_sub2 (m := m) [(b1, .cells [.str c.name, .str c.data, .str c.to, .int .i64 c.kind])] [(b, mObj (mdel l c.name))] hNb1 (by simp only [List.map_cons, List.map_nil, List.forall_mem_cons]; exact ⟨hFb1, fun _ h => by cases h⟩)), ?_⟩
      show K (.tuple []) (AMem.wth m [(b, mObj (mdel l c.name))])
     
      have e0 : applyC l c = (mdel l c.name : List (Str × Str)) := by
       unfold applyC; simp_all
      rw [e0] at hK
      exact hK
     ·
      replace h5 : c.kind ≠ 5 := (ne_of_beq_false h5)
      refine awp_skip ?_
      refine ⟨(AMem.wth m [(b, mObj l)]), (wth_sub2 (m := m) [(b1, .cells [.str c.name, .str c.data, .str c.to, .int .i64 c.kind])] [(b, mObj l)] hNb1 (by simp only [List.map_cons, List.map_nil, List.forall_mem_cons]; exact ⟨hFb1, fun _ h => by cases h⟩)), ?_⟩
      show K (.tuple []) (AMem.wth m [(b, mObj l)])
     
      have e0 : applyC l c = (l : List (Str × Str)) := by
       unfold applyC; simp_all
      rw [e0] at hK
      exact hK
 ·
  replace h1 : c.kind ≠ 1 := (ne_of_beq_false h1)
  refine awp_reg2 [] [0, 3, 5, 6] (by decide) ?_
  intro K1 hK1
  refine ⟨trivial, trivial, ?_⟩
  show K1 [(0, .map b), (3, .ptr ⟨b1, 0, none⟩), (5, .int .i64 c.kind), (6, .bool (c.kind == 3))] (AMem.wth m [(b1, .cells [.str c.name, .str c.data, .str c.to, .int .i64 c.kind]), (b, mObj l)])
  refine hK1 _ _ ?_; clear hK1 K1
  refine hK2 _ _ ?_; clear hK2
  refine awp_cond rfl rfl (fun h6 => ?_) (fun h6 => ?_)
  ·
   replace h6 : c.kind = 3 := (eq_of_beq h6)
   refine awp_reg2 [] [] (by decide) ?_
   intro K1 hK1
   refine ⟨trivial, ⟨rfl, by decide⟩, ?_⟩
   refine ar_loadp rfl (m := m) (L := [(b1, .cells [.str c.name, .str c.data, .str c.to, .int .i64 c.kind]), (b, mObj l)]) (v := .str c.name) rfl (wth_get (m := m) (L := [(b1, .cells [.str c.name, .str c.data, .str c.to, .int .i64 c.kind]), (b, mObj l)]) 0 hNb1 rfl) rfl (apartOk_one rfl rfl (Nat.le_of_ble_eq_true rfl)) rfl ?_
   refine ⟨⟨rfl, by decide⟩, ?_⟩
   refine ar_loadp rfl (m := m) (L := [(b1, .cells [.str c.name, .str c.data, .str c.to, .int .i64 c.kind]), (b, mObj l)]) (v := .str c.data) rfl (wth_get (m := m) (L := [(b1, .cells [.str c.name, .str c.data, .str c.to, .int .i64 c.kind]), (b, mObj l)]) 0 hNb1 rfl) rfl (apartOk_one rfl rfl (Nat.le_of_ble_eq_true rfl)) rfl ?_
   refine ar_mapUpdate rfl (m := m) (L := [(b1, .cells [.str c.name, .str c.data, .str c.to, .int .i64 c.kind]), (b, mObj l)]) 1 strAV strAV strKey_ok l c.name c.data rfl rfl rfl rfl rfl rfl hNb1 (by refine Nat.le_trans (mput_len _ _ _) (by omega)) ?_
   show K1 [] (AMem.wth m [(b1, .cells [.str c.name, .str c.data, .str c.to, .int .i64 c.kind]), (b, mObj (mput l c.name c.data))])
   refine hK1 _ _ ?_; clear hK1 K1
   refine ⟨(AMem.wth m [(b, mObj (mput l c.name c.data))]), (wth_sub2 (m := m) [(b1, .cells [.str c.name, .str c.data, .str c.to, .int .i64 c.kind])] [(b, mObj (mput l c.name c.data))] hNb1 (by simp only [List.map_cons, List.map_nil, List.forall_mem_cons]; exact ⟨hFb1, fun _ h => by cases h⟩)), ?_⟩
   show K (.tuple []) (AMem.wth m [(b, mObj (mput l c.name c.data))])
  
   have e0 : applyC l c = (mput l c.name c.data : List (Str × Str)) := by
    unfold applyC; simp_all
   rw [e0] at hK
   exact hK
  ·
   replace h6 : c.kind ≠ 3 := (ne_of_beq_false h6)
   refine awp_reg2_seq [] [0, 3, 5, 14] (by decide) ?_
   intro K1 hK1
   refine ⟨trivial, trivial, ?_⟩
   show K1 [(0, .map b), (3, .ptr ⟨b1, 0, none⟩), (5, .int .i64 c.kind), (14, .bool (c.kind == 2))] (AMem.wth m [(b1, .cells [.str c.name, .str c.data, .str c.to, .int .i64 c.kind]), (b, mObj l)])
   refine hK1 _ _ ?_; clear hK1 K1
   refine awp_cond rfl rfl (fun h7 => ?_) (fun h7 => ?_)
   ·
    replace h7 : c.kind = 2 := (eq_of_beq h7)
    refine awp_reg2 [] [] (by decide) ?_
    intro K1 hK1
    refine ⟨trivial, ⟨rfl, by decide⟩, ?_⟩
    refine ar_loadp rfl (m := m) (L := [(b1, .cells [.str c.name, .str c.data, .str c.to, .int .i64 c.kind]), (b, mObj l)]) (v := .str c.name) rfl (wth_get (m := m) (L := [(b1, .cells [.str c.name, .str c.data, .str c.to, .int .i64 c.kind]), (b, mObj l)]) 0 hNb1 rfl) rfl (apartOk_one rfl rfl (Nat.le_of_ble_eq_true rfl)) rfl ?_
    refine ar_lookup rfl (m := m) (L := [(b1, .cells [.str c.name, .str c.data, .str c.to, .int .i64 c.kind]), (b, mObj l)]) strAV strAV strKey_ok l c.name [] rfl rfl rfl rfl rfl (wth_get (m := m) (L := [(b1, .cells [.str c.name, .str c.data, .str c.to, .int .i64 c.kind]), (b, mObj l)]) 1 hNb1 rfl) rfl ?_
    refine ⟨⟨rfl, by decide⟩, ?_⟩
    refine ar_loadp rfl (m := m) (L := [(b1, .cells [.str c.name, .str c.data, .str c.to, .int .i64 c.kind]), (b, mObj l)]) (v := .str c.data) rfl (wth_get (m := m) (L := [(b1, .cells [.str c.name, .str c.data, .str c.to, .int .i64 c.kind]), (b, mObj l)]) 0 hNb1 rfl) rfl (apartOk_one rfl rfl (Nat.le_of_ble_eq_true rfl)) rfl ?_
    refine ⟨(by omega), ?_⟩
    refine ar_mapUpdate rfl (m := m) (L := [(b1, .cells [.str c.name, .str c.data, .str c.to, .int .i64 c.kind]), (b, mObj l)]) 1 strAV strAV strKey_ok l c.name (((mget l c.name).getD []) ++ c.data) rfl rfl rfl rfl rfl rfl hNb1 (by refine Nat.le_trans (mput_len _ _ _) (by omega)) ?_
    show K1 [] (AMem.wth m [(b1, .cells [.str c.name, .str c.data, .str c.to, .int .i64 c.kind]), (b, mObj (mput l c.name (((mget l c.name).getD []) ++ c.data)))])
    refine hK1 _ _ ?_; clear hK1 K1
    refine ⟨(AMem.wth m [(b, mObj (mput l c.name (((mget l c.name).getD []) ++ c.data)))]), (wth_sub2 (m := m) [(b1, .cells [.str c.name, .str c.data, .str c.to, .int .i64 c.kind])] [(b, mObj (mput l c.name (((mget l c.name).getD []) ++ c.data)))] hNb1 (by simp only [List.map_cons, List.map_nil, List.forall_mem_cons]; exact ⟨hFb1, fun _ h => by cases h⟩)), ?_⟩
    show K (.tuple []) (AMem.wth m [(b, mObj (mput l c.name (((mget l c.name).getD []) ++ c.data)))])
   
    have e0 : applyC l c = (mput l c.name (((mget l c.name).getD []) ++ c.data) : List (Str × Str)) := by
     unfold applyC; simp_all
    rw [e0] at hK
    exact hK
   ·
    replace h7 : c.kind ≠ 2 := (ne_of_beq_false h7)
    refine awp_reg2_seq [] [0, 3, 5, 23] (by decide) ?_
    intro K1 hK1
    refine ⟨trivial, trivial, ?_⟩
    show K1 [(0, .map b), (3, .ptr ⟨b1, 0, none⟩), (5, .int .i64 c.kind), (23, .bool (c.kind == 4))] (AMem.wth m [(b1, .cells [.str c.name, .str c.data, .str c.to, .int .i64 c.kind]), (b, mObj l)])
    refine hK1 _ _ ?_; clear hK1 K1
    refine awp_cond rfl rfl (fun h8 => ?_) (fun h8 => ?_)
    ·
     replace h8 : c.kind = 4 := (eq_of_beq h8)
     refine awp_reg2_seq [] [0, 3] (by decide) ?_
     intro K1 hK1
     refine ⟨trivial, ⟨rfl, by decide⟩, ?_⟩
     refine ar_loadp rfl (m := m) (L := [(b1, .cells [.str c.name, .str c.data, .str c.to, .int .i64 c.kind]), (b, mObj l)]) (v := .str c.to) rfl (wth_get (m := m) (L := [(b1, .cells [.str c.name, .str c.data, .str c.to, .int .i64 c.kind]), (b, mObj l)]) 0 hNb1 rfl) rfl (apartOk_one rfl rfl (Nat.le_of_ble_eq_true rfl)) rfl ?_
     refine ⟨trivial, ⟨rfl, by decide⟩, ?_⟩
     refine ar_loadp rfl (m := m) (L := [(b1, .cells [.str c.name, .str c.data, .str c.to, .int .i64 c.kind]), (b, mObj l)]) (v := .str c.name) rfl (wth_get (m := m) (L := [(b1, .cells [.str c.name, .str c.data, .str c.to, .int .i64 c.kind]), (b, mObj l)]) 0 hNb1 rfl) rfl (apartOk_one rfl rfl (Nat.le_of_ble_eq_true rfl)) rfl ?_
     refine ar_lookup rfl (m := m) (L := [(b1, .cells [.str c.name, .str c.data, .str c.to, .int .i64 c.kind]), (b, mObj l)]) strAV strAV strKey_ok l c.name [] rfl rfl rfl rfl rfl (wth_get (m := m) (L := [(b1, .cells [.str c.name, .str c.data, .str c.to, .int .i64 c.kind]), (b, mObj l)]) 1 hNb1 rfl) rfl ?_
     refine ar_mapUpdate rfl (m := m) (L := [(b1, .cells [.str c.name, .str c.data, .str c.to, .int .i64 c.kind]), (b, mObj l)]) 1 strAV strAV strKey_ok l c.to ((mget l c.name).getD []) rfl rfl rfl rfl rfl rfl hNb1 (by refine Nat.le_trans (mput_len _ _ _) (by omega)) ?_
     show K1 [(0, .map b), (3, .ptr ⟨b1, 0, none⟩)] (AMem.wth m [(b1, .cells [.str c.name, .str c.data, .str c.to, .int .i64 c.kind]), (b, mObj (mput l c.to ((mget l c.name).getD [])))])
     refine hK1 _ _ ?_; clear hK1 K1
     refine awp_reg2 [] [] (by decide) ?_
     intro K1 hK1
     refine ⟨trivial, ⟨rfl, by decide⟩, ?_⟩
     refine ar_loadp rfl (m := m) (L := [(b1, .cells [.str c.name, .str c.data, .str c.to, .int .i64 c.kind]), (b, mObj (mput l c.to ((mget l c.name).getD [])))]) (v := .str c.name) rfl (wth_get (m := m) (L := [(b1, .cells [.str c.name, .str c.data, .str c.to, .int .i64 c.kind]), (b, mObj (mput l c.to ((mget l c.name).getD [])))]) 0 hNb1 rfl) rfl (apartOk_one rfl rfl (Nat.le_of_ble_eq_true rfl)) rfl ?_
     refine ar_delete rfl (m := m) (L := [(b1, .cells [.str c.name, .str c.data, .str c.to, .int .i64 c.kind]), (b, mObj (mput l c.to ((mget l c.name).getD [])))]) 1 strAV strAV strKey_ok (mput l c.to ((mget l c.name).getD [])) c.name rfl rfl rfl rfl rfl hNb1 ?_
     show K1 [] (AMem.wth m [(b1, .cells [.str c.name, .str c.data, .str c.to, .int .i64 c.kind]), (b, mObj (mdel (mput l c.to ((mget l c.name).getD [])) c.name))])
     refine hK1 _ _ ?_; clear hK1 K1
     refine ⟨(AMem.wth m [(b, mObj (mdel (mput l c.to ((mget l c.name).getD [])) c.name))]), (wth_sub2 (m := m) [(b1, .cells [.str c.name, .str c.data, .str c.to, .int .i64 c.kind])] [(b, mObj (mdel (mput l c.to ((mget l c.name).getD [])) c.name))] hNb1 (by simp only [List.map_cons, List.map_nil, List.forall_mem_cons]; exact ⟨hFb1, fun _ h => by cases h⟩)), ?_⟩
     show K (.tuple []) (AMem.wth m [(b, mObj (mdel (mput l c.to ((mget l c.name).getD [])) c.name))])
    
     have e0 : applyC l c = (mdel (mput l c.to ((mget l c.name).getD [])) c.name : List (Str × Str)) := by
      unfold applyC; simp_all
     rw [e0] at hK
     exact hK
    ·
     replace h8 : c.kind ≠ 4 := (ne_of_beq_false h8)
     refine awp_reg2_seq [] [0, 3, 35] (by decide) ?_
     intro K1 hK1
     refine ⟨trivial, trivial, ?_⟩
     show K1 [(0, .map b), (3, .ptr ⟨b1, 0, none⟩), (35, .bool (c.kind == 5))] (AMem.wth m [(b1, .cells [.str c.name, .str c.data, .str c.to, .int .i64 c.kind]), (b, mObj l)])
     refine hK1 _ _ ?_; clear hK1 K1
     refine awp_cond rfl rfl (fun h9 => ?_) (fun h9 => ?_)
     ·
      replace h9 : c.kind = 5 := (eq_of_beq h9)
      refine awp_reg2 [] [] (by decide) ?_
      intro K1 hK1
      refine ⟨trivial, ⟨rfl, by decide⟩, ?_⟩
      refine ar_loadp rfl (m := m) (L := [(b1, .cells [.str c.name, .str c.data, .str c.to, .int .i64 c.kind]), (b, mObj l)]) (v := .str c.name) rfl (wth_get (m := m) (L := [(b1, .cells [.str c.name, .str c.data, .str c.to, .int .i64 c.kind]), (b, mObj l)]) 0 hNb1 rfl) rfl (apartOk_one rfl rfl (Nat.le_of_ble_eq_true rfl)) rfl ?_
      refine ar_delete rfl (m := m) (L := [(b1, .cells [.str c.name, .str c.data, .str c.to, .int .i64 c.kind]), (b, mObj l)]) 1 strAV strAV strKey_ok l c.name rfl rfl rfl rfl rfl hNb1 ?_
      show K1 [] (AMem.wth m [(b1, .cells [.str c.name, .str c.data, .str c.to, .int .i64 c.kind]), (b, mObj (mdel l c.name))])
      refine hK1 _ _ ?_; clear hK1 K1
      refine ⟨(AMem.wth m [(b, mObj (mdel l c.name))]), (wth_sub2 (m := m) [(b1, .cells [.str c.name, .str c.data, .str c.to, .int .i64 c.kind])] [(b, mObj (mdel l c.name))] hNb1 (by simp only [List.map_cons, List.map_nil, List.forall_mem_cons]; exact ⟨hFb1, fun _ h => by cases h⟩)), ?_⟩
      show K (.tuple []) (AMem.wth m [(b, mObj (mdel l c.name))])
     
      have e0 : applyC l c = (mdel l c.name : List (Str × Str)) := by
       unfold applyC; simp_all
      rw [e0] at hK
      exact hK
     ·
      replace h9 : c.kind ≠ 5 := (ne_of_beq_false h9)
      refine awp_skip ?_
      refine ⟨(AMem.wth m [(b, mObj l)]), (wth_sub2 (m := m) [(b1, .cells [.str c.name, .str c.data, .str c.to, .int .i64 c.kind])] [(b, mObj l)] hNb1 (by simp only [List.map_cons, List.map_nil, List.forall_mem_cons]; exact ⟨hFb1, fun _ h => by cases h⟩)), ?_⟩
      show K (.tuple []) (AMem.wth m [(b, mObj l)])
     
      have e0 : applyC l c = (l : List (Str × Str)) := by
       unfold applyC; simp_all
      rw [e0] at hK
      exact hK


theorem stepF_keep (s : DSt) : (stepF s).1.kept = s.kept ∧ (stepF s).1.now = s.now ∧ (stepF s).1.wait = s.wait ∧ 0 ≤ (stepF s).2 := by
  unfold stepF; split
  · exact ⟨rfl, rfl, rfl, by simp⟩
  · split
    · exact ⟨rfl, rfl, rfl, by simp⟩
    · exact ⟨rfl, rfl, rfl, by simp⟩
theorem stepF_steps (s : DSt) : s.steps ≤ (stepF s).1.steps ∧ (stepF s).1.steps ≤ s.steps + 1 := by
  unfold stepF; split
  · exact ⟨by simp; try omega, by simp; try omega⟩
  · split
    · exact ⟨by simp; try omega, by simp; try omega⟩
    · exact ⟨by simp; try omega, by simp; try omega⟩

set_option maxHeartbeats 2000000 in
theorem u_Step (d kb nb : Nat) (s : DSt) (hst : 0 ≤ s.steps) (hst2 : s.steps ≤ 4611686018427387904) (hfu : -1 ≤ s.fuse) (hfu2 : s.fuse ≤ 9223372036854775807) (m : AMem)  (K : AV → AMem → Prop) (hK : K (.err 108 (stepF s).2) (AMem.wth m [(d, dObj kb nb (stepF s).1)])) : ACalls Try.prog 35 [.ptr ⟨d, 0, none⟩] (AMem.wth m [(d, dObj kb nb s)]) K := by
 refine acalls_enter Try.func35 rfl (by decide) (Nat.le_of_ble_eq_true rfl) ?_
 show AWP _ _ _ _ [(0, .ptr ⟨d, 0, none⟩)] (AMem.wth m [(d, dObj kb nb s)])
 refine awp_reg2_seq [] [0] (by decide) ?_
 intro K1 hK1
 refine ⟨trivial, ?_⟩
 show K1 [(0, .ptr ⟨d, 0, none⟩)] (AMem.wth m [(d, dObj kb nb s)])
 refine hK1 _ _ ?_; clear hK1 K1
 refine awp_seq_k ?_; intro K2 hK2
 refine awp_reg2_seq [] [0, 6] (by decide) ?_
 intro K1 hK1
 refine ⟨trivial, trivial, ⟨rfl, by decide⟩, ?_⟩
 refine ar_loadp rfl (m := m) (L := [(d, dObj kb nb s)]) (v := .bool s.down) rfl (wth_get (m := m) (L := [(d, dObj kb nb s)]) 0 (nodup_1 d) rfl) rfl (apartOk_one rfl rfl (Nat.le_of_ble_eq_true rfl)) rfl ?_
 show K1 [(0, .ptr ⟨d, 0, none⟩), (6, .bool s.down)] (AMem.wth m [(d, dObj kb nb s)])
 refine hK1 _ _ ?_; clear hK1 K1
 refine awp_cond rfl rfl (fun h1 => ?_) (fun h1 => ?_)
 ·
  replace h1 : s.down = true := h1
  refine awp_reg2_seq [] [2] (by decide) ?_
  intro K1 hK1
  refine ⟨trivial, trivial, ?_⟩
  show K1 [(2, .iface 108 (.int .i64 10))] (AMem.wth m [(d, dObj kb nb s)])
  refine hK1 _ _ ?_; clear hK1 K1
  refine awp_toErr 108 [2] ?_
  show AWP _ _ _ _ [(2, .err 108 10)] (AMem.wth m [(d, dObj kb nb s)])
  refine awp_ret ?_
  refine ⟨trivial, (AMem.wth m [(d, dObj kb nb s)]), fun _ _ h => h, ?_⟩
  show K (.err 108 10) (AMem.wth m [(d, dObj kb nb s)])
 
  have e0 : stepF s = ((s, 10) : DSt × Int) := by
   obtain ⟨kept, now, wait, fuse, down, steps⟩ := s
   simp_all [stepF] <;> omega
  rw [e0] at hK
  exact hK
 ·
  replace h1 : s.down = false := h1
  refine awp_skip ?_
  refine hK2 _ _ ?_; clear hK2
  refine awp_seq_k ?_; intro K3 hK3
  refine awp_reg2_seq [] [0, 12] (by decide) ?_
  intro K1 hK1
  refine ⟨trivial, trivial, ⟨rfl, by decide⟩, ?_⟩
  refine ar_loadp rfl (m := m) (L := [(d, dObj kb nb s)]) (v := .int .i64 s.fuse) rfl (wth_get (m := m) (L := [(d, dObj kb nb s)]) 0 (nodup_1 d) rfl) rfl (apartOk_one rfl rfl (Nat.le_of_ble_eq_true rfl)) rfl ?_
  refine ⟨trivial, ?_⟩
  show K1 [(0, .ptr ⟨d, 0, none⟩), (12, .bool (s.fuse == 0))] (AMem.wth m [(d, dObj kb nb s)])
  refine hK1 _ _ ?_; clear hK1 K1
  refine awp_cond rfl rfl (fun h2 => ?_) (fun h2 => ?_)
  ·
   replace h2 : s.fuse = 0 := (eq_of_beq h2)
   refine awp_reg2_seq [] [0] (by decide) ?_
   intro K1 hK1
   refine ⟨trivial, trivial, ⟨rfl, by decide⟩, ?_⟩
   refine ar_storep rfl 0 (m := m) (L := [(d, dObj kb nb s)]) (v := .bool true) (l' := [.map kb, .map nb, .slice true (s.wait.map chgAV), .int .i64 s.fuse, .bool true, .int .i64 s.steps]) rfl rfl (nodup_1 d) rfl rfl rfl rfl rfl (Nat.le_of_ble_eq_true rfl) rfl ?_
   show K1 [(0, .ptr ⟨d, 0, none⟩)] (AMem.wth m [(d, .cells [.map kb, .map nb, .slice true (s.wait.map chgAV), .int .i64 s.fuse, .bool true, .int .i64 s.steps])])
   refine hK1 _ _ ?_; clear hK1 K1
   refine awp_reg2_seq [] [] (by decide) ?_
   intro K1 hK1
   refine ⟨trivial, trivial, ⟨rfl, by decide⟩, ?_⟩
   refine ar_storep rfl 0 (m := m) (L := [(d, .cells [.map kb, .map nb, .slice true (s.wait.map chgAV), .int .i64 s.fuse, .bool true, .int .i64 s.steps])]) (v := .int .i64 (-1)) (l' := [.map kb, .map nb, .slice true (s.wait.map chgAV), .int .i64 (-1), .bool true, .int .i64 s.steps]) rfl rfl (nodup_1 d) rfl rfl rfl rfl rfl (Nat.le_of_ble_eq_true rfl) rfl ?_
   show K1 [] (AMem.wth m [(d, .cells [.map kb, .map nb, .slice true (s.wait.map chgAV), .int .i64 (-1), .bool true, .int .i64 s.steps])])
   refine hK1 _ _ ?_; clear hK1 K1
   refine awp_reg2_seq [] [2] (by decide) ?_
   intro K1 hK1
   refine ⟨trivial, trivial, ?_⟩
   show K1 [(2, .iface 108 (.int .i64 10))] (AMem.wth m [(d, .cells [.map kb, .map nb, .slice true (s.wait.map chgAV), .int .i64 (-1), .bool true, .int .i64 s.steps])])
   refine hK1 _ _ ?_; clear hK1 K1
   refine awp_toErr 108 [2] ?_
   show AWP _ _ _ _ [(2, .err 108 10)] (AMem.wth m [(d, .cells [.map kb, .map nb, .slice true (s.wait.map chgAV), .int .i64 (-1), .bool true, .int .i64 s.steps])])
   refine awp_ret ?_
   refine ⟨trivial, (AMem.wth m [(d, .cells [.map kb, .map nb, .slice true (s.wait.map chgAV), .int .i64 (-1), .bool true, .int .i64 s.steps])]), fun _ _ h => h, ?_⟩
   show K (.err 108 10) (AMem.wth m [(d, .cells [.map kb, .map nb, .slice true (s.wait.map chgAV), .int .i64 (-1), .bool true, .int .i64 s.steps])])
  
   have e0 : stepF s = (((⟨s.kept, s.now, s.wait, -1, true, s.steps⟩ : DSt), 10) : DSt × Int) := by
    obtain ⟨kept, now, wait, fuse, down, steps⟩ := s
    simp_all [stepF] <;> omega
   rw [e0] at hK
   exact hK
  ·
   replace h2 : s.fuse ≠ 0 := (ne_of_beq_false h2)
   refine awp_skip ?_
   refine hK3 _ _ ?_; clear hK3
   refine awp_seq_k ?_; intro K4 hK4
   refine awp_reg2_seq [] [0, 24] (by decide) ?_
   intro K1 hK1
   refine ⟨trivial, trivial, ⟨rfl, by decide⟩, ?_⟩
   refine ar_loadp rfl (m := m) (L := [(d, dObj kb nb s)]) (v := .int .i64 s.fuse) rfl (wth_get (m := m) (L := [(d, dObj kb nb s)]) 0 (nodup_1 d) rfl) rfl (apartOk_one rfl rfl (Nat.le_of_ble_eq_true rfl)) rfl ?_
   refine ⟨trivial, ?_⟩
   show K1 [(0, .ptr ⟨d, 0, none⟩), (24, .bool (decide (0 < s.fuse)))] (AMem.wth m [(d, dObj kb nb s)])
   refine hK1 _ _ ?_; clear hK1 K1
   refine awp_cond rfl rfl (fun h3 => ?_) (fun h3 => ?_)
   ·
    replace h3 : 0 < s.fuse := (of_decide_eq_true h3)
    refine awp_reg2 [] [0] (by decide) ?_
    intro K1 hK1
    refine ⟨trivial, trivial, ⟨rfl, by decide⟩, ?_⟩
    refine ar_loadp rfl (m := m) (L := [(d, dObj kb nb s)]) (v := .int .i64 s.fuse) rfl (wth_get (m := m) (L := [(d, dObj kb nb s)]) 0 (nodup_1 d) rfl) rfl (apartOk_one rfl rfl (Nat.le_of_ble_eq_true rfl)) rfl ?_
    refine ar_sub rfl (a := s.fuse) (b := 1) rfl rfl (by omega) (by omega) ?_
    refine ⟨trivial, ⟨rfl, by decide⟩, ?_⟩
    refine ar_storep rfl 0 (m := m) (L := [(d, dObj kb nb s)]) (v := .int .i64 (s.fuse - 1)) (l' := [.map kb, .map nb, .slice true (s.wait.map chgAV), .int .i64 (s.fuse - 1), .bool s.down, .int .i64 s.steps]) rfl rfl (nodup_1 d) rfl rfl rfl rfl rfl (Nat.le_of_ble_eq_true rfl) rfl ?_
    show K1 [(0, .ptr ⟨d, 0, none⟩)] (AMem.wth m [(d, .cells [.map kb, .map nb, .slice true (s.wait.map chgAV), .int .i64 (s.fuse - 1), .bool s.down, .int .i64 s.steps])])
    refine hK1 _ _ ?_; clear hK1 K1
    refine hK4 _ _ ?_; clear hK4
    refine awp_reg2_seq [] [] (by decide) ?_
    intro K1 hK1
    refine ⟨trivial, trivial, ⟨rfl, by decide⟩, ?_⟩
    refine ar_loadp rfl (m := m) (L := [(d, .cells [.map kb, .map nb, .slice true (s.wait.map chgAV), .int .i64 (s.fuse - 1), .bool s.down, .int .i64 s.steps])]) (v := .int .i64 s.steps) rfl (wth_get (m := m) (L := [(d, .cells [.map kb, .map nb, .slice true (s.wait.map chgAV), .int .i64 (s.fuse - 1), .bool s.down, .int .i64 s.steps])]) 0 (nodup_1 d) rfl) rfl (apartOk_one rfl rfl (Nat.le_of_ble_eq_true rfl)) rfl ?_
    refine ar_add rfl (a := s.steps) (b := 1) rfl rfl (by omega) (by omega) ?_
    refine ⟨trivial, ⟨rfl, by decide⟩, ?_⟩
    refine ar_storep rfl 0 (m := m) (L := [(d, .cells [.map kb, .map nb, .slice true (s.wait.map chgAV), .int .i64 (s.fuse - 1), .bool s.down, .int .i64 s.steps])]) (v := .int .i64 (s.steps + 1)) (l' := [.map kb, .map nb, .slice true (s.wait.map chgAV), .int .i64 (s.fuse - 1), .bool s.down, .int .i64 (s.steps + 1)]) rfl rfl (nodup_1 d) rfl rfl rfl rfl rfl (Nat.le_of_ble_eq_true rfl) rfl ?_
    show K1 [] (AMem.wth m [(d, .cells [.map kb, .map nb, .slice true (s.wait.map chgAV), .int .i64 (s.fuse - 1), .bool s.down, .int .i64 (s.steps + 1)])])
    refine hK1 _ _ ?_; clear hK1 K1
    refine awp_reg2_seq [] [2] (by decide) ?_
    intro K1 hK1
    refine ⟨trivial, ?_⟩
    show K1 [(2, .nilIface)] (AMem.wth m [(d, .cells [.map kb, .map nb, .slice true (s.wait.map chgAV), .int .i64 (s.fuse - 1), .bool s.down, .int .i64 (s.steps + 1)])])
    refine hK1 _ _ ?_; clear hK1 K1
    refine awp_toErr 108 [2] ?_
    show AWP _ _ _ _ [(2, .err 108 0)] (AMem.wth m [(d, .cells [.map kb, .map nb, .slice true (s.wait.map chgAV), .int .i64 (s.fuse - 1), .bool s.down, .int .i64 (s.steps + 1)])])
    refine awp_ret ?_
    refine ⟨trivial, (AMem.wth m [(d, .cells [.map kb, .map nb, .slice true (s.wait.map chgAV), .int .i64 (s.fuse - 1), .bool s.down, .int .i64 (s.steps + 1)])]), fun _ _ h => h, ?_⟩
    show K (.err 108 0) (AMem.wth m [(d, .cells [.map kb, .map nb, .slice true (s.wait.map chgAV), .int .i64 (s.fuse - 1), .bool s.down, .int .i64 (s.steps + 1)])])
   
    have e0 : stepF s = (((⟨s.kept, s.now, s.wait, s.fuse - 1, s.down, s.steps + 1⟩ : DSt), 0) : DSt × Int) := by
     obtain ⟨kept, now, wait, fuse, down, steps⟩ := s
     simp_all [stepF] <;> omega
    rw [e0] at hK
    exact hK
   ·
    replace h3 : s.fuse ≤ 0 := (Int.not_lt.1 (of_decide_eq_false h3))
    refine awp_skip ?_
    refine hK4 _ _ ?_; clear hK4
    refine awp_reg2_seq [] [] (by decide) ?_
    intro K1 hK1
    refine ⟨trivial, trivial, ⟨rfl, by decide⟩, ?_⟩
    refine ar_loadp rfl (m := m) (L := [(d, dObj kb nb s)]) (v := .int .i64 s.steps) rfl (wth_get (m := m) (L := [(d, dObj kb nb s)]) 0 (nodup_1 d) rfl) rfl (apartOk_one rfl rfl (Nat.le_of_ble_eq_true rfl)) rfl ?_
    refine ar_add rfl (a := s.steps) (b := 1) rfl rfl (by omega) (by omega) ?_
    refine ⟨trivial, ⟨rfl, by decide⟩, ?_⟩
    refine ar_storep rfl 0 (m := m) (L := [(d, dObj kb nb s)]) (v := .int .i64 (s.steps + 1)) (l' := [.map kb, .map nb, .slice true (s.wait.map chgAV), .int .i64 s.fuse, .bool s.down, .int .i64 (s.steps + 1)]) rfl rfl (nodup_1 d) rfl rfl rfl rfl rfl (Nat.le_of_ble_eq_true rfl) rfl ?_
    show K1 [] (AMem.wth m [(d, .cells [.map kb, .map nb, .slice true (s.wait.map chgAV), .int .i64 s.fuse, .bool s.down, .int .i64 (s.steps + 1)])])
    refine hK1 _ _ ?_; clear hK1 K1
    refine awp_reg2_seq [] [2] (by decide) ?_
    intro K1 hK1
    refine ⟨trivial, ?_⟩
    show K1 [(2, .nilIface)] (AMem.wth m [(d, .cells [.map kb, .map nb, .slice true (s.wait.map chgAV), .int .i64 s.fuse, .bool s.down, .int .i64 (s.steps + 1)])])
    refine hK1 _ _ ?_; clear hK1 K1
    refine awp_toErr 108 [2] ?_
    show AWP _ _ _ _ [(2, .err 108 0)] (AMem.wth m [(d, .cells [.map kb, .map nb, .slice true (s.wait.map chgAV), .int .i64 s.fuse, .bool s.down, .int .i64 (s.steps + 1)])])
    refine awp_ret ?_
    refine ⟨trivial, (AMem.wth m [(d, .cells [.map kb, .map nb, .slice true (s.wait.map chgAV), .int .i64 s.fuse, .bool s.down, .int .i64 (s.steps + 1)])]), fun _ _ h => h, ?_⟩
    show K (.err 108 0) (AMem.wth m [(d, .cells [.map kb, .map nb, .slice true (s.wait.map chgAV), .int .i64 s.fuse, .bool s.down, .int .i64 (s.steps + 1)])])
   
    have e0 : stepF s = (((⟨s.kept, s.now, s.wait, s.fuse, s.down, s.steps + 1⟩ : DSt), 0) : DSt × Int) := by
     obtain ⟨kept, now, wait, fuse, down, steps⟩ := s
     simp_all [stepF] <;> omega
    rw [e0] at hK
    exact hK


structure DInv (N : Nat) (s : DSt) : Prop where
  st0 : 0 ≤ s.steps
  st1 : s.steps ≤ N
  fu0 : -1 ≤ s.fuse
  fu1 : s.fuse ≤ 9223372036854775807
  kl : s.kept.length + s.wait.length ≤ N
  kb : ∀ p ∈ s.kept, p.2.length + 4000 * s.wait.length ≤ 4000 * N
  cd : ∀ c ∈ s.wait, c.data.length ≤ 4000
  nl : s.now.length ≤ N
  nb : ∀ p ∈ s.now, p.2.length ≤ 4000 * N
theorem mput_mem {l : List (Str × Str)} {k v : Str} {p : Str × Str} (h : p ∈ mput l k v) : p ∈ l ∨ p = (k, v) := by
  induction l with
  | nil => simp [mput] at h; exact .inr h
  | cons q r ih =>
    obtain ⟨a, b⟩ := q
    simp only [mput] at h
    split at h
    · rcases List.mem_cons.1 h with h | h
      · exact .inr h
      · exact .inl (by simp [h])
    · rcases List.mem_cons.1 h with h | h
      · exact .inl (by simp [h])
      · rcases ih h with h | h
        · exact .inl (by simp [h])
        · exact .inr h
theorem mdel_mem {l : List (Str × Str)} {k : Str} {p : Str × Str} (h : p ∈ mdel l k) : p ∈ l := by
  induction l with
  | nil => simp [mdel] at h
  | cons q r ih =>
    obtain ⟨a, b⟩ := q
    simp only [mdel] at h
    split at h
    · simp [h]
    · rcases List.mem_cons.1 h with h | h
      · simp [h]
      · simp [ih h]
theorem applyC_len (l : List (Str × Str)) (c : Chg) : (applyC l c).length ≤ l.length + 1 := by
  unfold applyC
  split
  · exact mput_len _ _ _
  · split
    · exact mput_len _ _ _
    · split
      · have h1 := mdel_len (mput l c.to ((mget l c.name).getD [])) c.name
        have h2 := mput_len l c.to ((mget l c.name).getD [])
        omega
      · split
        · have := mdel_len l c.name; omega
        · omega
theorem applyC_bnd {l : List (Str × Str)} {c : Chg} {B : Nat} (h : ∀ p ∈ l, p.2.length ≤ B) (hc : c.data.length ≤ 4000) : ∀ p ∈ applyC l c, p.2.length ≤ B + 4000 := by
  intro p hp
  have hg := mget_le (k := c.name) h
  unfold applyC at hp
  split at hp
  · rcases mput_mem hp with hp | rfl
    · have := h p hp; omega
    · simp; omega
  · split at hp
    · rcases mput_mem hp with hp | rfl
      · have := h p hp; omega
      · simp; omega
    · split at hp
      · rcases mput_mem (mdel_mem hp) with hp | rfl
        · have := h p hp; omega
        · simp; omega
      · split at hp
        · have := h p (mdel_mem hp); omega
        · have := h p hp; omega
def applyL (l : List (Str × Str)) (cs : List Chg) : List (Str × Str) := cs.foldl applyC l
theorem applyL_bnd {cs : List Chg} (hc : ∀ c ∈ cs, c.data.length ≤ 4000) : ∀ {l : List (Str × Str)} {B : Nat}, (∀ p ∈ l, p.2.length ≤ B) → (applyL l cs).length ≤ l.length + cs.length ∧ ∀ p ∈ applyL l cs, p.2.length ≤ B + 4000 * cs.length := by
  induction cs with
  | nil => intro l B h; exact ⟨by simp [applyL], fun p hp => by have := h p hp; simp; omega⟩
  | cons c cs ih =>
    intro l B h
    have h1 := applyC_len l c
    have h2 := ih (fun c hc' => hc c (by simp [hc'])) (applyC_bnd h (hc c (by simp)))
    have e : applyL l (c :: cs) = applyL (applyC l c) cs := rfl
    rw [e, List.length_cons]
    exact ⟨by omega, fun p hp => by have := h2.2 p hp; omega⟩
theorem DInv.step {N : Nat} {s : DSt} (h : DInv N s) : DInv (N + 1) (stepF s).1 := by
  have k := stepF_keep s
  have q := stepF_steps s
  have hf : -1 ≤ (stepF s).1.fuse ∧ (stepF s).1.fuse ≤ 9223372036854775807 := by
    have := h.fu0; have := h.fu1
    unfold stepF; split
    · exact ⟨by assumption, by assumption⟩
    · split
      · exact ⟨by simp, by simp⟩
      · simp only; split <;> omega
  have := h.st0; have := h.st1; have := h.kl
  refine ⟨by omega, by omega, hf.1, hf.2, by rw [k.1, k.2.2.1]; omega, fun p hp => ?_, fun c hc => ?_, ?_, fun p hp => ?_⟩
  · rw [k.1] at hp; rw [k.2.2.1]; have := h.kb p hp; omega
  · rw [k.2.2.1] at hc; exact h.cd c hc
  · rw [k.2.1]; have := h.nl; omega
  · rw [k.2.1] at hp; have := h.nb p hp; omega
theorem DInv.do {N : Nat} {s : DSt} {c : Chg} (h : DInv N s) (hc : c.data.length ≤ 4000) : DInv (N + 1) (doF s c).1 := by
  unfold doF
  split
  · exact h.step
  · have k := stepF_keep s
    have g := h.step
    have := h.kl; have := h.nl; have := applyC_len s.now c
    refine ⟨g.st0, g.st1, g.fu0, g.fu1, by rw [k.1]; simp; omega, fun p hp => ?_, fun c' hc' => ?_, by simp; omega, fun p hp => ?_⟩
    · rw [k.1] at hp; have := h.kb p hp; simp; omega
    · rcases List.mem_append.1 hc' with hc' | hc'
      · exact h.cd c' hc'
      · simp at hc'; subst hc'; exact hc
    · have := applyC_bnd h.nb hc p hp; omega
def syncF (s : DSt) : DSt × Int :=
  if (stepF s).2 ≠ 0 then stepF s else ({ (stepF s).1 with kept := applyL s.kept s.wait, wait := [] }, 0)
theorem DInv.sync {N : Nat} {s : DSt} (h : DInv N s) : DInv (N + 1) (syncF s).1 := by
  unfold syncF
  split
  · exact h.step
  · have k := stepF_keep s
    have g := h.step
    have := h.kl; have := h.nl
    have a := applyL_bnd h.cd (l := s.kept) (B := 4000 * N - 4000 * s.wait.length) (fun p hp => by have := h.kb p hp; omega)
    refine ⟨g.st0, g.st1, g.fu0, g.fu1, by simp; omega, fun p hp => ?_, by simp, by rw [k.2.1]; omega, fun p hp => ?_⟩
    · have := a.2 p hp; simp; omega
    · rw [k.2.1] at hp; have := h.nb p hp; omega
theorem DInv.mono {N M : Nat} {s : DSt} (h : DInv N s) (hm : N ≤ M) : DInv M s :=
  ⟨h.st0, by have := h.st1; omega, h.fu0, h.fu1, by have := h.kl; omega, fun p hp => by have := h.kb p hp; omega, h.cd, by have := h.nl; omega, fun p hp => by have := h.nb p hp; omega⟩

end Go.Proofs
