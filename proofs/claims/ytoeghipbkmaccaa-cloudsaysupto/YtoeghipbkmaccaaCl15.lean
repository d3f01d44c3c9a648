import Derived.Test.YtoeghipbkmaccaaProg
import Derived.Test.YtoeghipbkmaccaaWl8
import Derived.Test.YtoeghipbkmaccaaCl13
section
namespace Go.Proofs
open Go Go.Aw
set_option maxRecDepth 100000


/-- What the law knows of its cloud behind n acts; F: the calls that are refused. -/
structure CI (c : ClSt) (F : List Int) (n : Nat) : Prop where
  nx0 : 1 ≤ c.next
  nx1 : c.next ≤ n + 1
  ca0 : 0 ≤ c.calls
  ca1 : c.calls ≤ n
  tl : c.things.length ≤ n
  ol : c.tokens.length ≤ n
  fl : c.fails.length ≤ n
  Fl : F.length ≤ n
  nd : (c.things.map Prod.fst).Nodup
  ids : ∀ p ∈ c.things, p.2.id = p.1 ∧ (1 ≤ p.1 ∧ p.1 < c.next) ∧ chk p.2.v = 0
  srt : (c.things.map Prod.fst).Pairwise (· < ·)
  fr : ∀ k, (mget c.fails k).getD false = true ↔ k ∈ F
section
variable {c : ClSt} {s : DSt} {q : RSt} {F : List Int} {n : Nat} {token kind : Str} {v : Val} {id : Int}
theorem CI.start (z : Int) : CI ⟨[], [], 1, z, 0, []⟩ [] 0 := ⟨Int.le_refl 1, (by show (1 : Int) ≤ _; decide), Int.le_refl 0, (by show (0 : Int) ≤ _; decide), Nat.le_refl _, Nat.le_refl _, Nat.le_refl _, Nat.le_refl _, List.nodup_nil, (fun p hp => by cases hp), List.Pairwise.nil, fun k => by simp [mget]⟩
theorem CI.mono (h : CI c F n) {k : Nat} (hk : n ≤ k) : CI c F k := ⟨h.nx0, by have := h.nx1; omega, h.ca0, by have := h.ca1; omega, by have := h.tl; omega, by have := h.ol; omega, by have := h.fl; omega, by have := h.Fl; omega, h.nd, h.ids, h.srt, h.fr⟩
theorem CI.all (h : CI c F n) : allT c = vals c := by
  refine (sortT_eq (List.Perm.refl _) ?_ (ids_nodup h.nd fun p hp => (h.ids p hp).1)).symm
  have e := h.srt
  rw [List.pairwise_map] at e ⊢
  refine e.imp_of_mem fun {a b} ha hb hab => ?_
  have h1 := (h.ids a ha).1
  have h2 := (h.ids b hb).1
  omega
theorem CI.step (h : CI c F n) {x : Int} (h1 : c.calls ≤ x) (h2 : x ≤ c.calls + 1) : CI { c with calls := x } F (n + 1) :=
  ⟨h.nx0, by show c.next ≤ _; have := h.nx1; omega, by show 0 ≤ x; have := h.ca0; omega, by show x ≤ _; have := h.ca1; omega, by show c.things.length ≤ _; have := h.tl; omega, by show c.tokens.length ≤ _; have := h.ol; omega, by show c.fails.length ≤ _; have := h.fl; omega, by have := h.Fl; omega, h.nd, h.ids, h.srt, h.fr⟩
theorem CI.stepc (h : CI c F n) (t : Str) (op : Int) : CI { c with calls := ccalls c s t op } F (n + 1) := h.step (ccalls_le c s t op).1 (ccalls_le c s t op).2
theorem CI.create (h : CI c F n) : CI (createR c s token kind v).1.1 F (n + 1) := by
  unfold createR
  split
  · exact h.mono (Nat.le_succ _)
  · rename_i ha
    split
    · exact h.mono (Nat.le_succ _)
    · split
      · exact h.stepc _ _
      · split
        · exact h.stepc _ _
        · have k := h.stepc (s := s) token 1
          have hlt : ∀ p ∈ c.things, p.1 < c.next := fun p hp => (h.ids p hp).2.1.2
          have e : mput c.things c.next ⟨c.next, kind, v⟩ = c.things ++ [(c.next, ⟨c.next, kind, v⟩)] := mput_noneG (nextKey hlt) _
          refine ⟨?_, ?_, k.ca0, k.ca1, ?_, ?_, k.fl, k.Fl, mput_ndG h.nd, ?_, ?_, h.fr⟩
          · show 1 ≤ c.next + 1; have := h.nx0; omega
          · show c.next + 1 ≤ _; have := h.nx1; omega
          · show (mput c.things c.next _).length ≤ _
            have := mput_len c.things c.next ⟨c.next, kind, v⟩; have := h.tl; omega
          · show (mput c.tokens token _).length ≤ _
            have := mput_len c.tokens token ⟨1, c.next⟩; have := h.ol; omega
          · intro p hp
            have hnx := h.nx0
            rcases mput_memG hp with rfl | hp
            · exact ⟨rfl, ⟨hnx, by show c.next < c.next + 1; omega⟩, attrE_0 (by simpa using ha)⟩
            · have := h.ids p hp
              exact ⟨this.1, ⟨this.2.1.1, by show p.1 < c.next + 1; omega⟩, this.2.2⟩
          · show ((mput c.things c.next ⟨c.next, kind, v⟩).map Prod.fst).Pairwise (· < ·)
            rw [e, List.map_append, List.pairwise_append]
            refine ⟨h.srt, by simp, fun a ha b hb => ?_⟩
            obtain ⟨p, hp, rfl⟩ := List.mem_map.1 ha
            simp at hb; subst hb
            exact hlt p hp
theorem CI.put (h : CI c F n) {x : Int} (h1 : c.calls ≤ x) (h2 : x ≤ c.calls + 1) {t : Thg} {tk : List (Str × Dn)} (htk : tk.length ≤ n + 1) (ht : t.id = id) (hv : chk t.v = 0) (hs : (mget c.things id).isSome = true) : CI { c with calls := x, things := mput c.things id t, tokens := tk } F (n + 1) := by
  have k := h.step h1 h2
  obtain ⟨t0, hm⟩ := Option.isSome_iff_exists.1 hs
  have hi := h.ids _ (mget_memG hm)
  have ek : (mput c.things id t).map Prod.fst = c.things.map Prod.fst := by
    rw [mput_keysG, if_pos (List.mem_map.2 ⟨_, mget_memG hm, rfl⟩)]
  refine ⟨k.nx0, k.nx1, k.ca0, k.ca1, ?_, htk, k.fl, k.Fl, mput_ndG h.nd, ?_, ?_, h.fr⟩
  · show (mput c.things id t).length ≤ _
    rw [mput_len_some hs]; have := h.tl; omega
  · intro p hp
    rcases mput_memG hp with rfl | hp
    · exact ⟨ht, hi.2.1, hv⟩
    · exact h.ids p hp
  · show ((mput c.things id t).map Prod.fst).Pairwise (· < ·)
    rw [ek]; exact h.srt
theorem CI.del (h : CI c F n) {x : Int} (h1 : c.calls ≤ x) (h2 : x ≤ c.calls + 1) {tk : List (Str × Dn)} (htk : tk.length ≤ n + 1) : CI { c with calls := x, things := mdel c.things id, tokens := tk } F (n + 1) := by
  have k := h.step h1 h2
  refine ⟨k.nx0, k.nx1, k.ca0, k.ca1, ?_, htk, k.fl, k.Fl, mdel_ndG h.nd, fun p hp => h.ids p ((mdel_subG _ _).subset hp), h.srt.sublist ((mdel_subG _ _).map _), h.fr⟩
  show (mdel c.things id).length ≤ _
  have := mdel_len c.things id; have := h.tl; omega
theorem CI.update (h : CI c F n) : CI (updateR c s token id v).1.1 F (n + 1) := by
  unfold updateR
  split
  · exact h.mono (Nat.le_succ _)
  · rename_i ha
    split
    · exact h.stepc _ _
    · split
      · exact h.stepc _ _
      · rename_i hs
        have hs : (mget c.things id).isSome = true := by cases z : (mget c.things id).isSome with | true => rfl | false => exact absurd z hs
        obtain ⟨t0, hm⟩ := Option.isSome_iff_exists.1 hs
        refine h.put (ccalls_le c s token 2).1 (ccalls_le c s token 2).2 (by have := mput_len c.tokens token ⟨2, id⟩; have := h.ol; omega) ?_ (attrE_0 (by simpa using ha)) hs
        show ((mget c.things id).getD zT).id = id
        rw [hm]; exact (h.ids _ (mget_memG hm)).1
theorem CI.delete (h : CI c F n) : CI (deleteR c s token id).1.1 F (n + 1) := by
  unfold deleteR
  split
  · exact h.stepc _ _
  · split
    · exact h.stepc _ _
    · exact h.del (ccalls_le c s token 3).1 (ccalls_le c s token 3).2 (by have := mput_len c.tokens token ⟨3, id⟩; have := h.ol; omega)
theorem CI.lose (h : CI c F n) (id : Int) : CI { c with things := mdel c.things id } F (n + 1) := h.del (x := c.calls) (tk := c.tokens) (by omega) (by omega) (by have := h.ol; omega)
theorem CI.spoil (h : CI c F n) (id : Int) (v : Val) : CI (spoilC c id v) F (n + 1) := by
  unfold spoilC
  split
  · rename_i hs
    obtain ⟨t0, hm⟩ := Option.isSome_iff_exists.1 hs.1
    refine h.put (x := c.calls) (tk := c.tokens) (by omega) (by omega) (by have := h.ol; omega) ?_ (attrE_0 hs.2) hs.1
    show ((mget c.things id).getD zT).id = id
    rw [hm]; exact (h.ids _ (mget_memG hm)).1
  · exact h.mono (Nat.le_succ _)
theorem CI.fail (h : CI c F n) (z : Int) : CI { c with fails := mput c.fails z true } (F ++ [z]) (n + 1) := by
  have k := h.mono (Nat.le_succ n)
  refine ⟨k.nx0, k.nx1, k.ca0, k.ca1, k.tl, k.ol, ?_, ?_, k.nd, k.ids, k.srt, fun j => ?_⟩
  · show (mput c.fails z true).length ≤ _
    have := mput_len c.fails z true; have := h.fl; omega
  · rw [List.length_append]; have := h.Fl; simp; omega
  · show (mget (mput c.fails z true) j).getD false = true ↔ _
    rw [mget_mputG]
    by_cases e : z = j
    · rw [if_pos e]; simp [e]
    · rw [if_neg e, h.fr j]; simp [Ne.symm e]
theorem two_create (h : Two s q n) : Two (createR c s token kind v).1.2 q (n + 1) := by
  unfold createR
  repeat' split
  all_goals first | exact h.mono (Nat.le_succ _) | exact h.of_step
theorem two_update (h : Two s q n) : Two (updateR c s token id v).1.2 q (n + 1) := by
  unfold updateR
  repeat' split
  all_goals first | exact h.mono (Nat.le_succ _) | exact h.of_step
theorem two_delete (h : Two s q n) : Two (deleteR c s token id).1.2 q (n + 1) := by
  unfold deleteR
  repeat' split
  all_goals first | exact h.mono (Nat.le_succ _) | exact h.of_step
theorem callT_nn (op : Int) : 0 ≤ (callT c s token op).2.2 := by
  unfold callT callR
  repeat' split
  all_goals first | exact (stepF_keep s).2.2.2 | exact (by decide : (0 : Int) ≤ 12) | exact (by decide : (0 : Int) ≤ 15) | exact (by decide : (0 : Int) ≤ 0) | exact (by decide : (0 : Int) ≤ 3) | exact (by decide : (0 : Int) ≤ 13) | exact (by decide : (0 : Int) ≤ 7) | exact (by decide : (0 : Int) ≤ 10)
theorem createR_nn : 0 ≤ (createR c s token kind v).2.2 := by
  unfold createR
  repeat' split
  all_goals first | exact attrE_nn v | exact callT_nn _ | exact (by decide : (0 : Int) ≤ 12) | exact (by decide : (0 : Int) ≤ 15) | exact (by decide : (0 : Int) ≤ 0) | exact (by decide : (0 : Int) ≤ 3) | exact (by decide : (0 : Int) ≤ 13) | exact (by decide : (0 : Int) ≤ 7) | exact (by decide : (0 : Int) ≤ 10)
theorem updateR_nn : 0 ≤ (updateR c s token id v).2 := by
  unfold updateR
  repeat' split
  all_goals first | exact attrE_nn v | exact callT_nn _ | exact (by decide : (0 : Int) ≤ 12) | exact (by decide : (0 : Int) ≤ 15) | exact (by decide : (0 : Int) ≤ 0) | exact (by decide : (0 : Int) ≤ 3) | exact (by decide : (0 : Int) ≤ 13) | exact (by decide : (0 : Int) ≤ 7) | exact (by decide : (0 : Int) ≤ 10)
theorem deleteR_nn : 0 ≤ (deleteR c s token id).2 := by
  unfold deleteR
  repeat' split
  all_goals first | exact callT_nn _ | exact (by decide : (0 : Int) ≤ 12) | exact (by decide : (0 : Int) ≤ 15) | exact (by decide : (0 : Int) ≤ 0) | exact (by decide : (0 : Int) ≤ 3) | exact (by decide : (0 : Int) ≤ 13) | exact (by decide : (0 : Int) ≤ 7) | exact (by decide : (0 : Int) ≤ 10)
theorem readC_nn : 0 ≤ (readC c s id).2 := by
  unfold readC
  repeat' split
  all_goals first | exact (by decide : (0 : Int) ≤ 12) | exact (by decide : (0 : Int) ≤ 15) | exact (by decide : (0 : Int) ≤ 0) | exact (by decide : (0 : Int) ≤ 3) | exact (by decide : (0 : Int) ≤ 13) | exact (by decide : (0 : Int) ≤ 7) | exact (by decide : (0 : Int) ≤ 10)
end
theorem u_CreateC (x d tb ob fb kb nb : Nat) (c : ClSt) (s : DSt) (token kind : Str) (v : Val) (n : Nat) (F : List Int) (q : RSt) (r1 : (ClSt × DSt) × (Int × Int)) (hr1 : createR c s token kind v = r1) (hN : [x, d, tb, ob, fb].Nodup) (h : CI c F n) (h2 : Two s q n) (hn : n ≤ 100) (hkd : kind.length ≤ 140737488355328) (m : AMem) (K : AV → AMem → Prop) (hK : K (.tuple [.int .i64 r1.2.1, .err 108 r1.2.2]) (AMem.wth m [(x, cObj d tb ob fb r1.1.1), (d, dObj kb nb r1.1.2), (tb, tObj r1.1.1.things), (ob, oObj r1.1.1.tokens), (fb, fObj r1.1.1.fails)])) :
    ACalls Try.prog 48 [.ptr ⟨x, 0, none⟩, .str token, .str kind, valTop v] (AMem.wth m [(x, cObj d tb ob fb c), (d, dObj kb nb s), (tb, tObj c.things), (ob, oObj c.tokens), (fb, fObj c.fails)]) K := by
  subst hr1
  have i := h2.inv; have j1 := i.st0; have j2 := i.st1; have j3 := i.fu0; have j4 := i.fu1
  have k1 := h.nx0; have k2 := h.nx1; have k3 := h.ca1; have k4 := h.tl; have k5 := h.ol; have k6 := h.Fl
  exact u_Create x d tb ob fb kb nb c s token kind v hN hkd i.st0 (by omega) j3 j4 h.ca0 (by omega) (by omega) (by omega) (by omega) (by omega) m K hK
theorem u_UpdateC (x d tb ob fb kb nb : Nat) (c : ClSt) (s : DSt) (token : Str) (id : Int) (v : Val) (n : Nat) (F : List Int) (q : RSt) (r1 : (ClSt × DSt) × Int) (hr1 : updateR c s token id v = r1) (hN : [x, d, tb, ob, fb].Nodup) (h : CI c F n) (h2 : Two s q n) (hn : n ≤ 100) (m : AMem) (K : AV → AMem → Prop) (hK : K (.err 108 r1.2) (AMem.wth m [(x, cObj d tb ob fb r1.1.1), (d, dObj kb nb r1.1.2), (tb, tObj r1.1.1.things), (ob, oObj r1.1.1.tokens), (fb, fObj r1.1.1.fails)])) :
    ACalls Try.prog 50 [.ptr ⟨x, 0, none⟩, .str token, .int .i64 id, valTop v] (AMem.wth m [(x, cObj d tb ob fb c), (d, dObj kb nb s), (tb, tObj c.things), (ob, oObj c.tokens), (fb, fObj c.fails)]) K := by
  subst hr1
  have i := h2.inv; have j1 := i.st0; have j2 := i.st1; have j3 := i.fu0; have j4 := i.fu1
  have k1 := h.nx0; have k2 := h.nx1; have k3 := h.ca1; have k4 := h.tl; have k5 := h.ol; have k6 := h.Fl
  exact u_Update x d tb ob fb kb nb c s token id v hN i.st0 (by omega) j3 j4 h.ca0 (by omega) (by omega) (by omega) (by omega) (by omega) m K hK
theorem u_DeleteC (x d tb ob fb kb nb : Nat) (c : ClSt) (s : DSt) (token : Str) (id : Int) (n : Nat) (F : List Int) (q : RSt) (r1 : (ClSt × DSt) × Int) (hr1 : deleteR c s token id = r1) (hN : [x, d, tb, ob, fb].Nodup) (h : CI c F n) (h2 : Two s q n) (hn : n ≤ 100) (m : AMem) (K : AV → AMem → Prop) (hK : K (.err 108 r1.2) (AMem.wth m [(x, cObj d tb ob fb r1.1.1), (d, dObj kb nb r1.1.2), (tb, tObj r1.1.1.things), (ob, oObj r1.1.1.tokens), (fb, fObj r1.1.1.fails)])) :
    ACalls Try.prog 51 [.ptr ⟨x, 0, none⟩, .str token, .int .i64 id] (AMem.wth m [(x, cObj d tb ob fb c), (d, dObj kb nb s), (tb, tObj c.things), (ob, oObj c.tokens), (fb, fObj c.fails)]) K := by
  subst hr1
  have i := h2.inv; have j1 := i.st0; have j2 := i.st1; have j3 := i.fu0; have j4 := i.fu1
  have k1 := h.nx0; have k2 := h.nx1; have k3 := h.ca1; have k4 := h.tl; have k5 := h.ol; have k6 := h.Fl
  exact u_Delete x d tb ob fb kb nb c s token id hN i.st0 (by omega) j3 j4 h.ca0 (by omega) (by omega) (by omega) (by omega) (by omega) m K hK
theorem u_Do1W (r e : Nat) (q : RSt) (s : DSt) (c : ClSt) (F : List Int) (token kind : Str) (id : Int) (v : Val) (n : Nat) (r1 : (ClSt × DSt) × (Int × Int)) (hr1 : createR c s token kind v = r1) {m : AMem} {H : List (Nat × AObj)} {av : AV} {ks : List Nat} (hT : HidR thgAV m ks H av (vals c)) (hr : r ∈ ks) (he : e ∈ ks) (hN : [r, e].Nodup) (h : CI c F n) (h2 : Two s q n) (hn : n ≤ 100) (hB : depV v ≤ 1000000000000) (K : AV → AMem → Prop) (hK : ∀ H' av', HidR thgAV m [r, e] H' av' (vals r1.1.1) → K (.tuple [.int .i64 r1.2.1, .int .i64 r1.2.2]) ((m.wth H').wth [(r, rcObj e av' r1.1.1 F), (e, rObj (rT q r1.1.2))])) :
    ACalls Try.prog 49 [.ptr ⟨r, 0, none⟩, .int .i64 1, .str token, .str kind, .int .i64 id, valTop v] ((m.wth H).wth [(r, rcObj e av c F), (e, rObj (rT q s))]) K := by
  subst hr1
  have k1 := h.nx0; have k2 := h.nx1; have k3 := h.ca1; have k4 := h.tl; have k5 := h.ol; have k6 := h.Fl
  rcases hT.sh with ⟨rfl, rfl, hz⟩ | ⟨b, zs, rfl, rfl, hle, htk⟩
  · exact u_Do1_nil r e q s c F token kind id v n hN (by simpa [vals] using hz) (fun p hp => (h.ids p hp).2.1.2) h2 (by omega) hB (h.fr _) h.ca0 (by omega) (by omega) (by omega) (by omega) (by omega) (by omega) m K (fun r0 h0 H' av' hT' => by subst h0; exact hK H' av' hT')
  · have hne : r ≠ b := by have := hT.nin hr; simpa using this
    have hne2 : e ≠ b := by have := hT.nin he; simpa using this
    exact u_Do1_ms r e b (vals c).length zs q s c F token kind id v n (by simp at hN ⊢; omega) hle (by rw [vals_len]; omega) htk (fun p hp => (h.ids p hp).1) (fun p hp => (h.ids p hp).2.1.2) h2 (by omega) hB (h.fr _) h.ca0 (by omega) (by omega) (by omega) (by omega) (by omega) (by omega) m (hT.out b (by simp)) K (fun r0 h0 H' av' hT' => by subst h0; exact hK H' av' hT')
theorem u_Do2W (r e : Nat) (q : RSt) (s : DSt) (c : ClSt) (F : List Int) (token kind : Str) (id : Int) (v : Val) (n : Nat) (r1 : (ClSt × DSt) × Int) (hr1 : updateR c s token id v = r1) {m : AMem} {H : List (Nat × AObj)} {av : AV} {ks : List Nat} (hT : HidR thgAV m ks H av (vals c)) (hr : r ∈ ks) (he : e ∈ ks) (hN : [r, e].Nodup) (h : CI c F n) (h2 : Two s q n) (hn : n ≤ 100) (hB : depV v ≤ 1000000000000) (K : AV → AMem → Prop) (hK : ∀ H' av', HidR thgAV m [r, e] H' av' (vals r1.1.1) → ∀ x : Int, K (.tuple [.int .i64 x, .int .i64 r1.2]) ((m.wth H').wth [(r, rcObj e av' r1.1.1 F), (e, rObj (rT q r1.1.2))])) :
    ACalls Try.prog 49 [.ptr ⟨r, 0, none⟩, .int .i64 2, .str token, .str kind, .int .i64 id, valTop v] ((m.wth H).wth [(r, rcObj e av c F), (e, rObj (rT q s))]) K := by
  subst hr1
  have k1 := h.nx0; have k2 := h.nx1; have k3 := h.ca1; have k4 := h.tl; have k5 := h.ol; have k6 := h.Fl
  rcases hT.sh with ⟨rfl, rfl, hz⟩ | ⟨b, zs, rfl, rfl, hle, htk⟩
  · exact u_Do2_nil r e q s c F token kind id v n hN (by simpa [vals] using hz) h2 (by omega) hB (h.fr _) h.ca0 (by omega) (by omega) (by omega) (by omega) (by omega) (by omega) m K (fun r0 h0 H' av' hT' x => by subst h0; exact hK H' av' hT' x)
  · have hne : r ≠ b := by have := hT.nin hr; simpa using this
    have hne2 : e ≠ b := by have := hT.nin he; simpa using this
    exact u_Do2_ms r e b (vals c).length zs q s c F token kind id v n (by simp at hN ⊢; omega) hle (by rw [vals_len]; omega) htk (fun p hp => (h.ids p hp).1) h2 (by omega) hB (h.fr _) h.ca0 (by omega) (by omega) (by omega) (by omega) (by omega) (by omega) m (hT.out b (by simp)) K (fun r0 h0 H' av' hT' x => by subst h0; exact hK H' av' hT' x)
theorem u_Do3W (r e : Nat) (q : RSt) (s : DSt) (c : ClSt) (F : List Int) (token kind : Str) (id : Int) (v : Val) (n : Nat) (r1 : (ClSt × DSt) × Int) (hr1 : deleteR c s token id = r1) {m : AMem} {H : List (Nat × AObj)} {av : AV} {ks : List Nat} (hT : HidR thgAV m ks H av (vals c)) (hr : r ∈ ks) (he : e ∈ ks) (hN : [r, e].Nodup) (h : CI c F n) (h2 : Two s q n) (hn : n ≤ 100) (hB : depV v ≤ 1000000000000) (K : AV → AMem → Prop) (hK : ∀ H' av', HidR thgAV m [r, e] H' av' (vals r1.1.1) → ∀ x : Int, K (.tuple [.int .i64 x, .int .i64 r1.2]) ((m.wth H').wth [(r, rcObj e av' r1.1.1 F), (e, rObj (rT q r1.1.2))])) :
    ACalls Try.prog 49 [.ptr ⟨r, 0, none⟩, .int .i64 3, .str token, .str kind, .int .i64 id, valTop v] ((m.wth H).wth [(r, rcObj e av c F), (e, rObj (rT q s))]) K := by
  subst hr1
  have k1 := h.nx0; have k2 := h.nx1; have k3 := h.ca1; have k4 := h.tl; have k5 := h.ol; have k6 := h.Fl
  exact u_Do3 r e q s c F token kind id v n H av hN (fun p hp => (h.ids p hp).1) h.nd h2 (by omega) hB (h.fr _) h.ca0 (by omega) (by omega) (by omega) (by omega) (by omega) (by omega) m (hT.keep (by intro z hz; simp at hz; rcases hz with rfl | rfl <;> assumption)) K (fun r0 h0 H' av' hT' x => by subst h0; exact hK H' av' hT' x)

end Go.Proofs
end
section
namespace Go.Proofs
open Go Go.Aw
set_option maxRecDepth 100000


theorem own_nils_own (w : World) (lim : Nat → Nat) (v : Value) (os : List Nat) (h : Rep w lim v (.slice true []) os) : Rep w lim v .nils [] := nils_of_own w lim v os h

theorem u_RNew (e : Nat) (z : Int)  (m : AMem)  (K : AV → AMem → Prop) (hK : ∀ r, m r = none → K (.ptr ⟨r, 0, none⟩) (AMem.wth m [(r, rcObj e .nils ⟨[], [], 1, z, 0, []⟩ [])])) : ACalls Try.prog 47 [.ptr ⟨e, 0, none⟩, .int .i64 z] m K := by
 refine acalls_enter Try.func47 rfl (by decide) (Nat.le_of_ble_eq_true rfl) ?_
 show AWP _ _ _ _ [(0, .ptr ⟨e, 0, none⟩), (1, .int .i64 z)] m
 refine awp_reg2_seq [] [0, 1] (by decide) ?_
 intro K1 hK1
 refine ⟨trivial, ?_⟩
 show K1 [(0, .ptr ⟨e, 0, none⟩), (1, .int .i64 z)] m
 refine hK1 _ _ ?_; clear hK1 K1
 refine awp_reg2_seq [] [4] (by decide) ?_
 intro K1 hK1
 refine ⟨trivial, trivial, ⟨rfl, by simp only [List.forall_mem_cons]; exact ⟨rfl, rfl, rfl, rfl, rfl, rfl, rfl, fun _ h => by cases h⟩, by simp only [List.forall_mem_cons]; exact ⟨rfl, rfl, rfl, fun _ h => by cases h⟩⟩, ?_⟩
 refine ar_box rfl (m := m) (L := []) (v := .agg [.ptr ⟨e, 0, none⟩, .slice true [], .slice true [], .int .i64 1, .int .i64 z, .int .i64 0, .slice true []]) rfl rfl ?_
 intro b1 hb1
 have hFb1 : m b1 = none := wth_none (m := m) (L := []) hb1
 have hNb1 : ([b1] : List Nat).Nodup := wth_nodup (m := m) (L := []) hb1 List.nodup_nil
 refine ⟨trivial, ?_⟩
 show K1 [(4, .ptr ⟨b1, 0, none⟩)] (AMem.wth m [(b1, .cells [.ptr ⟨e, 0, none⟩, .slice true [], .slice true [], .int .i64 1, .int .i64 z, .int .i64 0, .slice true []])])
 refine hK1 _ _ ?_; clear hK1 K1
 refine awp_convM 0 1 .nils hNb1 rfl (by simp) own_nils_own ?_
 show AWP _ _ _ _ [(4, .ptr ⟨b1, 0, none⟩)] (AMem.wth m [(b1, .cells [.ptr ⟨e, 0, none⟩, .nils, .slice true [], .int .i64 1, .int .i64 z, .int .i64 0, .slice true []])])
 refine awp_ret ?_
 refine ⟨trivial, (AMem.wth m [(b1, .cells [.ptr ⟨e, 0, none⟩, .nils, .slice true [], .int .i64 1, .int .i64 z, .int .i64 0, .slice true []])]), fun _ _ h => h, ?_⟩
 show K (.ptr ⟨b1, 0, none⟩) _

 exact hK _ hFb1

set_option maxHeartbeats 2000000 in
theorem u_SameThings_nil   (m : AMem)  (K : AV → AMem → Prop) (hK : K (.bool true) m) : ACalls Try.prog 61 [.slice false [], .nils] m K := by
 refine acalls_enter Try.func61 rfl (by decide) (Nat.le_of_ble_eq_true rfl) ?_
 show AWP _ _ _ _ [(0, .slice false []), (1, .nils)] m
 refine awp_reg2_seq [] [0, 1] (by decide) ?_
 intro K1 hK1
 refine ⟨trivial, ?_⟩
 show K1 [(0, .slice false []), (1, .nils)] m
 refine hK1 _ _ ?_; clear hK1 K1
 refine awp_seq_k ?_; intro K2 hK2
 refine awp_reg2_seq [] [0, 1, 11] (by decide) ?_
 intro K1 hK1
 refine ⟨trivial, trivial, trivial, trivial, trivial, ?_⟩
 show K1 [(0, .slice false []), (1, .nils), (11, .bool false)] m
 refine hK1 _ _ ?_; clear hK1 K1
 refine awp_cond rfl rfl (fun hcz => ?_) (fun hcz => ?_)
 ·
  cases hcz
 clear hcz
 refine awp_skip ?_
 refine hK2 _ _ ?_; clear hK2
 refine awp_seq_k ?_; intro K3 hK3
 refine awp_reg2_seq [] [0, 1, 5] (by decide) ?_
 intro K1 hK1
 refine ⟨trivial, ?_⟩
 show K1 [(0, .slice false []), (1, .nils), (5, .int .i64 0)] m
 refine hK1 _ _ ?_; clear hK1 K1
 refine awp_block ?_
 refine awp_keep [0, 1, 5] (by decide) ?_
 refine awp_loop_st (σ := Int) (fun i => [(0, .slice false []), (1, .nils), (5, .int .i64 i)]) (fun _ => m) (fun i => i = 0) (fun i => 1) (0) rfl rfl ?_ ?_
 ·
  show ((0 : Int)) = 0
  rfl
 rintro i hI
 replace hI : i = 0 := hI
 show AWP _ _ _ _ [(0, .slice false []), (1, .nils), (5, .int .i64 i)] m
 refine awp_seq_k ?_; intro K4 hK4
 refine awp_reg2_seq [] [0, 1, 5, 15] (by decide) ?_
 intro K1 hK1
 refine ⟨trivial, trivial, trivial, trivial, ?_⟩
 show K1 [(0, .slice false []), (1, .nils), (5, .int .i64 i), (15, .bool (decide (i < 0)))] m
 refine hK1 _ _ ?_; clear hK1 K1
 refine awp_cond rfl rfl (fun h1 => ?_) (fun h1 => ?_)
 ·
  replace h1 : i < 0 := (of_decide_eq_true h1)
  omega
 replace h1 : 0 ≤ i := (Int.not_lt.1 (of_decide_eq_false h1))
 refine awp_exit ?_
 refine hK3 _ _ ?_; clear hK3
 refine awp_reg2_seq [] [4] (by decide) ?_
 intro K1 hK1
 refine ⟨trivial, ?_⟩
 show K1 [(4, .bool true)] m
 refine hK1 _ _ ?_; clear hK1 K1
 refine awp_ret ?_
 refine ⟨trivial, m, fun _ _ h => h, ?_⟩
 show K (.bool true) m

 exact hK

set_option maxHeartbeats 4000000 in
theorem u_SameThings_ms (b k : Nat) (zs l : List Thg) (hk : k ≤ zs.length) (hkb : k ≤ 1000000) (hv : zs.take k = l) (m : AMem)  (K : AV → AMem → Prop) (hK : K (.bool true) (AMem.wth m [(b, .cells (flatK thgAV zs))])) : ACalls Try.prog 61 [.slice false (l.map thgAV), .ms ⟨b, 0, none⟩ k zs.length] (AMem.wth m [(b, .cells (flatK thgAV zs))]) K := by
 have hlk : l.length = k := by rw [← hv, List.length_take, Nat.min_eq_left hk]
 refine acalls_enter Try.func61 rfl (by decide) (Nat.le_of_ble_eq_true rfl) ?_
 show AWP _ _ _ _ [(0, .slice false (l.map thgAV)), (1, .ms ⟨b, 0, none⟩ k zs.length)] (AMem.wth m [(b, .cells (flatK thgAV zs))])
 refine awp_reg2_seq [] [0, 1] (by decide) ?_
 intro K1 hK1
 refine ⟨trivial, ?_⟩
 show K1 [(0, .slice false (l.map thgAV)), (1, .ms ⟨b, 0, none⟩ k zs.length)] _
 refine hK1 _ _ ?_; clear hK1 K1
 refine awp_seq_k ?_; intro K2 hK2
 refine awp_reg2_seq [] [0, 1, 11] (by decide) ?_
 intro K1 hK1
 refine ⟨trivial, ?_⟩
 refine ar_len rfl thgAV l rfl rfl rfl ?_
 refine ⟨trivial, (by omega), trivial, ?_⟩
 show K1 [(0, .slice false (l.map thgAV)), (1, .ms ⟨b, 0, none⟩ k zs.length), (11, .bool (!((l.length : Int) == ((k : Nat) : Int))))] _
 refine hK1 _ _ ?_; clear hK1 K1
 refine awp_cond rfl rfl (fun h1 => ?_) (fun h1 => ?_)
 ·
  replace h1 : (l.length : Int) ≠ ((k : Nat) : Int) := (ne_of_beq_false (bnT h1))
  omega
 replace h1 : (l.length : Int) = ((k : Nat) : Int) := (eq_of_beq (bnF h1))
 refine awp_skip ?_
 refine hK2 _ _ ?_; clear hK2
 refine awp_seq_k ?_; intro K3 hK3
 refine awp_reg2_seq [] [0, 1, 5] (by decide) ?_
 intro K1 hK1
 refine ⟨trivial, ?_⟩
 show K1 [(0, .slice false (l.map thgAV)), (1, .ms ⟨b, 0, none⟩ k zs.length), (5, .int .i64 0)] (AMem.wth m [(b, .cells (flatK thgAV zs))])
 refine hK1 _ _ ?_; clear hK1 K1
 refine awp_block ?_
 refine awp_keep [0, 1, 5] (by decide) ?_
 refine awp_loop_st (σ := Int) (fun i => [(0, .slice false (l.map thgAV)), (1, .ms ⟨b, 0, none⟩ k zs.length), (5, .int .i64 i)]) (fun _ => (AMem.wth m [(b, .cells (flatK thgAV zs))])) (fun i => 0 ≤ i ∧ i ≤ l.length) (fun i => l.length - i.toNat) (0) rfl rfl ?_ ?_
 ·
  show 0 ≤ ((0 : Int)) ∧ ((0 : Int)) ≤ l.length
  exact ⟨by omega, by omega⟩
 rintro i hI
 replace hI : 0 ≤ i ∧ i ≤ l.length := hI
 show AWP _ _ _ _ [(0, .slice false (l.map thgAV)), (1, .ms ⟨b, 0, none⟩ k zs.length), (5, .int .i64 i)] (AMem.wth m [(b, .cells (flatK thgAV zs))])
 refine awp_seq_k ?_; intro K4 hK4
 refine awp_reg2_seq [] [0, 1, 5, 15] (by decide) ?_
 intro K1 hK1
 refine ⟨trivial, trivial, ?_⟩
 refine ar_len rfl thgAV l rfl rfl rfl ?_
 refine ⟨trivial, ?_⟩
 show K1 [(0, .slice false (l.map thgAV)), (1, .ms ⟨b, 0, none⟩ k zs.length), (5, .int .i64 i), (15, .bool (decide (i < (l.length : Int))))] _
 refine hK1 _ _ ?_; clear hK1 K1
 refine awp_cond rfl rfl (fun h2 => ?_) (fun h2 => ?_)
 ·
  replace h2 : i < (l.length : Int) := (of_decide_eq_true h2)
  refine awp_skip ?_
  refine hK4 _ _ ?_; clear hK4
  refine awp_seq_k ?_; intro K5 hK5
  refine awp_block ?_
  refine awp_draw_seq Try.mixed [(.bool ((((gI l i).id == (gI zs i).id) && ((gI l i).kind == (gI zs i).kind)) && vEq (gI l i).v (gI zs i).v))] [0, 1, 5, 6] (by decide) (by decide) ?_
  intro K1 hK1
  refine ⟨trivial, trivial, ?_⟩
  refine pq_index rfl thgAV l i rfl rfl rfl rfl rfl (by decide) (fun _ => rfl) (by omega) (by omega) ?_
  refine ⟨(apartOk_agg rfl rfl (Nat.le_of_ble_eq_true rfl)), trivial, trivial, ⟨rfl, (by omega), (by omega)⟩, ?_⟩
  refine pq_loadk rfl (m := m) (L := [(b, .cells (flatK thgAV zs))]) thgAV zs i 0 (v := thgAV (gI zs i)) rfl (by show 0 + (i).toNat * 7 = (i).toNat * 7 + 0; omega) (wth_get 0 (nodup_1 b) rfl) (fun _ => rfl) rfl (Nat.le_of_ble_eq_true rfl) (Nat.le_of_ble_eq_true rfl) rfl (by omega) (by omega) ?_
  refine ⟨(fun Kc hKc => u_SameThing (gI l i) (gI zs i) _ Kc hKc), trivial, ?_⟩
  show K1 [(0, .slice false (l.map thgAV)), (1, .ms ⟨b, 0, none⟩ k zs.length), (5, .int .i64 i), (6, .bool ((((gI l i).id == (gI zs i).id) && ((gI l i).kind == (gI zs i).kind)) && vEq (gI l i).v (gI zs i).v))] (AMem.wth m [(b, .cells (flatK thgAV zs))])
  refine hK1 _ _ ?_; clear hK1 K1
  refine awp_reg2_seq [] [0, 1, 5, 28] (by decide) ?_
  intro K1 hK1
  refine ⟨trivial, trivial, ?_⟩
  show K1 [(0, .slice false (l.map thgAV)), (1, .ms ⟨b, 0, none⟩ k zs.length), (5, .int .i64 i), (28, .bool (!((((gI l i).id == (gI zs i).id) && ((gI l i).kind == (gI zs i).kind)) && vEq (gI l i).v (gI zs i).v)))] _
  refine hK1 _ _ ?_; clear hK1 K1
  refine awp_cond rfl rfl (fun h3 => ?_) (fun h3 => ?_)
  ·
   replace h3 : ((((gI l i).id == (gI zs i).id) && ((gI l i).kind == (gI zs i).kind)) && vEq (gI l i).v (gI zs i).v) = false := (bnT h3)
   rw [show gI l i = gI zs i from by rw [← hv, gI_takeK zs hI.1 (by omega)]] at h3
   rw [vEq_true rfl] at h3
   simp at h3
  replace h3 : ((((gI l i).id == (gI zs i).id) && ((gI l i).kind == (gI zs i).kind)) && vEq (gI l i).v (gI zs i).v) = true := (bnF h3)
  refine awp_skip ?_
  refine hK5 _ _ ?_; clear hK5
  refine awp_reg2 [] [0, 1, 5] (by decide) ?_
  intro K1 hK1
  refine ⟨trivial, ?_⟩
  refine ar_add rfl (a := i) (b := 1) rfl rfl (by omega) (by omega) ?_
  refine ⟨trivial, ?_⟩
  show K1 [(0, .slice false (l.map thgAV)), (1, .ms ⟨b, 0, none⟩ k zs.length), (5, .int .i64 (i + 1))] (AMem.wth m [(b, .cells (flatK thgAV zs))])
  refine hK1 _ _ ?_; clear hK1 K1
  refine ⟨(i + 1), rfl, rfl, ?_, ?_⟩
  ·
   show 0 ≤ ((i + 1 : Int)) ∧ ((i + 1 : Int)) ≤ l.length
   (first | omega | (simp_all; done) | (simp_all; omega))
  ·
   show l.length - ((i + 1 : Int)).toNat < l.length - i.toNat
   omega
 replace h2 : (l.length : Int) ≤ i := (Int.not_lt.1 (of_decide_eq_false h2))
 refine awp_exit ?_
 refine hK3 _ _ ?_; clear hK3
 refine awp_reg2_seq [] [4] (by decide) ?_
 intro K1 hK1
 refine ⟨trivial, ?_⟩
 show K1 [(4, .bool true)] (AMem.wth m [(b, .cells (flatK thgAV zs))])
 refine hK1 _ _ ?_; clear hK1 K1
 refine awp_ret ?_
 refine ⟨trivial, (AMem.wth m [(b, .cells (flatK thgAV zs))]), fun _ _ h => h, ?_⟩
 show K (.bool true) _

 exact hK


theorem u_SameThingsH {m : AMem} {H : List (Nat × AObj)} {av : AV} {ks : List Nat} {l : List Thg} (hT : HidR thgAV m ks H av l) (hl : l.length ≤ 1000000) (K : AV → AMem → Prop) (hK : K (.bool true) ((m.wth H).wth [])) :
    ACalls Try.prog 61 [.slice false (l.map thgAV), av] ((m.wth H).wth []) K := by
  rcases hT.sh with ⟨rfl, rfl, rfl⟩ | ⟨b, zs, rfl, rfl, hle, htk⟩
  · exact u_SameThings_nil m K hK
  · exact u_SameThings_ms b l.length zs l hle hl htk m K hK
theorem u_SameThingEq (x : Thg) (m : AMem) (K : AV → AMem → Prop) (hK : K (.bool true) m) : ACalls Try.prog 54 [thgAV x, thgAV x] m K :=
  u_SameThing x x m K (by rw [vEq_true rfl]; simpa using hK)
theorem u_AllC (x d tb ob fb : Nat) (c : ClSt) (F : List Int) (n : Nat) (hN : [x, tb].Nodup) (h : CI c F n) (hn : n ≤ 1000) (m : AMem) (K : AV → AMem → Prop) (hK : K (.slice false ((vals c).map thgAV)) (AMem.wth m [(x, cObj d tb ob fb c), (tb, tObj c.things)])) :
    ACalls Try.prog 62 [.ptr ⟨x, 0, none⟩] (AMem.wth m [(x, cObj d tb ob fb c), (tb, tObj c.things)]) K := by
  have h4 := h.tl; have h3 := h.nx1
  exact u_All x d tb ob fb c hN (by omega) h.nd (fun p hp => by have q := h.ids p hp; exact ⟨q.1, ⟨q.2.1.1, by omega⟩, q.2.2⟩) m K (by rw [h.all]; exact hK)
theorem spoil_form (c : ClSt) (id : Int) (v : Val) : ∃ t2, spoilC c id v = { c with things := t2 } := by
  unfold spoilC; split
  · exact ⟨_, rfl⟩
  · exact ⟨c.things, rfl⟩
theorem u_CSpoilF (x d tb ob fb : Nat) (c : ClSt) (id : Int) (v : Val) (t2 : List (Int × Thg)) (ht2 : spoilC c id v = { c with things := t2 }) (hN : [x, tb].Nodup) (hl : c.things.length ≤ 1000000) (m : AMem) (K : AV → AMem → Prop) (hK : K (.tuple []) (AMem.wth m [(x, cObj d tb ob fb c), (tb, tObj t2)])) :
    ACalls Try.prog 57 [.ptr ⟨x, 0, none⟩, .int .i64 id, valTop v] (AMem.wth m [(x, cObj d tb ob fb c), (tb, tObj c.things)]) K :=
  u_CSpoil x d tb ob fb c id v hN hl m K (by rw [ht2]; exact hK)
theorem u_RSpoilF (r e : Nat) (c : ClSt) (F : List Int) (id : Int) (v : Val) (t2 : List (Int × Thg)) (ht2 : spoilC c id v = { c with things := t2 }) {m : AMem} {H : List (Nat × AObj)} {av : AV} {ks : List Nat} (hT : HidR thgAV m ks H av (vals c)) (hr : r ∈ ks) (hl : c.things.length ≤ 1000000) (hids : ∀ p ∈ c.things, p.2.id = p.1) (hB : depV v ≤ 1000000000000) (K : AV → AMem → Prop)
    (hK : ∀ H' av', HidR thgAV m ks H' av' (vals ({ c with things := t2 } : ClSt)) → K (.tuple []) ((m.wth H').wth [(r, rcObj e av' ({ c with things := t2 } : ClSt) F)])) :
    ACalls Try.prog 58 [.ptr ⟨r, 0, none⟩, .int .i64 id, valTop v] ((m.wth H).wth [(r, rcObj e av c F)]) K :=
  u_RSpoil r e c F id v hT hr hl hids hB K (fun H' av' h => by rw [ht2] at h ⊢; exact hK H' av' h)
theorem HidR.add {m : AMem} {ks : List Nat} {H : List (Nat × AObj)} {av : AV} {l : List Thg} (h : HidR thgAV m ks H av l) {c : Nat} (hc : (m.wth H) c = none) : HidR thgAV m (c :: ks) H av l := ⟨h.nd, fun z hz => ⟨(h.fr z hz).1, fun k => by
  rcases List.mem_cons.1 k with rfl | k
  · exact hid_nin hc hz
  · exact (h.fr z hz).2 k⟩, h.sh⟩
theorem u_CNewBad (d : Nat) (z : Int) (hz : ¬ (0 ≤ z ∧ z ≤ 40)) (m : AMem)  (K : AV → AMem → Prop) (hK : K (.tuple [.nilptr, .err 108 1]) m) : ACalls Try.prog 46 [.ptr ⟨d, 0, none⟩, .int .i64 z] m K := by
 refine acalls_enter Try.func46 rfl (by decide) (Nat.le_of_ble_eq_true rfl) ?_
 show AWP _ _ _ _ [(0, .ptr ⟨d, 0, none⟩), (1, .int .i64 z)] m
 refine awp_reg2_seq [] [0, 1] (by decide) ?_
 intro K1 hK1
 refine ⟨trivial, trivial, ?_⟩
 show K1 [(0, .ptr ⟨d, 0, none⟩), (1, .int .i64 z)] m
 refine hK1 _ _ ?_; clear hK1 K1
 refine awp_seq_k ?_; intro K2 hK2
 refine awp_reg2_seq [] [0, 1, 11] (by decide) ?_
 intro K1 hK1
 suffices key : K1 [(0, .ptr ⟨d, 0, none⟩), (1, .int .i64 z), (11, .bool ((decide (z < 0)) || (decide (40 < z))))] m by
  refine ⟨trivial, trivial, trivial, ?_⟩
  show aopsR _ _ _ _ _ [(8, .bool (decide (z < 0))), (7, .bool (decide (z < 0))), (6, .int .i64 z), (0, .ptr ⟨d, 0, none⟩), (1, .int .i64 z)] _
  revert key
  cases h1 : (decide (z < 0))
  ·
   replace h1 : 0 ≤ z := (Int.not_lt.1 (of_decide_eq_false h1))
   intro key
   refine ⟨trivial, trivial, ?_⟩
   exact key
  ·
   replace h1 : z < 0 := (of_decide_eq_true h1)
   intro key
   refine ar_off rfl (ar_off rfl ?_)
   exact key
 refine hK1 _ _ ?_; clear hK1 K1
 refine awp_cond rfl rfl (fun h2 => ?_) (fun h2 => ?_)
 ·
  replace h2 : (z < 0) ∨ (40 < z) := ((borT h2).imp (fun q => (of_decide_eq_true q)) (fun q => (of_decide_eq_true q)))
  refine awp_reg2_seq [] [4, 5] (by decide) ?_
  intro K1 hK1
  refine ⟨trivial, trivial, trivial, ?_⟩
  show K1 [(4, .nilptr), (5, .iface 108 (.int .i64 1))] m
  refine hK1 _ _ ?_; clear hK1 K1
  refine awp_toErr 108 [5] ?_
  show AWP _ _ _ _ [(4, .nilptr), (5, .err 108 1)] m
  refine awp_ret ?_
  refine ⟨trivial, trivial, m, fun _ _ h => h, ?_⟩
  show K (.tuple [.nilptr, .err 108 1]) m
 
  exact hK
 replace h2 : (0 ≤ z) ∧ (z ≤ 40) := ⟨(Int.not_lt.1 (of_decide_eq_false (borL h2))), (Int.not_lt.1 (of_decide_eq_false (borR h2)))⟩
 omega


def cA : ClSt := ⟨[], [], 1, 3, 0, []⟩
def rA : (ClSt × DSt) × (Int × Int) := createR cA s0 ([116] : List UInt8) ([118, 109] : List UInt8) vZ
def cA1 : ClSt := rA.1.1
def sA1 : DSt := rA.1.2
def rB : (ClSt × DSt) × (Int × Int) := createR cA1 sA1 ([116] : List UInt8) ([118, 109] : List UInt8) vZ
def cA2 : ClSt := rB.1.1
def sA2 : DSt := rB.1.2
theorem tkA : TK cA s0 0 := ⟨⟨rfl, rfl⟩, Int.le_refl _, Int.le_refl _, rfl, by decide, by decide, Int.le_refl _, Int.le_refl _, Nat.le_refl _, Nat.le_refl _, List.nodup_nil, fun p hp => by cases hp⟩
theorem rA_eq : rA = (({ cA with calls := 1, next := 2, things := [(1, ⟨1, ([118, 109] : List UInt8), vZ⟩)], tokens := [(([116] : List UInt8), ⟨1, 1⟩)] }, (stepF s0).1), (1, 0)) := by
  unfold rA
  rw [tkA.create_3 (by rfl) (by decide) ⟨rfl, rfl⟩ (by decide)]
  rfl
theorem tkA1 : TK cA1 sA1 1 := (tkA.create2 (token := ([116] : List UInt8)) (kind := ([118, 109] : List UInt8)) (v := vZ)).k1
theorem tkA2 : TK cA2 sA2 2 := (tkA.create2 (token := ([116] : List UInt8)) (kind := ([118, 109] : List UInt8)) (v := vZ)).k2
theorem rB_eq : rB = (({ cA1 with calls := cA1.calls + 1 }, (stepF sA1).1), (1, 0)) := by
  unfold rB
  rw [tkA1.create_1 (by rfl) (by decide) (by rw [show cA1 = { cA with calls := 1, next := 2, things := [(1, ⟨1, ([118, 109] : List UInt8), vZ⟩)], tokens := [(([116] : List UInt8), ⟨1, 1⟩)] } from by unfold cA1; rw [rA_eq]]; exact .inr rfl)]
  rw [show tokX cA1 ([116] : List UInt8) 1 = (⟨1, 1⟩, true, 0) from by rw [show cA1 = { cA with calls := 1, next := 2, things := [(1, ⟨1, ([118, 109] : List UInt8), vZ⟩)], tokens := [(([116] : List UInt8), ⟨1, 1⟩)] } from by unfold cA1; rw [rA_eq]]; rfl]
theorem cA2_eq : cA2.calls = 2 ∧ allT cA2 = [(⟨1, ([118, 109] : List UInt8), vZ⟩ : Thg)] := by
  have e : cA2 = { cA with calls := 2, next := 2, things := [(1, ⟨1, ([118, 109] : List UInt8), vZ⟩)], tokens := [(([116] : List UInt8), ⟨1, 1⟩)] } := by
    unfold cA2; rw [rB_eq]; unfold cA1; rw [rA_eq]; rfl
  rw [e]
  exact ⟨rfl, by simp [allT, sortT]⟩
theorem u_Calls2 (x d tb ob fb : Nat) (m : AMem) (K : AV → AMem → Prop) (hK : K (.int .i64 2) (AMem.wth m [(x, cObj d tb ob fb cA2)])) : ACalls Try.prog 60 [.ptr ⟨x, 0, none⟩] (AMem.wth m [(x, cObj d tb ob fb cA2)]) K :=
  u_CCalls x d tb ob fb cA2 m K (by rw [cA2_eq.1]; exact hK)

set_option maxHeartbeats 4000000 in
theorem u_rains   (m : AMem)  (K : AV → AMem → Prop) (hK : K (.bool true) m) : ACalls Try.prog 45 [] m K := by
 refine acalls_enter Try.func45 rfl (by decide) (Nat.le_of_ble_eq_true rfl) ?_
 show AWP _ _ _ _ [] m
 refine awp_reg2_seq [] [] (by decide) ?_
 intro K1 hK1
 refine ⟨trivial, ?_⟩
 show K1 [] m
 refine hK1 _ _ ?_; clear hK1 K1
 refine awp_reg2_seq [] [1, 2] (by decide) ?_
 intro K1 hK1
 refine u_New0 _ _ ?_
 intro b1 b2 b3 hqb1 hb1 hb2 hb3
 have hFb1 : m b1 = none := wth_none (m := m) (L := []) hb1
 have hFb2 : m b2 = none := wth_none (m := m) (L := []) hb2
 have hFb3 : m b3 = none := wth_none (m := m) (L := []) hb3
 have hNb1 : ([b1, b2, b3] : List Nat).Nodup := wth_news (m := m) (L := []) hqb1 (by simp only [List.forall_mem_cons]; exact ⟨hb1, hb2, hb3, fun _ h => by cases h⟩) List.nodup_nil
 show aopsR _ _ _ _ _ _ (AMem.wth m [(b1, .cells [.map b3, .map b2, .slice true (s0.wait.map chgAV), .int .i64 s0.fuse, .bool s0.down, .int .i64 s0.steps]), (b2, .map (List.map (mapAV strAV strAV) s0.now)), (b3, .map (List.map (mapAV strAV strAV) s0.kept))])
 refine u_CNew b1 3 (by decide) (by decide) _ _ ?_
 intro b4 b5 b6 b7 hqb4 hb4 hb5 hb6 hb7
 have hFb4 : m b4 = none := wth_none hb4
 have hFb5 : m b5 = none := wth_none hb5
 have hFb6 : m b6 = none := wth_none hb6
 have hFb7 : m b7 = none := wth_none hb7
 have hNb4 : ([b4, b5, b6, b7, b1, b2, b3] : List Nat).Nodup := wth_news (m := m) (L := [(b1, .cells [.map b3, .map b2, .slice true (s0.wait.map chgAV), .int .i64 s0.fuse, .bool s0.down, .int .i64 s0.steps]), (b2, .map (List.map (mapAV strAV strAV) s0.now)), (b3, .map (List.map (mapAV strAV strAV) s0.kept))]) hqb4 (by simp only [List.forall_mem_cons]; exact ⟨hb4, hb5, hb6, hb7, fun _ h => by cases h⟩) hNb1
 show aopsR _ _ _ _ _ _ (AMem.wth m [(b4, cObj b1 b7 b6 b5 cA), (b5, fObj cA.fails), (b6, oObj cA.tokens), (b7, tObj cA.things), (b1, .cells [.map b3, .map b2, .slice true (s0.wait.map chgAV), .int .i64 s0.fuse, .bool s0.down, .int .i64 s0.steps]), (b2, .map (List.map (mapAV strAV strAV) s0.now)), (b3, .map (List.map (mapAV strAV strAV) s0.kept))])
 refine ⟨trivial, (Nat.le_of_ble_eq_true rfl), (Nat.le_of_ble_eq_true rfl), trivial, trivial, ?_⟩
 show K1 [(1, .ptr ⟨b4, 0, none⟩), (2, .err 108 0)] (AMem.wth m [(b4, cObj b1 b7 b6 b5 cA), (b5, fObj cA.fails), (b6, oObj cA.tokens), (b7, tObj cA.things), (b1, .cells [.map b3, .map b2, .slice true (s0.wait.map chgAV), .int .i64 s0.fuse, .bool s0.down, .int .i64 s0.steps]), (b2, .map (List.map (mapAV strAV strAV) s0.now)), (b3, .map (List.map (mapAV strAV strAV) s0.kept))])
 refine hK1 _ _ ?_; clear hK1 K1
 refine awp_seq_k ?_; intro K2 hK2
 refine awp_reg2_seq [] [1, 17] (by decide) ?_
 intro K1 hK1
 suffices key : K1 [(1, .ptr ⟨b4, 0, none⟩), (17, .bool false)] (AMem.wth m [(b4, cObj b1 b7 b6 b5 cA), (b5, fObj cA.fails), (b6, oObj cA.tokens), (b7, tObj cA.things), (b1, .cells [.map b3, .map b2, .slice true (s0.wait.map chgAV), .int .i64 s0.fuse, .bool s0.down, .int .i64 s0.steps]), (b2, .map (List.map (mapAV strAV strAV) s0.now)), (b3, .map (List.map (mapAV strAV strAV) s0.kept))]) by
  refine ⟨trivial, ⟨rfl, rfl⟩, trivial, trivial, rfl, ?_⟩
  exact key
 refine hK1 _ _ ?_; clear hK1 K1
 refine awp_cond rfl rfl (fun hcz => ?_) (fun hcz => ?_)
 ·
  cases hcz
 clear hcz
 refine awp_skip ?_
 refine hK2 _ _ ?_; clear hK2
 refine awp_reg2_seq [] [1, 3, 4] (by decide) ?_
 intro K1 hK1
 refine ⟨trivial, ⟨rfl, by simp only [List.forall_mem_cons]; exact ⟨rfl, rfl, rfl, rfl, rfl, fun _ h => by cases h⟩, by simp only [List.forall_mem_cons]; exact ⟨rfl, fun _ h => by cases h⟩⟩, ?_⟩
 refine ar_mem (wth_split hNb4 (pick_perm [0, 3, 2, 1, 0] _)) ?_
 refine u_CreateK b4 b1 b7 b6 b5 b3 b2 cA s0 ([116] : List UInt8) ([118, 109] : List UInt8) vZ 0 (rA.1, (1, 0)) (Prod.ext rfl (congrArg Prod.snd rA_eq)) (by have hQ := hNb4; simp at hQ ⊢; omega) tkA (by decide) (by decide) _ _ ?_
 show aopsR _ _ _ _ _ _ (AMem.wth (AMem.wth m [(b2, .map (List.map (mapAV strAV strAV) s0.now)), (b3, .map (List.map (mapAV strAV strAV) s0.kept))]) [(b4, cObj b1 b7 b6 b5 cA1), (b1, .cells [.map b3, .map b2, .slice true (sA1.wait.map chgAV), .int .i64 sA1.fuse, .bool sA1.down, .int .i64 sA1.steps]), (b7, tObj cA1.things), (b6, oObj cA1.tokens), (b5, fObj cA1.fails)])
 refine ar_mem (wth_split (m := m) (L := [(b4, cObj b1 b7 b6 b5 cA1), (b5, fObj cA1.fails), (b6, oObj cA1.tokens), (b7, tObj cA1.things), (b1, .cells [.map b3, .map b2, .slice true (sA1.wait.map chgAV), .int .i64 sA1.fuse, .bool sA1.down, .int .i64 sA1.steps]), (b2, .map (List.map (mapAV strAV strAV) s0.now)), (b3, .map (List.map (mapAV strAV strAV) s0.kept))]) hNb4 (pick_perm [0, 3, 2, 1, 0] _)).symm ?_
 refine ⟨trivial, (Nat.le_of_ble_eq_true rfl), (Nat.le_of_ble_eq_true rfl), trivial, trivial, ?_⟩
 show K1 [(1, .ptr ⟨b4, 0, none⟩), (3, .int .i64 1), (4, .err 108 0)] (AMem.wth m [(b4, cObj b1 b7 b6 b5 cA1), (b5, fObj cA1.fails), (b6, oObj cA1.tokens), (b7, tObj cA1.things), (b1, .cells [.map b3, .map b2, .slice true (sA1.wait.map chgAV), .int .i64 sA1.fuse, .bool sA1.down, .int .i64 sA1.steps]), (b2, .map (List.map (mapAV strAV strAV) s0.now)), (b3, .map (List.map (mapAV strAV strAV) s0.kept))])
 refine hK1 _ _ ?_; clear hK1 K1
 refine awp_reg2_seq [] [1, 3, 4, 5, 6] (by decide) ?_
 intro K1 hK1
 refine ⟨trivial, ⟨rfl, by simp only [List.forall_mem_cons]; exact ⟨rfl, rfl, rfl, rfl, rfl, fun _ h => by cases h⟩, by simp only [List.forall_mem_cons]; exact ⟨rfl, fun _ h => by cases h⟩⟩, ?_⟩
 refine ar_mem (wth_split hNb4 (pick_perm [0, 3, 2, 1, 0] _)) ?_
 refine u_CreateK b4 b1 b7 b6 b5 b3 b2 cA1 sA1 ([116] : List UInt8) ([118, 109] : List UInt8) vZ 1 (rB.1, (1, 0)) (Prod.ext rfl (congrArg Prod.snd rB_eq)) (by have hQ := hNb4; simp at hQ ⊢; omega) tkA1 (by decide) (by decide) _ _ ?_
 show aopsR _ _ _ _ _ _ (AMem.wth (AMem.wth m [(b2, .map (List.map (mapAV strAV strAV) s0.now)), (b3, .map (List.map (mapAV strAV strAV) s0.kept))]) [(b4, cObj b1 b7 b6 b5 cA2), (b1, .cells [.map b3, .map b2, .slice true (sA2.wait.map chgAV), .int .i64 sA2.fuse, .bool sA2.down, .int .i64 sA2.steps]), (b7, tObj cA2.things), (b6, oObj cA2.tokens), (b5, fObj cA2.fails)])
 refine ar_mem (wth_split (m := m) (L := [(b4, cObj b1 b7 b6 b5 cA2), (b5, fObj cA2.fails), (b6, oObj cA2.tokens), (b7, tObj cA2.things), (b1, .cells [.map b3, .map b2, .slice true (sA2.wait.map chgAV), .int .i64 sA2.fuse, .bool sA2.down, .int .i64 sA2.steps]), (b2, .map (List.map (mapAV strAV strAV) s0.now)), (b3, .map (List.map (mapAV strAV strAV) s0.kept))]) hNb4 (pick_perm [0, 3, 2, 1, 0] _)).symm ?_
 refine ⟨trivial, (Nat.le_of_ble_eq_true rfl), (Nat.le_of_ble_eq_true rfl), trivial, trivial, ?_⟩
 show K1 [(1, .ptr ⟨b4, 0, none⟩), (3, .int .i64 1), (4, .err 108 0), (5, .int .i64 1), (6, .err 108 0)] (AMem.wth m [(b4, cObj b1 b7 b6 b5 cA2), (b5, fObj cA2.fails), (b6, oObj cA2.tokens), (b7, tObj cA2.things), (b1, .cells [.map b3, .map b2, .slice true (sA2.wait.map chgAV), .int .i64 sA2.fuse, .bool sA2.down, .int .i64 sA2.steps]), (b2, .map (List.map (mapAV strAV strAV) s0.now)), (b3, .map (List.map (mapAV strAV strAV) s0.kept))])
 refine hK1 _ _ ?_; clear hK1 K1
 refine awp_reg2_seq [] [0] (by decide) ?_
 intro K1 hK1
 suffices key : K1 [(0, .bool true)] (AMem.wth m [(b4, cObj b1 b7 b6 b5 cA2), (b5, fObj cA2.fails), (b6, oObj cA2.tokens), (b7, tObj cA2.things), (b1, .cells [.map b3, .map b2, .slice true (sA2.wait.map chgAV), .int .i64 sA2.fuse, .bool sA2.down, .int .i64 sA2.steps]), (b2, .map (List.map (mapAV strAV strAV) s0.now)), (b3, .map (List.map (mapAV strAV strAV) s0.kept))]) by
  refine ⟨trivial, ?_⟩
  refine u_same_eq 0 (by decide) _ _ ?_
  refine ⟨trivial, trivial, ?_⟩
  refine u_same_eq 0 (by decide) _ _ ?_
  refine ⟨trivial, trivial, trivial, ?_⟩
  refine ar_top 38 (.bool true) (congrArg AV.bool (by simp)) ?_
  refine ⟨trivial, trivial, trivial, ?_⟩
  refine ar_top 42 (.bool true) (congrArg AV.bool (by simp)) ?_
  refine ⟨trivial, trivial, ?_⟩
  refine ar_mem (wth_split hNb4 (pick_perm [0, 2] _)) ?_
  refine u_AllK b4 b1 b7 b6 b5 cA2 sA2 2 [(⟨1, ([118, 109] : List UInt8), vZ⟩ : Thg)] cA2_eq.2 (by have hQ := hNb4; simp at hQ ⊢; omega) tkA2 (by decide) _ _ ?_
  show aopsR _ _ _ _ _ _ (AMem.wth (AMem.wth m [(b5, fObj cA2.fails), (b6, oObj cA2.tokens), (b1, .cells [.map b3, .map b2, .slice true (sA2.wait.map chgAV), .int .i64 sA2.fuse, .bool sA2.down, .int .i64 sA2.steps]), (b2, .map (List.map (mapAV strAV strAV) s0.now)), (b3, .map (List.map (mapAV strAV strAV) s0.kept))]) [(b4, cObj b1 b7 b6 b5 cA2), (b7, tObj cA2.things)])
  refine ar_mem (wth_split (m := m) (L := [(b4, cObj b1 b7 b6 b5 cA2), (b5, fObj cA2.fails), (b6, oObj cA2.tokens), (b7, tObj cA2.things), (b1, .cells [.map b3, .map b2, .slice true (sA2.wait.map chgAV), .int .i64 sA2.fuse, .bool sA2.down, .int .i64 sA2.steps]), (b2, .map (List.map (mapAV strAV strAV) s0.now)), (b3, .map (List.map (mapAV strAV strAV) s0.kept))]) hNb4 (pick_perm [0, 2] _)).symm ?_
  refine ⟨trivial, trivial, ?_⟩
  refine ar_top 48 (.bool true) (congrArg AV.bool (by simp)) ?_
  refine ⟨trivial, trivial, ?_⟩
  refine ar_mem (wth_split hNb4 (pick_perm [0] _)) ?_
  refine u_Calls2 b4 b1 b7 b6 b5 _ _ ?_
  show aopsR _ _ _ _ _ _ (AMem.wth (AMem.wth m [(b5, fObj cA2.fails), (b6, oObj cA2.tokens), (b7, tObj cA2.things), (b1, .cells [.map b3, .map b2, .slice true (sA2.wait.map chgAV), .int .i64 sA2.fuse, .bool sA2.down, .int .i64 sA2.steps]), (b2, .map (List.map (mapAV strAV strAV) s0.now)), (b3, .map (List.map (mapAV strAV strAV) s0.kept))]) [(b4, cObj b1 b7 b6 b5 cA2)])
  refine ar_mem (wth_split (m := m) (L := [(b4, cObj b1 b7 b6 b5 cA2), (b5, fObj cA2.fails), (b6, oObj cA2.tokens), (b7, tObj cA2.things), (b1, .cells [.map b3, .map b2, .slice true (sA2.wait.map chgAV), .int .i64 sA2.fuse, .bool sA2.down, .int .i64 sA2.steps]), (b2, .map (List.map (mapAV strAV strAV) s0.now)), (b3, .map (List.map (mapAV strAV strAV) s0.kept))]) hNb4 (pick_perm [0] _)).symm ?_
  refine ⟨trivial, ?_⟩
  refine ar_top 53 (.bool true) (congrArg AV.bool (by simp)) ?_
  refine ⟨trivial, ?_⟩
  exact key
 refine hK1 _ _ ?_; clear hK1 K1
 refine awp_ret ?_
 refine ⟨trivial, m, (wth_sub2 (m := m) [(b4, cObj b1 b7 b6 b5 cA2), (b5, fObj cA2.fails), (b6, oObj cA2.tokens), (b7, tObj cA2.things), (b1, .cells [.map b3, .map b2, .slice true (sA2.wait.map chgAV), .int .i64 sA2.fuse, .bool sA2.down, .int .i64 sA2.steps]), (b2, .map (List.map (mapAV strAV strAV) s0.now)), (b3, .map (List.map (mapAV strAV strAV) s0.kept))] [] hNb4 (by simp only [List.map_cons, List.map_nil, List.forall_mem_cons]; exact ⟨hFb4, hFb5, hFb6, hFb7, hFb1, hFb2, hFb3, fun _ h => by cases h⟩)), ?_⟩
 show K (.bool true) m

 exact hK

end Go.Proofs
end
