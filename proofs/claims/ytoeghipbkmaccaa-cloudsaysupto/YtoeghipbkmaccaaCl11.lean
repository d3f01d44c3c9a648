import Derived.Test.YtoeghipbkmaccaaProg
import Derived.Test.YtoeghipbkmaccaaVa1
import Derived.Test.YtoeghipbkmaccaaCl10
namespace Go.Proofs
open Go Go.Aw
set_option maxRecDepth 100000
section
variable {c : ClSt} {s : DSt} {token kind : Str} {v : Val} {id : Int}
theorem createD_3 (ha : attrE v = 0) (hkk : nameV kind = true) (h : (stepF s).2 ≠ 0) : createR c s token kind v = ((c, (stepF s).1), (0, (stepF s).2)) := (createR_3 ha hkk (.inl (by rw [callT, callR_1 h]; exact h))).trans (by first | (rw [callT, ccalls, callR_1 h]; done) | (rw [callT, ccalls, callR_1 h]; rfl))
theorem createD_4 (ha : attrE v = 0) (hkk : nameV kind = true) (h : (stepF s).2 = 0) (hb : (mget c.fails c.calls).getD false = true) : createR c s token kind v = ((({ c with calls := c.calls + 1 } : ClSt), (stepF s).1), (0, 12)) := (createR_3 ha hkk (.inl (by rw [callT, callR_2 h hb]; show (12 : Int) ≠ 0; decide))).trans (by first | (rw [callT, ccalls, callR_2 h hb]; done) | (rw [callT, ccalls, callR_2 h hb]; rfl))
theorem createD_5 (ha : attrE v = 0) (hkk : nameV kind = true) (h : (stepF s).2 = 0) (hb : (mget c.fails c.calls).getD false = false) {d : Dn} (ht : mget c.tokens token = some d) (ho : d.op ≠ 1) : createR c s token kind v = ((({ c with calls := c.calls + 1 } : ClSt), (stepF s).1), (0, 15)) := (createR_3 ha hkk (.inl (by rw [callT, callR_3 h hb (by rw [ht]; exact ⟨rfl, ho⟩)]; show (15 : Int) ≠ 0; decide))).trans (by first | (rw [callT, ccalls, callR_3 h hb (by rw [ht]; exact ⟨rfl, ho⟩)]; done) | (rw [callT, ccalls, callR_3 h hb (by rw [ht]; exact ⟨rfl, ho⟩)]; rfl))
theorem createD_6 (ha : attrE v = 0) (hkk : nameV kind = true) (h : (stepF s).2 = 0) (hb : (mget c.fails c.calls).getD false = false) {d : Dn} (ht : mget c.tokens token = some d) (ho : d.op = 1) : createR c s token kind v = ((({ c with calls := c.calls + 1 } : ClSt), (stepF s).1), (d.id, 0)) := (createR_3 ha hkk (.inr (by rw [callT, callR_4 h hb (.inr (by rw [ht]; exact ho)), ht]; rfl))).trans (by first | (rw [callT, ccalls, callR_4 h hb (.inr (by rw [ht]; exact ho)), ht]; done) | (rw [callT, ccalls, callR_4 h hb (.inr (by rw [ht]; exact ho)), ht]; rfl))
theorem createD_7 (ha : attrE v = 0) (hkk : nameV kind = true) (h : (stepF s).2 = 0) (hb : (mget c.fails c.calls).getD false = false) (ht : mget c.tokens token = none) (hq : c.quota ≤ c.things.length) : createR c s token kind v = ((({ c with calls := c.calls + 1 } : ClSt), (stepF s).1), (0, 13)) := (createR_4 ha hkk ⟨by rw [callT, callR_4 h hb (.inl (by rw [ht]; rfl))], by rw [callT, callR_4 h hb (.inl (by rw [ht]; rfl)), ht]; rfl⟩ hq).trans (by first | (rw [ccalls, callR_4 h hb (.inl (by rw [ht]; rfl))]; done) | (rw [ccalls, callR_4 h hb (.inl (by rw [ht]; rfl))]; rfl))
theorem createD_8 (ha : attrE v = 0) (hkk : nameV kind = true) (h : (stepF s).2 = 0) (hb : (mget c.fails c.calls).getD false = false) (ht : mget c.tokens token = none) (hq : (c.things.length : Int) < c.quota) : createR c s token kind v = (({ c with calls := c.calls + 1, next := c.next + 1, things := mput c.things c.next ⟨c.next, kind, v⟩, tokens := mput c.tokens token ⟨1, c.next⟩ }, (stepF s).1), (c.next, 0)) := (createR_5 ha hkk ⟨by rw [callT, callR_4 h hb (.inl (by rw [ht]; rfl))], by rw [callT, callR_4 h hb (.inl (by rw [ht]; rfl)), ht]; rfl⟩ hq).trans (by first | (rw [ccalls, callR_4 h hb (.inl (by rw [ht]; rfl))]; done) | (rw [ccalls, callR_4 h hb (.inl (by rw [ht]; rfl))]; rfl))
theorem updateD_3 (ha : attrE v = 0) (h : (stepF s).2 ≠ 0) : updateR c s token id v = ((c, (stepF s).1), (stepF s).2) := (updateR_2 ha (.inl (by rw [callT, callR_1 h]; exact h))).trans (by first | (rw [callT, ccalls, callR_1 h]; done) | (rw [callT, ccalls, callR_1 h]; rfl))
theorem updateD_4 (ha : attrE v = 0) (h : (stepF s).2 = 0) (hb : (mget c.fails c.calls).getD false = true) : updateR c s token id v = ((({ c with calls := c.calls + 1 } : ClSt), (stepF s).1), 12) := (updateR_2 ha (.inl (by rw [callT, callR_2 h hb]; show (12 : Int) ≠ 0; decide))).trans (by first | (rw [callT, ccalls, callR_2 h hb]; done) | (rw [callT, ccalls, callR_2 h hb]; rfl))
theorem updateD_5 (ha : attrE v = 0) (h : (stepF s).2 = 0) (hb : (mget c.fails c.calls).getD false = false) {d : Dn} (ht : mget c.tokens token = some d) (ho : d.op ≠ 2) : updateR c s token id v = ((({ c with calls := c.calls + 1 } : ClSt), (stepF s).1), 15) := (updateR_2 ha (.inl (by rw [callT, callR_3 h hb (by rw [ht]; exact ⟨rfl, ho⟩)]; show (15 : Int) ≠ 0; decide))).trans (by first | (rw [callT, ccalls, callR_3 h hb (by rw [ht]; exact ⟨rfl, ho⟩)]; done) | (rw [callT, ccalls, callR_3 h hb (by rw [ht]; exact ⟨rfl, ho⟩)]; rfl))
theorem updateD_6 (ha : attrE v = 0) (h : (stepF s).2 = 0) (hb : (mget c.fails c.calls).getD false = false) {d : Dn} (ht : mget c.tokens token = some d) (ho : d.op = 2) : updateR c s token id v = ((({ c with calls := c.calls + 1 } : ClSt), (stepF s).1), 0) := (updateR_2 ha (.inr (by rw [callT, callR_4 h hb (.inr (by rw [ht]; exact ho)), ht]; rfl))).trans (by first | (rw [callT, ccalls, callR_4 h hb (.inr (by rw [ht]; exact ho)), ht]; done) | (rw [callT, ccalls, callR_4 h hb (.inr (by rw [ht]; exact ho)), ht]; rfl))
theorem updateD_7 (ha : attrE v = 0) (h : (stepF s).2 = 0) (hb : (mget c.fails c.calls).getD false = false) (ht : mget c.tokens token = none) (hq : (mget c.things id).isSome = false) : updateR c s token id v = ((({ c with calls := c.calls + 1 } : ClSt), (stepF s).1), 7) := (updateR_3 ha ⟨by rw [callT, callR_4 h hb (.inl (by rw [ht]; rfl))], by rw [callT, callR_4 h hb (.inl (by rw [ht]; rfl)), ht]; rfl⟩ hq).trans (by first | (rw [ccalls, callR_4 h hb (.inl (by rw [ht]; rfl))]; done) | (rw [ccalls, callR_4 h hb (.inl (by rw [ht]; rfl))]; rfl))
theorem updateD_8 (ha : attrE v = 0) (h : (stepF s).2 = 0) (hb : (mget c.fails c.calls).getD false = false) (ht : mget c.tokens token = none) (hq : (mget c.things id).isSome = true) : updateR c s token id v = (({ c with calls := c.calls + 1, things := mput c.things id ⟨((mget c.things id).getD zT).id, ((mget c.things id).getD zT).kind, v⟩, tokens := mput c.tokens token ⟨2, id⟩ }, (stepF s).1), 0) := (updateR_4 ha ⟨by rw [callT, callR_4 h hb (.inl (by rw [ht]; rfl))], by rw [callT, callR_4 h hb (.inl (by rw [ht]; rfl)), ht]; rfl⟩ hq).trans (by first | (rw [ccalls, callR_4 h hb (.inl (by rw [ht]; rfl))]; done) | (rw [ccalls, callR_4 h hb (.inl (by rw [ht]; rfl))]; rfl))
theorem deleteD_3  (h : (stepF s).2 ≠ 0) : deleteR c s token id = ((c, (stepF s).1), (stepF s).2) := (deleteR_2 (.inl (by rw [callT, callR_1 h]; exact h))).trans (by first | (rw [callT, ccalls, callR_1 h]; done) | (rw [callT, ccalls, callR_1 h]; rfl))
theorem deleteD_4  (h : (stepF s).2 = 0) (hb : (mget c.fails c.calls).getD false = true) : deleteR c s token id = ((({ c with calls := c.calls + 1 } : ClSt), (stepF s).1), 12) := (deleteR_2 (.inl (by rw [callT, callR_2 h hb]; show (12 : Int) ≠ 0; decide))).trans (by first | (rw [callT, ccalls, callR_2 h hb]; done) | (rw [callT, ccalls, callR_2 h hb]; rfl))
theorem deleteD_5  (h : (stepF s).2 = 0) (hb : (mget c.fails c.calls).getD false = false) {d : Dn} (ht : mget c.tokens token = some d) (ho : d.op ≠ 3) : deleteR c s token id = ((({ c with calls := c.calls + 1 } : ClSt), (stepF s).1), 15) := (deleteR_2 (.inl (by rw [callT, callR_3 h hb (by rw [ht]; exact ⟨rfl, ho⟩)]; show (15 : Int) ≠ 0; decide))).trans (by first | (rw [callT, ccalls, callR_3 h hb (by rw [ht]; exact ⟨rfl, ho⟩)]; done) | (rw [callT, ccalls, callR_3 h hb (by rw [ht]; exact ⟨rfl, ho⟩)]; rfl))
theorem deleteD_6  (h : (stepF s).2 = 0) (hb : (mget c.fails c.calls).getD false = false) {d : Dn} (ht : mget c.tokens token = some d) (ho : d.op = 3) : deleteR c s token id = ((({ c with calls := c.calls + 1 } : ClSt), (stepF s).1), 0) := (deleteR_2 (.inr (by rw [callT, callR_4 h hb (.inr (by rw [ht]; exact ho)), ht]; rfl))).trans (by first | (rw [callT, ccalls, callR_4 h hb (.inr (by rw [ht]; exact ho)), ht]; done) | (rw [callT, ccalls, callR_4 h hb (.inr (by rw [ht]; exact ho)), ht]; rfl))
theorem deleteD_7  (h : (stepF s).2 = 0) (hb : (mget c.fails c.calls).getD false = false) (ht : mget c.tokens token = none) (hq : (mget c.things id).isSome = false) : deleteR c s token id = ((({ c with calls := c.calls + 1 } : ClSt), (stepF s).1), 7) := (deleteR_3 ⟨by rw [callT, callR_4 h hb (.inl (by rw [ht]; rfl))], by rw [callT, callR_4 h hb (.inl (by rw [ht]; rfl)), ht]; rfl⟩ hq).trans (by first | (rw [ccalls, callR_4 h hb (.inl (by rw [ht]; rfl))]; done) | (rw [ccalls, callR_4 h hb (.inl (by rw [ht]; rfl))]; rfl))
theorem deleteD_8  (h : (stepF s).2 = 0) (hb : (mget c.fails c.calls).getD false = false) (ht : mget c.tokens token = none) (hq : (mget c.things id).isSome = true) : deleteR c s token id = (({ c with calls := c.calls + 1, things := mdel c.things id, tokens := mput c.tokens token ⟨3, id⟩ }, (stepF s).1), 0) := (deleteR_4 ⟨by rw [callT, callR_4 h hb (.inl (by rw [ht]; rfl))], by rw [callT, callR_4 h hb (.inl (by rw [ht]; rfl)), ht]; rfl⟩ hq).trans (by first | (rw [ccalls, callR_4 h hb (.inl (by rw [ht]; rfl))]; done) | (rw [ccalls, callR_4 h hb (.inl (by rw [ht]; rfl))]; rfl))
end
theorem u_QStepC (a : Nat) {s : DSt} {q : RSt} {N : Nat} (h : Two s q N) (hN : N ≤ 200) (m : AMem) (K : AV → AMem → Prop) (hK : K (iT (stepF s).2) (mW m [(a, rObj (rT q (stepF s).1))])) : ACalls Try.prog 36 [pT a] (mW m [(a, rObj (rT q s))]) K :=
  u_QStepZ a s h.fu0 h.fu1 h.st0 (by have := h.st1; omega) m K hK
theorem toksR_len (l : List (Str × Dn)) : (toksR l).length = l.length := by unfold toksR; rw [List.length_map]
theorem gI_toks {l : List (Str × Dn)} {i : Int} (h0 : 0 ≤ i) (hi : i < (toksR l).length) : gI (toksR l) i = ⟨(gI l i).1, (gI l i).2.op, (gI l i).2.id⟩ := by
  rw [toksR_len] at hi
  unfold gI toksR
  have h : i.toNat < l.length := by omega
  simp [List.getD_eq_getElem?_getD, h]
theorem mput_noneG {κ ν : Type} [DecidableEq κ] {l : List (κ × ν)} {k : κ} (h : mget l k = none) (v : ν) : mput l k v = l ++ [(k, v)] := by
  cases hm : midx l k with
  | none => exact (midx_none hm).2.2 v
  | some j => obtain ⟨b, _, h2, _⟩ := midx_some hm; rw [h] at h2; cases h2
theorem toksR_put {l : List (Str × Dn)} {k : Str} (h : mget l k = none) (o i : Int) : toksR (mput l k ⟨o, i⟩) = toksR l ++ [⟨k, o, i⟩] := by
  rw [mput_noneG h]; unfold toksR; rw [List.map_append]; rfl
theorem vals_len (c : ClSt) : (vals c).length = c.things.length := by unfold vals; rw [List.length_map]
theorem tok_hit {c : ClSt} {token : Str} {i : Int} (hI : 0 ≤ i ∧ i ≤ (toksR c.tokens).length ∧ mget c.tokens token = mget (c.tokens.drop i.toNat) token) (h : i < (toksR c.tokens).length) (he : (gI (toksR c.tokens) i).tok = token) : mget c.tokens token = some (gI c.tokens i).2 := by
  rw [gI_toks hI.1 h] at he
  rw [hI.2.2, mget_drop hI.1 (by rw [toksR_len] at h; exact h), if_pos he]
theorem tok_miss {c : ClSt} {token : Str} {i : Int} (hI : 0 ≤ i ∧ i ≤ (toksR c.tokens).length ∧ mget c.tokens token = mget (c.tokens.drop i.toNat) token) (h : i < (toksR c.tokens).length) (he : (gI (toksR c.tokens) i).tok ≠ token) : mget c.tokens token = mget (c.tokens.drop (i + 1).toNat) token := by
  rw [gI_toks hI.1 h] at he
  rw [hI.2.2, mget_drop hI.1 (by rw [toksR_len] at h; exact h), if_neg he]
theorem tok_end {c : ClSt} {token : Str} {i : Int} (hI : 0 ≤ i ∧ i ≤ (toksR c.tokens).length ∧ mget c.tokens token = mget (c.tokens.drop i.toNat) token) (h : (toksR c.tokens).length ≤ i) : mget c.tokens token = none := by
  rw [hI.2.2, List.drop_eq_nil_of_le (by rw [toksR_len] at h; omega)]; rfl
theorem nextKey {c : ClSt} (h : ∀ p ∈ c.things, p.1 < c.next) : mget c.things c.next = none := mget_noneG.2 fun hm => by
  obtain ⟨p, hp, e⟩ := List.mem_map.1 hm
  have := h p hp
  omega
theorem vals_put {c : ClSt} (h : ∀ p ∈ c.things, p.1 < c.next) (t : Thg) : (mput c.things c.next t).map Prod.snd = vals c ++ [t] := by
  rw [mput_noneG (nextKey h), List.map_append]; rfl
theorem attrE_nn (v : Val) : 0 ≤ attrE v := by
  unfold attrE; split
  · rw [chk_R]; split
    · decide
    · split <;> decide
  · decide
theorem rcObj_put {e : Nat} {av : AV} {c : ClSt} {F : List Int} {token : Str} {o i : Int} (h : mget c.tokens token = none) (n ca : Int) (t : List (Int × Thg)) : rcObj e av ({ c with calls := ca, next := n, things := t, tokens := mput c.tokens token ⟨o, i⟩ } : ClSt) F = .cells [pT e, av, sT ((toksR c.tokens ++ [(⟨token, o, i⟩ : Dn3)]).map dn3AV), iT n, iT c.quota, iT ca, sT (F.map intAV)] := by
  simp only [rcObj, toksR_put h]
def vObj (v : Val) : AObj := .cells [iT v.kind, iT v.n, .str v.s, sF (v.l.map valIn), sF (v.f.map fldIn)]
set_option maxHeartbeats 8000000 in
theorem u_Do1 (r e : Nat) (q : RSt) (s : DSt) (c : ClSt) (F : List Int) (token kind : Str) (id : Int) (v : Val) (N : Nat) (H : List (Nat × AObj)) (av : AV) (hN : [r, e].Nodup) (hcl : ∀ p ∈ c.things, p.1 < c.next) (hT : Two s q N) (hNN : N ≤ 200) (hB : depV v ≤ 1000000000000) (hfr : (mget c.fails c.calls).getD false = true ↔ c.calls ∈ F) (hca : 0 ≤ c.calls) (hca2 : c.calls ≤ 1000000) (hnx : 0 ≤ c.next) (hnx2 : c.next ≤ 1000000) (htl : c.things.length ≤ 1000000) (hol : c.tokens.length ≤ 1000000) (hFl : F.length ≤ 1000000) (m : AMem) (hTH : HidR thgAV m [r, e] H av (vals c)) (K : AV → AMem → Prop) (hK : ∀ r0, createR c s token kind v = r0 → ∀ H' av', HidR thgAV m [r, e] H' av' (vals r0.1.1) → K (.tuple [iT r0.2.1, iT r0.2.2]) ((m.wth H').wth [(r, rcObj e av' r0.1.1 F), (e, rObj (rT q r0.1.2))])) : ACalls Try.prog 49 [pT r, iT 1, .str token, .str kind, iT id, valTop v] (mW (mW m H) [(r, rcObj e av c F), (e, zR s)]) K := by
 have hvl := vals_len c
 have hae := attrE_nn v
 have htkl : (toksR c.tokens).length ≤ 1000000 := by rw [toksR_len]; exact hol
 refine acalls_enter Try.func49 rfl (by decide) (nB rfl) ?_
 show AWP _ _ _ _ [(0, pT r), (1, iT 1), (2, .str token), (3, .str kind), (4, iT id), (5, valTop v)] (mW (mW m H) [(r, rcObj e av c F), (e, zR s)])
 refine rS [] [0, 1, 2, 3, 4, 11] (by decide) ?_
 intro K1 hK1
 refine ar_box rfl (m := (mW m H)) (L := [(r, rcObj e av c F), (e, zR s)]) (v := valTop v) (by rfl) rfl ?_
 intro b1 hb1
 have hFb1 : (mW m H) b1 = none := wth_none hb1
 have hNb1 : ([b1, r, e] : List Nat).Nodup := wth_nodup hb1 hN
 refine ⟨tv, tv, ?_⟩
 show K1 [(0, pT r), (1, iT 1), (2, .str token), (3, .str kind), (4, iT id), (11, pT b1)] (mW (mW m H) [(b1, vObj v), (r, rcObj e av c F), (e, zR s)])
 refine hK1 _ _ ?_; clear hK1 K1
 refine sK ?_; intro K2 hK2
 refine rS [] [0, 1, 2, 3, 4, 11, 22] (by decide) ?_
 intro K1 hK1
 refine ⟨tv, tv, ?_⟩
 show K1 [(0, pT r), (1, iT 1), (2, .str token), (3, .str kind), (4, iT id), (11, pT b1), (22, .bool true)] _
 refine hK1 _ _ ?_; clear hK1 K1
 refine cD rfl rfl (fun hcz => ?_) (fun hcz => ?_)
 rotate_left; · cases hcz
 clear hcz
 refine rS [] [0, 1, 2, 3, 4, 11, 14] (by decide) ?_
 intro K1 hK1
 refine aL rfl (v := .agg [iT v.kind, iT v.n, .str v.s, sF (v.l.map valIn), sF (v.f.map fldIn)]) rfl (wG 0 hNb1 rfl) rfl (apartOk_agg rfl rfl (nB rfl)) rfl ?_
 refine u_attrsFault v hB _ _ ?_
 refine ⟨tv, ?_⟩
 show K1 [(0, pT r), (1, iT 1), (2, .str token), (3, .str kind), (4, iT id), (11, pT b1), (14, iT (attrE v))] _
 refine hK1 _ _ ?_; clear hK1 K1
 refine rS [] [0, 1, 2, 3, 4, 11, 14, 26] (by decide) ?_
 intro K1 hK1
 refine ⟨tv, tv, ?_⟩
 show K1 [(0, pT r), (1, iT 1), (2, .str token), (3, .str kind), (4, iT id), (11, pT b1), (14, iT (attrE v)), (26, .bool (decide (0 < attrE v)))] _
 refine hK1 _ _ ?_; clear hK1 K1
 refine cD rfl rfl (fun h1 => ?_) (fun h1 => ?_)
 ·
  replace h1 : 0 < attrE v := (of_decide_eq_true h1)
  refine rS [] [12, 13] (by decide) ?_
  intro K1 hK1
  refine ⟨tv, tv, tv, ?_⟩
  show K1 [(12, iT 0), (13, iT (attrE v))] (mW (mW m H) [(b1, vObj v), (r, rcObj e av c F), (e, zR s)])
  refine hK1 _ _ ?_; clear hK1 K1
  refine awp_ret ?_
  refine ⟨tv, tv, (mW (mW m H) [(r, rcObj e av c F), (e, zR s)]), (wth_keep (m := (mW m H)) (L := [(b1, vObj v), (r, rcObj e av c F), (e, zR s)]) (L1 := [(r, rcObj e av c F), (e, zR s)]) (L2 := [(b1, vObj v)]) hNb1 (pick_perm [1, 1] _) (by simp only [List.map_cons, List.map_nil, List.forall_mem_cons]; exact ⟨hFb1, nfA⟩)), ?_⟩
  show K (.tuple [iT 0, iT (attrE v)]) (AMem.wth (AMem.wth m H) [(r, rcObj e av c F), (e, zR s)])
 
  exact hK _ (createR_1 (by omega)) H av hTH
 replace h1 : attrE v ≤ 0 := (Int.not_lt.1 (of_decide_eq_false h1))
 refine awp_skip ?_
 refine hK2 _ _ ?_; clear hK2
 refine rS [] [0, 1, 2, 3, 4, 11, 15] (by decide) ?_
 intro K1 hK1
 refine ⟨tv, ?_⟩
 refine u_NameMay kind _ _ ?_
 refine ⟨tv, ?_⟩
 show K1 [(0, pT r), (1, iT 1), (2, .str token), (3, .str kind), (4, iT id), (11, pT b1), (15, .bool (nameV kind))] (mW (mW m H) [(b1, vObj v), (r, rcObj e av c F), (e, zR s)])
 refine hK1 _ _ ?_; clear hK1 K1
 refine sK ?_; intro K3 hK3
 refine rS [] [0, 1, 2, 3, 4, 11, 35] (by decide) ?_
 intro K1 hK1
 suffices key : K1 [(0, pT r), (1, iT 1), (2, .str token), (3, .str kind), (4, iT id), (11, pT b1), (35, .bool (!(nameV kind)))] (mW (mW m H) [(b1, vObj v), (r, rcObj e av c F), (e, zR s)]) by
  refine ⟨tv, tv, tv, tv, tv, ?_⟩
  exact key
 refine hK1 _ _ ?_; clear hK1 K1
 refine cD rfl rfl (fun h2 => ?_) (fun h2 => ?_)
 ·
  replace h2 : nameV kind = false := (bnT h2)
  refine rS [] [12, 13] (by decide) ?_
  intro K1 hK1
  refine ⟨tv, tv, ?_⟩
  show K1 [(12, iT 0), (13, iT 3)] (mW (mW m H) [(b1, vObj v), (r, rcObj e av c F), (e, zR s)])
  refine hK1 _ _ ?_; clear hK1 K1
  refine awp_ret ?_
  refine ⟨tv, tv, (mW (mW m H) [(r, rcObj e av c F), (e, zR s)]), (wth_keep (m := (mW m H)) (L := [(b1, vObj v), (r, rcObj e av c F), (e, zR s)]) (L1 := [(r, rcObj e av c F), (e, zR s)]) (L2 := [(b1, vObj v)]) hNb1 (pick_perm [1, 1] _) (by simp only [List.map_cons, List.map_nil, List.forall_mem_cons]; exact ⟨hFb1, nfA⟩)), ?_⟩
  show K (.tuple [iT 0, iT 3]) (AMem.wth (AMem.wth m H) [(r, rcObj e av c F), (e, zR s)])
 
  exact hK _ (createR_2 (by omega) (by assumption)) H av hTH
 replace h2 : nameV kind = true := (bnF h2)
 refine awp_skip ?_
 refine hK3 _ _ ?_; clear hK3
 refine sK ?_; intro K4 hK4
 refine rS [] [0, 1, 2, 3, 4, 11, 16] (by decide) ?_
 intro K1 hK1
 refine ⟨tv, tv, ⟨rfl, by decide⟩, ?_⟩
 refine aL rfl (v := pT e) rfl (wG 1 hNb1 rfl) rfl (aO rfl rfl (nB rfl)) rfl ?_
 refine ar_mem (wS hNb1 (pick_perm [2] _)) ?_
 refine u_QStepC e hT hNN _ _ ?_
 refine ar_mem (wS (m := (mW m H)) (L := [(b1, vObj v), (r, rcObj e av c F), (e, zR ((stepF s).1))]) hNb1 (pick_perm [2] _)).symm ?_
 refine ⟨tv, ?_⟩
 show K1 [(0, pT r), (1, iT 1), (2, .str token), (3, .str kind), (4, iT id), (11, pT b1), (16, iT ((stepF s).2))] (mW (mW m H) [(b1, vObj v), (r, rcObj e av c F), (e, zR ((stepF s).1))])
 refine hK1 _ _ ?_; clear hK1 K1
 refine rS [] [0, 1, 2, 3, 4, 11, 16, 42] (by decide) ?_
 intro K1 hK1
 refine ⟨tv, tv, ?_⟩
 show K1 [(0, pT r), (1, iT 1), (2, .str token), (3, .str kind), (4, iT id), (11, pT b1), (16, iT ((stepF s).2)), (42, .bool (decide (0 < (stepF s).2)))] _
 refine hK1 _ _ ?_; clear hK1 K1
 refine cD rfl rfl (fun h3 => ?_) (fun h3 => ?_)
 ·
  replace h3 : 0 < (stepF s).2 := (of_decide_eq_true h3)
  refine rS [] [12, 13] (by decide) ?_
  intro K1 hK1
  refine ⟨tv, tv, tv, ?_⟩
  show K1 [(12, iT 0), (13, iT ((stepF s).2))] (mW (mW m H) [(b1, vObj v), (r, rcObj e av c F), (e, zR ((stepF s).1))])
  refine hK1 _ _ ?_; clear hK1 K1
  refine awp_ret ?_
  refine ⟨tv, tv, (mW (mW m H) [(r, rcObj e av c F), (e, zR ((stepF s).1))]), (wth_keep (m := (mW m H)) (L := [(b1, vObj v), (r, rcObj e av c F), (e, zR ((stepF s).1))]) (L1 := [(r, rcObj e av c F), (e, zR ((stepF s).1))]) (L2 := [(b1, vObj v)]) hNb1 (pick_perm [1, 1] _) (by simp only [List.map_cons, List.map_nil, List.forall_mem_cons]; exact ⟨hFb1, nfA⟩)), ?_⟩
  show K (.tuple [iT 0, iT ((stepF s).2)]) (AMem.wth (AMem.wth m H) [(r, rcObj e av c F), (e, zR ((stepF s).1))])
 
  exact hK _ (createD_3 (by omega) (by assumption) (by omega)) H av hTH
 replace h3 : (stepF s).2 ≤ 0 := (Int.not_lt.1 (of_decide_eq_false h3))
 refine awp_skip ?_
 refine hK4 _ _ ?_; clear hK4
 have hs0 : (stepF s).2 = 0 := by have := (stepF_keep s).2.2.2; omega
 refine rS [] [0, 1, 2, 3, 4, 11, 17] (by decide) ?_
 intro K1 hK1
 refine ⟨tv, tv, ⟨rfl, by decide⟩, ?_⟩
 refine aL rfl (v := iT c.calls) rfl (wG 1 hNb1 rfl) rfl (aO rfl rfl (nB rfl)) rfl ?_
 refine ⟨tv, ?_⟩
 show K1 [(0, pT r), (1, iT 1), (2, .str token), (3, .str kind), (4, iT id), (11, pT b1), (17, iT c.calls)] (mW (mW m H) [(b1, vObj v), (r, rcObj e av c F), (e, zR ((stepF s).1))])
 refine hK1 _ _ ?_; clear hK1 K1
 refine rS [] [0, 1, 2, 3, 4, 11, 17] (by decide) ?_
 intro K1 hK1
 refine ⟨tv, tv, ⟨rfl, by decide⟩, ?_⟩
 refine aL rfl (v := iT c.calls) rfl (wG 1 hNb1 rfl) rfl (aO rfl rfl (nB rfl)) rfl ?_
 refine ar_add rfl (a := c.calls) (b := 1) rfl rfl (by omega) (by omega) ?_
 refine ⟨tv, ⟨rfl, by decide⟩, ?_⟩
 refine aS rfl 1 (v := iT (c.calls + 1)) (l' := [pT e, av, sT ((toksR c.tokens).map dn3AV), iT c.next, iT c.quota, iT (c.calls + 1), sT (F.map intAV)]) rfl rfl hNb1 rfl rfl rfl rfl rfl (nB rfl) rfl ?_
 show K1 [(0, pT r), (1, iT 1), (2, .str token), (3, .str kind), (4, iT id), (11, pT b1), (17, iT c.calls)] (mW (mW m H) [(b1, vObj v), (r, .cells [pT e, av, sT ((toksR c.tokens).map dn3AV), iT c.next, iT c.quota, iT (c.calls + 1), sT (F.map intAV)]), (e, zR ((stepF s).1))])
 refine hK1 _ _ ?_; clear hK1 K1
 refine sK ?_; intro K5 hK5
 refine rS [] [0, 1, 2, 3, 4, 11, 17, 18] (by decide) ?_
 intro K1 hK1
 refine ⟨tv, ?_⟩
 show K1 [(0, pT r), (1, iT 1), (2, .str token), (3, .str kind), (4, iT id), (11, pT b1), (17, iT c.calls), (18, iT 0)] _
 refine hK1 _ _ ?_; clear hK1 K1
 refine awp_block ?_
 refine awp_keep [0, 1, 2, 3, 4, 11, 17, 18] (by decide) ?_
 refine awp_loop_st (σ := Int) (fun i => [(0, pT r), (1, iT 1), (2, .str token), (3, .str kind), (4, iT id), (11, pT b1), (17, iT c.calls), (18, iT i)]) (fun _ => (mW (mW m H) [(b1, vObj v), (r, .cells [pT e, av, sT ((toksR c.tokens).map dn3AV), iT c.next, iT c.quota, iT (c.calls + 1), sT (F.map intAV)]), (e, zR ((stepF s).1))])) (fun i => 0 ≤ i ∧ i ≤ F.length ∧ ∀ x ∈ F.take i.toNat, x ≠ c.calls) (fun i => F.length - i.toNat) (0) rfl rfl ?_ ?_
 ·
  show 0 ≤ ((0 : Int)) ∧ ((0 : Int)) ≤ F.length ∧ ∀ x ∈ F.take ((0 : Int)).toNat, x ≠ c.calls
  exact ⟨by omega, by omega, fun x hx => by simp at hx⟩
 rintro i hI
 replace hI : 0 ≤ i ∧ i ≤ F.length ∧ ∀ x ∈ F.take i.toNat, x ≠ c.calls := hI
 show AWP _ _ _ _ [(0, pT r), (1, iT 1), (2, .str token), (3, .str kind), (4, iT id), (11, pT b1), (17, iT c.calls), (18, iT i)] (mW (mW m H) [(b1, vObj v), (r, .cells [pT e, av, sT ((toksR c.tokens).map dn3AV), iT c.next, iT c.quota, iT (c.calls + 1), sT (F.map intAV)]), (e, zR ((stepF s).1))])
 refine sK ?_; intro K6 hK6
 refine rS [] [0, 1, 2, 3, 4, 11, 17, 18, 61] (by decide) ?_
 intro K1 hK1
 refine ⟨tv, tv, tv, ⟨rfl, by decide⟩, ?_⟩
 refine aL rfl (v := sF (F.map intAV)) rfl (wG 1 hNb1 rfl) rfl (aO rfl rfl (nB rfl)) rfl ?_
 refine ar_len rfl intAV F rfl rfl rfl ?_
 refine ⟨tv, ?_⟩
 show K1 [(0, pT r), (1, iT 1), (2, .str token), (3, .str kind), (4, iT id), (11, pT b1), (17, iT c.calls), (18, iT i), (61, .bool (decide (i < (F.length : Int))))] _
 refine hK1 _ _ ?_; clear hK1 K1
 refine cD rfl rfl (fun h4 => ?_) (fun h4 => ?_)
 ·
  replace h4 : i < (F.length : Int) := (of_decide_eq_true h4)
  refine awp_skip ?_
  refine hK6 _ _ ?_; clear hK6
  refine sK ?_; intro K7 hK7
  refine awp_block ?_
  refine rS [] [0, 1, 2, 3, 4, 11, 17, 18, 72] (by decide) ?_
  intro K1 hK1
  refine ⟨tv, tv, ⟨rfl, by decide⟩, ?_⟩
  refine aL rfl (v := sF (F.map intAV)) rfl (wG 1 hNb1 rfl) rfl (aO rfl rfl (nB rfl)) rfl ?_
  refine ⟨tv, ?_⟩
  refine ar_index rfl intAV F i rfl rfl rfl rfl rfl (by decide) (fun _ => rfl) (by omega) (by omega) ?_
  refine ⟨(aO rfl rfl (nB rfl)), tv, tv, ?_⟩
  show K1 [(0, pT r), (1, iT 1), (2, .str token), (3, .str kind), (4, iT id), (11, pT b1), (17, iT c.calls), (18, iT i), (72, .bool ((gI F i) == c.calls))] (mW (mW m H) [(b1, vObj v), (r, .cells [pT e, av, sT ((toksR c.tokens).map dn3AV), iT c.next, iT c.quota, iT (c.calls + 1), sT (F.map intAV)]), (e, zR ((stepF s).1))])
  refine hK1 _ _ ?_; clear hK1 K1
  refine cD rfl rfl (fun h5 => ?_) (fun h5 => ?_)
  ·
   replace h5 : gI F i = c.calls := (eq_of_beq h5)
   refine rS [] [12, 13] (by decide) ?_
   intro K1 hK1
   refine ⟨tv, tv, ?_⟩
   show K1 [(12, iT 0), (13, iT 12)] (mW (mW m H) [(b1, vObj v), (r, .cells [pT e, av, sT ((toksR c.tokens).map dn3AV), iT c.next, iT c.quota, iT (c.calls + 1), sT (F.map intAV)]), (e, zR ((stepF s).1))])
   refine hK1 _ _ ?_; clear hK1 K1
   refine awp_ret ?_
   refine ⟨tv, tv, (mW (mW m H) [(r, .cells [pT e, av, sT ((toksR c.tokens).map dn3AV), iT c.next, iT c.quota, iT (c.calls + 1), sT (F.map intAV)]), (e, zR ((stepF s).1))]), (wth_keep (m := (mW m H)) (L := [(b1, vObj v), (r, .cells [pT e, av, sT ((toksR c.tokens).map dn3AV), iT c.next, iT c.quota, iT (c.calls + 1), sT (F.map intAV)]), (e, zR ((stepF s).1))]) (L1 := [(r, .cells [pT e, av, sT ((toksR c.tokens).map dn3AV), iT c.next, iT c.quota, iT (c.calls + 1), sT (F.map intAV)]), (e, zR ((stepF s).1))]) (L2 := [(b1, vObj v)]) hNb1 (pick_perm [1, 1] _) (by simp only [List.map_cons, List.map_nil, List.forall_mem_cons]; exact ⟨hFb1, nfA⟩)), ?_⟩
   show K (.tuple [iT 0, iT 12]) (AMem.wth (AMem.wth m H) [(r, .cells [pT e, av, sT ((toksR c.tokens).map dn3AV), iT c.next, iT c.quota, iT (c.calls + 1), sT (F.map intAV)]), (e, zR ((stepF s).1))])
  
   have z3 := gI_mem (l := F) hI.1 (by assumption)
   have z4 : gI F i = c.calls := by assumption
   rw [z4] at z3
   exact hK _ (createD_4 (by omega) (by assumption) hs0 (hfr.2 z3)) H av hTH
  replace h5 : gI F i ≠ c.calls := (ne_of_beq_false h5)
  refine awp_skip ?_
  refine hK7 _ _ ?_; clear hK7
  refine awp_reg2 [] [0, 1, 2, 3, 4, 11, 17, 18] (by decide) ?_
  intro K1 hK1
  refine ⟨tv, ?_⟩
  refine ar_add rfl (a := i) (b := 1) rfl rfl (by omega) (by omega) ?_
  refine ⟨tv, ?_⟩
  show K1 [(0, pT r), (1, iT 1), (2, .str token), (3, .str kind), (4, iT id), (11, pT b1), (17, iT c.calls), (18, iT (i + 1))] (mW (mW m H) [(b1, vObj v), (r, .cells [pT e, av, sT ((toksR c.tokens).map dn3AV), iT c.next, iT c.quota, iT (c.calls + 1), sT (F.map intAV)]), (e, zR ((stepF s).1))])
  refine hK1 _ _ ?_; clear hK1 K1
  refine ⟨(i + 1), rfl, rfl, ?_, ?_⟩
  ·
   show 0 ≤ ((i + 1 : Int)) ∧ ((i + 1 : Int)) ≤ F.length ∧ ∀ x ∈ F.take ((i + 1 : Int)).toNat, x ≠ c.calls
   refine ⟨by omega, by omega, fun x hx => ?_⟩
   rw [take_succ_gI hI.1 (by assumption), List.mem_append] at hx
   rcases hx with hx | hx
   ·
    exact hI.2.2 x hx
   ·
    simp at hx; subst hx; assumption
  ·
   show F.length - ((i + 1 : Int)).toNat < F.length - i.toNat
   omega
 replace h4 : (F.length : Int) ≤ i := (Int.not_lt.1 (of_decide_eq_false h4))
 refine awp_exit ?_
 refine hK5 _ _ ?_; clear hK5
 refine sK ?_; intro K8 hK8
 have hb0 : (mget c.fails c.calls).getD false = false := by
  rw [Bool.eq_false_iff]; intro z
  have z2 := hfr.1 z
  rw [take_full (by assumption)] at hI
  exact hI.2.2 _ z2 rfl
 refine rS [] [0, 1, 2, 3, 4, 11, 19] (by decide) ?_
 intro K1 hK1
 refine ⟨tv, ?_⟩
 show K1 [(0, pT r), (1, iT 1), (2, .str token), (3, .str kind), (4, iT id), (11, pT b1), (19, iT 0)] (mW (mW m H) [(b1, vObj v), (r, .cells [pT e, av, sT ((toksR c.tokens).map dn3AV), iT c.next, iT c.quota, iT (c.calls + 1), sT (F.map intAV)]), (e, zR ((stepF s).1))])
 refine hK1 _ _ ?_; clear hK1 K1
 refine awp_block ?_
 refine awp_keep [0, 1, 2, 3, 4, 11, 19] (by decide) ?_
 refine awp_loop_st (σ := Int) (fun i2 => [(0, pT r), (1, iT 1), (2, .str token), (3, .str kind), (4, iT id), (11, pT b1), (19, iT i2)]) (fun _ => (mW (mW m H) [(b1, vObj v), (r, .cells [pT e, av, sT ((toksR c.tokens).map dn3AV), iT c.next, iT c.quota, iT (c.calls + 1), sT (F.map intAV)]), (e, zR ((stepF s).1))])) (fun i2 => 0 ≤ i2 ∧ i2 ≤ (toksR c.tokens).length ∧ mget c.tokens token = mget (c.tokens.drop i2.toNat) token) (fun i2 => (toksR c.tokens).length - i2.toNat) (0) rfl rfl ?_ ?_
 ·
  show 0 ≤ ((0 : Int)) ∧ ((0 : Int)) ≤ (toksR c.tokens).length ∧ mget c.tokens token = mget (c.tokens.drop ((0 : Int)).toNat) token
  exact ⟨by omega, by omega, rfl⟩
 rintro i2 hI2
 replace hI2 : 0 ≤ i2 ∧ i2 ≤ (toksR c.tokens).length ∧ mget c.tokens token = mget (c.tokens.drop i2.toNat) token := hI2
 show AWP _ _ _ _ [(0, pT r), (1, iT 1), (2, .str token), (3, .str kind), (4, iT id), (11, pT b1), (19, iT i2)] (mW (mW m H) [(b1, vObj v), (r, .cells [pT e, av, sT ((toksR c.tokens).map dn3AV), iT c.next, iT c.quota, iT (c.calls + 1), sT (F.map intAV)]), (e, zR ((stepF s).1))])
 refine sK ?_; intro K9 hK9
 refine rS [] [0, 1, 2, 3, 4, 11, 19, 79] (by decide) ?_
 intro K1 hK1
 refine ⟨tv, tv, tv, ⟨rfl, by decide⟩, ?_⟩
 refine aL rfl (v := sF ((toksR c.tokens).map dn3AV)) rfl (wG 1 hNb1 rfl) rfl (aO rfl rfl (nB rfl)) rfl ?_
 refine ar_len rfl dn3AV (toksR c.tokens) rfl rfl rfl ?_
 refine ⟨tv, ?_⟩
 show K1 [(0, pT r), (1, iT 1), (2, .str token), (3, .str kind), (4, iT id), (11, pT b1), (19, iT i2), (79, .bool (decide (i2 < ((toksR c.tokens).length : Int))))] _
 refine hK1 _ _ ?_; clear hK1 K1
 refine cD rfl rfl (fun h6 => ?_) (fun h6 => ?_)
 ·
  replace h6 : i2 < ((toksR c.tokens).length : Int) := (of_decide_eq_true h6)
  refine awp_skip ?_
  refine hK9 _ _ ?_; clear hK9
  refine sK ?_; intro K10 hK10
  refine awp_block ?_
  refine sK ?_; intro K11 hK11
  refine rS [] [0, 1, 2, 3, 4, 11, 19, 91] (by decide) ?_
  intro K1 hK1
  refine ⟨tv, tv, ⟨rfl, by decide⟩, ?_⟩
  refine aL rfl (v := sF ((toksR c.tokens).map dn3AV)) rfl (wG 1 hNb1 rfl) rfl (aO rfl rfl (nB rfl)) rfl ?_
  refine ⟨tv, ?_⟩
  refine ar_index rfl dn3AV (toksR c.tokens) i2 rfl rfl rfl rfl rfl (by decide) (fun _ => rfl) (by omega) (by omega) ?_
  refine ⟨⟨rfl, by decide, (nB rfl)⟩, (aO rfl rfl (nB rfl)), tv, tv, ?_⟩
  show K1 [(0, pT r), (1, iT 1), (2, .str token), (3, .str kind), (4, iT id), (11, pT b1), (19, iT i2), (91, .bool (!(((gI (toksR c.tokens) i2).tok) == token)))] (mW (mW m H) [(b1, vObj v), (r, .cells [pT e, av, sT ((toksR c.tokens).map dn3AV), iT c.next, iT c.quota, iT (c.calls + 1), sT (F.map intAV)]), (e, zR ((stepF s).1))])
  refine hK1 _ _ ?_; clear hK1 K1
  refine cD rfl rfl (fun h7 => ?_) (fun h7 => ?_)
  ·
   replace h7 : (gI (toksR c.tokens) i2).tok ≠ token := (ne_of_beq_false (bnT h7))
   refine awp_exit ?_
   refine hK10 _ _ ?_; clear hK10
   refine awp_reg2 [] [0, 1, 2, 3, 4, 11, 19] (by decide) ?_
   intro K1 hK1
   refine ⟨tv, ?_⟩
   refine ar_add rfl (a := i2) (b := 1) rfl rfl (by omega) (by omega) ?_
   refine ⟨tv, ?_⟩
   show K1 [(0, pT r), (1, iT 1), (2, .str token), (3, .str kind), (4, iT id), (11, pT b1), (19, iT (i2 + 1))] (mW (mW m H) [(b1, vObj v), (r, .cells [pT e, av, sT ((toksR c.tokens).map dn3AV), iT c.next, iT c.quota, iT (c.calls + 1), sT (F.map intAV)]), (e, zR ((stepF s).1))])
   refine hK1 _ _ ?_; clear hK1 K1
   refine ⟨(i2 + 1), rfl, rfl, ?_, ?_⟩
   ·
    show 0 ≤ ((i2 + 1 : Int)) ∧ ((i2 + 1 : Int)) ≤ (toksR c.tokens).length ∧ mget c.tokens token = mget (c.tokens.drop ((i2 + 1 : Int)).toNat) token
    exact ⟨by omega, by omega, tok_miss hI2 (by assumption) (by assumption)⟩
   ·
    show (toksR c.tokens).length - ((i2 + 1 : Int)).toNat < (toksR c.tokens).length - i2.toNat
    omega
  replace h7 : (gI (toksR c.tokens) i2).tok = token := (eq_of_beq (bnF h7))
  refine awp_skip ?_
  refine hK11 _ _ ?_; clear hK11
  refine sK ?_; intro K12 hK12
  refine rS [] [0, 19, 101] (by decide) ?_
  intro K1 hK1
  refine ⟨tv, tv, ⟨rfl, by decide⟩, ?_⟩
  refine aL rfl (v := sF ((toksR c.tokens).map dn3AV)) rfl (wG 1 hNb1 rfl) rfl (aO rfl rfl (nB rfl)) rfl ?_
  refine ⟨tv, ?_⟩
  refine ar_index rfl dn3AV (toksR c.tokens) i2 rfl rfl rfl rfl rfl (by decide) (fun _ => rfl) (by omega) (by omega) ?_
  refine ⟨⟨rfl, by decide, (nB rfl)⟩, (aO rfl rfl (nB rfl)), tv, tv, ?_⟩
  show K1 [(0, pT r), (19, iT i2), (101, .bool (!(((gI (toksR c.tokens) i2).op) == 1)))] (mW (mW m H) [(b1, vObj v), (r, .cells [pT e, av, sT ((toksR c.tokens).map dn3AV), iT c.next, iT c.quota, iT (c.calls + 1), sT (F.map intAV)]), (e, zR ((stepF s).1))])
  refine hK1 _ _ ?_; clear hK1 K1
  refine cD rfl rfl (fun h8 => ?_) (fun h8 => ?_)
  ·
   replace h8 : (gI (toksR c.tokens) i2).op ≠ 1 := (ne_of_beq_false (bnT h8))
   refine rS [] [12, 13] (by decide) ?_
   intro K1 hK1
   refine ⟨tv, tv, ?_⟩
   show K1 [(12, iT 0), (13, iT 15)] (mW (mW m H) [(b1, vObj v), (r, .cells [pT e, av, sT ((toksR c.tokens).map dn3AV), iT c.next, iT c.quota, iT (c.calls + 1), sT (F.map intAV)]), (e, zR ((stepF s).1))])
   refine hK1 _ _ ?_; clear hK1 K1
   refine awp_ret ?_
   refine ⟨tv, tv, (mW (mW m H) [(r, .cells [pT e, av, sT ((toksR c.tokens).map dn3AV), iT c.next, iT c.quota, iT (c.calls + 1), sT (F.map intAV)]), (e, zR ((stepF s).1))]), (wth_keep (m := (mW m H)) (L := [(b1, vObj v), (r, .cells [pT e, av, sT ((toksR c.tokens).map dn3AV), iT c.next, iT c.quota, iT (c.calls + 1), sT (F.map intAV)]), (e, zR ((stepF s).1))]) (L1 := [(r, .cells [pT e, av, sT ((toksR c.tokens).map dn3AV), iT c.next, iT c.quota, iT (c.calls + 1), sT (F.map intAV)]), (e, zR ((stepF s).1))]) (L2 := [(b1, vObj v)]) hNb1 (pick_perm [1, 1] _) (by simp only [List.map_cons, List.map_nil, List.forall_mem_cons]; exact ⟨hFb1, nfA⟩)), ?_⟩
   show K (.tuple [iT 0, iT 15]) (AMem.wth (AMem.wth m H) [(r, .cells [pT e, av, sT ((toksR c.tokens).map dn3AV), iT c.next, iT c.quota, iT (c.calls + 1), sT (F.map intAV)]), (e, zR ((stepF s).1))])
  
   have hm := tok_hit hI2 (by assumption) (by assumption)
   have hg := gI_toks hI2.1 (l := c.tokens) (by assumption)
   have hop : (gI c.tokens i2).2.op ≠ 1 := (by (have z : (gI (toksR c.tokens) i2).op ≠ 1 := by assumption); rw [hg] at z; exact z)
   exact hK _ (createD_5 (by omega) (by assumption) hs0 hb0 hm hop) H av hTH
  replace h8 : (gI (toksR c.tokens) i2).op = 1 := (eq_of_beq (bnF h8))
  refine awp_skip ?_
  refine hK12 _ _ ?_; clear hK12
  refine rS [] [12, 13] (by decide) ?_
  intro K1 hK1
  refine ⟨tv, tv, ⟨rfl, by decide⟩, ?_⟩
  refine aL rfl (v := sF ((toksR c.tokens).map dn3AV)) rfl (wG 1 hNb1 rfl) rfl (aO rfl rfl (nB rfl)) rfl ?_
  refine ⟨tv, ?_⟩
  refine ar_index rfl dn3AV (toksR c.tokens) i2 rfl rfl rfl rfl rfl (by decide) (fun _ => rfl) (by omega) (by omega) ?_
  refine ⟨⟨rfl, by decide, (nB rfl)⟩, (aO rfl rfl (nB rfl)), tv, tv, ?_⟩
  show K1 [(12, iT ((gI (toksR c.tokens) i2).id)), (13, iT 0)] (mW (mW m H) [(b1, vObj v), (r, .cells [pT e, av, sT ((toksR c.tokens).map dn3AV), iT c.next, iT c.quota, iT (c.calls + 1), sT (F.map intAV)]), (e, zR ((stepF s).1))])
  refine hK1 _ _ ?_; clear hK1 K1
  refine awp_ret ?_
  refine ⟨tv, tv, (mW (mW m H) [(r, .cells [pT e, av, sT ((toksR c.tokens).map dn3AV), iT c.next, iT c.quota, iT (c.calls + 1), sT (F.map intAV)]), (e, zR ((stepF s).1))]), (wth_keep (m := (mW m H)) (L := [(b1, vObj v), (r, .cells [pT e, av, sT ((toksR c.tokens).map dn3AV), iT c.next, iT c.quota, iT (c.calls + 1), sT (F.map intAV)]), (e, zR ((stepF s).1))]) (L1 := [(r, .cells [pT e, av, sT ((toksR c.tokens).map dn3AV), iT c.next, iT c.quota, iT (c.calls + 1), sT (F.map intAV)]), (e, zR ((stepF s).1))]) (L2 := [(b1, vObj v)]) hNb1 (pick_perm [1, 1] _) (by simp only [List.map_cons, List.map_nil, List.forall_mem_cons]; exact ⟨hFb1, nfA⟩)), ?_⟩
  show K (.tuple [iT ((gI (toksR c.tokens) i2).id), iT 0]) (AMem.wth (AMem.wth m H) [(r, .cells [pT e, av, sT ((toksR c.tokens).map dn3AV), iT c.next, iT c.quota, iT (c.calls + 1), sT (F.map intAV)]), (e, zR ((stepF s).1))])
 
  have hm := tok_hit hI2 (by assumption) (by assumption)
  have hg := gI_toks hI2.1 (l := c.tokens) (by assumption)
  have hop : (gI c.tokens i2).2.op = 1 := (by (have z : (gI (toksR c.tokens) i2).op = 1 := by assumption); rw [hg] at z; exact z)
  rw [hg]
  exact hK _ (createD_6 (by omega) (by assumption) hs0 hb0 hm hop) H av hTH
 replace h6 : ((toksR c.tokens).length : Int) ≤ i2 := (Int.not_lt.1 (of_decide_eq_false h6))
 refine awp_exit ?_
 refine hK8 _ _ ?_; clear hK8
 have htk0 : mget c.tokens token = none := tok_end hI2 (by assumption)
 refine rS [] [0, 1, 2, 3, 4, 11, 20] (by decide) ?_
 intro K1 hK1
 refine ⟨tv, tv, ?_⟩
 have hD1 : ∀ cz ∈ ([b1, r, e] : List Nat), cz ∉ List.map Prod.fst H := by simp only [List.forall_mem_cons]; exact ⟨hid_nin (m := m) hFb1, hTH.nin (by simp), hTH.nin (by simp), nfA⟩
 have hTc1 : HidR _ (mW m _) [r] H _ _ := HidR.call (L := [(b1, vObj v), (r, .cells [pT e, av, sT ((toksR c.tokens).map dn3AV), iT c.next, iT c.quota, iT (c.calls + 1), sT (F.map intAV)]), (e, zR ((stepF s).1))]) hTH (pick_perm [1] _) hD1
 refine ar_mem (hid_call (m := m) (H := H) (L := [(b1, vObj v), (r, .cells [pT e, av, sT ((toksR c.tokens).map dn3AV), iT c.next, iT c.quota, iT (c.calls + 1), sT (F.map intAV)]), (e, zR ((stepF s).1))]) hNb1 (pick_perm [1] _) hTH.nd hD1) ?_
 refine u_place r e ({ c with calls := c.calls + 1 } : ClSt) F id hTc1 (by simp) (by rw [vals_len]; exact htl) _ ?_
 refine ar_mem (hid_call (m := m) (H := H) (L := [(b1, vObj v), (r, .cells [pT e, av, sT ((toksR c.tokens).map dn3AV), iT c.next, iT c.quota, iT (c.calls + 1), sT (F.map intAV)]), (e, zR ((stepF s).1))]) hNb1 (pick_perm [1] _) hTH.nd hD1).symm ?_
 refine ⟨tv, ?_⟩
 show K1 [(0, pT r), (1, iT 1), (2, .str token), (3, .str kind), (4, iT id), (11, pT b1), (20, iT (placeR (vals c) id))] (mW (mW m H) [(b1, vObj v), (r, .cells [pT e, av, sT ((toksR c.tokens).map dn3AV), iT c.next, iT c.quota, iT (c.calls + 1), sT (F.map intAV)]), (e, zR ((stepF s).1))])
 refine hK1 _ _ ?_; clear hK1 K1
 refine sK ?_; intro K13 hK13
 refine rS [] [0, 1, 2, 3, 4, 11, 20, 113] (by decide) ?_
 intro K1 hK1
 refine ⟨tv, ?_⟩
 show K1 [(0, pT r), (1, iT 1), (2, .str token), (3, .str kind), (4, iT id), (11, pT b1), (20, iT (placeR (vals c) id)), (113, iT 1)] _
 refine hK1 _ _ ?_; clear hK1 K1
 refine awp_block ?_
 refine rS [] [0, 1, 2, 3, 4, 11, 20, 113, 114] (by decide) ?_
 intro K1 hK1
 refine ⟨tv, tv, ?_⟩
 show K1 [(0, pT r), (1, iT 1), (2, .str token), (3, .str kind), (4, iT id), (11, pT b1), (20, iT (placeR (vals c) id)), (113, iT 1), (114, .bool true)] _
 refine hK1 _ _ ?_; clear hK1 K1
 refine cD rfl rfl (fun hcz => ?_) (fun hcz => ?_)
 rotate_left; · cases hcz
 clear hcz
 refine sK ?_; intro K14 hK14
 rcases hTH.sh with ⟨hH, hav, hz0⟩ | ⟨b, zs, hH, hav, hk, hv⟩
 ·
  skip
  subst hH
  subst hav
  have hF1z : m b1 = none := hFb1
  have hz : c.things = [] := by simpa [vals] using hz0
  have hzl : c.things.length = 0 := by rw [hz]; rfl
  show AWP _ _ _ _ [(0, pT r), (1, iT 1), (2, .str token), (3, .str kind), (4, iT id), (11, pT b1), (20, iT (placeR (vals c) id)), (113, iT 1), (114, .bool true)] (mW m [(b1, vObj v), (r, .cells [pT e, .nils, sT ((toksR c.tokens).map dn3AV), iT c.next, iT c.quota, iT (c.calls + 1), sT (F.map intAV)]), (e, zR ((stepF s).1))])
  refine awp_draw_seq Try.mixed [] [0, 1, 2, 3, 11, 125] (by decide) (by decide) ?_
  intro K1 hK1
  refine ⟨tv, tv, ⟨rfl, by decide⟩, ?_⟩
  refine pq_loadp rfl (v := .nils) rfl (wG 1 hNb1 rfl) (aO rfl rfl (nB rfl)) rfl ?_
  refine ⟨tv, tv, tv, ⟨rfl, by decide⟩, ?_⟩
  refine pq_loadp rfl (v := iT c.quota) rfl (wG 1 hNb1 rfl) (aO rfl rfl (nB rfl)) rfl ?_
  refine ⟨tv, ?_⟩
  show K1 [(0, pT r), (1, iT 1), (2, .str token), (3, .str kind), (11, pT b1), (125, .bool (decide (c.quota ≤ 0)))] _
  refine hK1 _ _ ?_; clear hK1 K1
  refine cD rfl rfl (fun h9 => ?_) (fun h9 => ?_)
  ·
   replace h9 : c.quota ≤ 0 := (of_decide_eq_true h9)
   refine rS [] [12, 13] (by decide) ?_
   intro K1 hK1
   refine ⟨tv, tv, ?_⟩
   show K1 [(12, iT 0), (13, iT 13)] (mW m [(b1, vObj v), (r, .cells [pT e, .nils, sT ((toksR c.tokens).map dn3AV), iT c.next, iT c.quota, iT (c.calls + 1), sT (F.map intAV)]), (e, zR ((stepF s).1))])
   refine hK1 _ _ ?_; clear hK1 K1
   refine awp_ret ?_
   refine ⟨tv, tv, (mW m [(r, .cells [pT e, .nils, sT ((toksR c.tokens).map dn3AV), iT c.next, iT c.quota, iT (c.calls + 1), sT (F.map intAV)]), (e, zR ((stepF s).1))]), (wth_keep (m := m) (L := [(b1, vObj v), (r, .cells [pT e, .nils, sT ((toksR c.tokens).map dn3AV), iT c.next, iT c.quota, iT (c.calls + 1), sT (F.map intAV)]), (e, zR ((stepF s).1))]) (L1 := [(r, .cells [pT e, .nils, sT ((toksR c.tokens).map dn3AV), iT c.next, iT c.quota, iT (c.calls + 1), sT (F.map intAV)]), (e, zR ((stepF s).1))]) (L2 := [(b1, vObj v)]) hNb1 (pick_perm [1, 1] _) (by simp only [List.map_cons, List.map_nil, List.forall_mem_cons]; exact ⟨hF1z, nfA⟩)), ?_⟩
   show K (.tuple [iT 0, iT 13]) (AMem.wth m [(r, .cells [pT e, .nils, sT ((toksR c.tokens).map dn3AV), iT c.next, iT c.quota, iT (c.calls + 1), sT (F.map intAV)]), (e, zR ((stepF s).1))])
  
   exact hK _ (createD_7 (by omega) (by assumption) hs0 hb0 htk0 (by omega)) [] .nils (nil_vals hz)
  replace h9 : 0 < c.quota := (Int.not_le.1 (of_decide_eq_false h9))
  refine awp_skip ?_
  refine hK14 _ _ ?_; clear hK14
  refine rS [] [0, 1, 2, 3, 4, 11] (by decide) ?_
  intro K1 hK1
  refine ⟨tv, tv, ⟨rfl, by decide⟩, ?_⟩
  refine aL rfl (v := iT c.next) rfl (wG 1 hNb1 rfl) rfl (aO rfl rfl (nB rfl)) rfl ?_
  refine ⟨tv, ?_⟩
  show K1 [(0, pT r), (1, iT 1), (2, .str token), (3, .str kind), (4, iT c.next), (11, pT b1)] (mW m [(b1, vObj v), (r, .cells [pT e, .nils, sT ((toksR c.tokens).map dn3AV), iT c.next, iT c.quota, iT (c.calls + 1), sT (F.map intAV)]), (e, zR ((stepF s).1))])
  refine hK1 _ _ ?_; clear hK1 K1
  refine rS [] [0, 1, 2, 3, 4, 11] (by decide) ?_
  intro K1 hK1
  refine ⟨tv, tv, ⟨rfl, by decide⟩, ?_⟩
  refine aL rfl (v := iT c.next) rfl (wG 1 hNb1 rfl) rfl (aO rfl rfl (nB rfl)) rfl ?_
  refine ar_add rfl (a := c.next) (b := 1) rfl rfl (by omega) (by omega) ?_
  refine ⟨tv, ⟨rfl, by decide⟩, ?_⟩
  refine aS rfl 1 (v := iT (c.next + 1)) (l' := [pT e, .nils, sT ((toksR c.tokens).map dn3AV), iT (c.next + 1), iT c.quota, iT (c.calls + 1), sT (F.map intAV)]) rfl rfl hNb1 rfl rfl rfl rfl rfl (nB rfl) rfl ?_
  show K1 [(0, pT r), (1, iT 1), (2, .str token), (3, .str kind), (4, iT c.next), (11, pT b1)] (mW m [(b1, vObj v), (r, .cells [pT e, .nils, sT ((toksR c.tokens).map dn3AV), iT (c.next + 1), iT c.quota, iT (c.calls + 1), sT (F.map intAV)]), (e, zR ((stepF s).1))])
  refine hK1 _ _ ?_; clear hK1 K1
  obtain ⟨c2, hc2⟩ : ∃ c2 : ClSt, c2 = ({ c with calls := c.calls + 1, next := c.next + 1 } : ClSt) := ⟨_, rfl⟩
  have hob : .cells [pT e, .nils, sT ((toksR c.tokens).map dn3AV), iT (c.next + 1), iT c.quota, iT (c.calls + 1), sT (F.map intAV)] = rcObj e .nils c2 F := by rw [hc2]; rfl
  rw [hob]
  have htk2 : (toksR c2.tokens).length ≤ 1000000 := by rw [hc2]; exact htkl
  refine awp_anyA Try.mixed [0, 1, 2, 4] (by decide) ?_
  intro K1 hK1
  intro A hA
  suffices key : ∀ (b42 : Nat) (hFb42 : m b42 = none) (hNv1 : ([b42, b1, r, e] : List Nat).Nodup) (zs42 : List Thg) (htb42 : zs42.take (([(⟨c.next, kind, v⟩ : Thg)] : List Thg)).length = ([(⟨c.next, kind, v⟩ : Thg)] : List Thg)) (hlb42 : (([(⟨c.next, kind, v⟩ : Thg)] : List Thg)).length ≤ zs42.length), K1 [(0, pT r), (1, iT 1), (2, .str token), (4, iT c.next)] (mW m [(b42, .cells (flatK thgAV zs42)), (b1, vObj v), (r, rcObj e (.ms ⟨b42, 0, none⟩ (([(⟨c.next, kind, v⟩ : Thg)] : List Thg).length) zs42.length) c2 F), (e, zR ((stepF s).1))]) by
   let KK1 : Fr → AMem → Prop := (fun fr m => K1 (fr.keep [0, 1, 2, 4]) m)
   let f1_0 : Nat × AV := (0, pT r)
   let f1_1 : Nat × AV := (1, iT 1)
   let f1_2 : Nat × AV := (2, .str token)
   let f1_3 : Nat × AV := (4, iT c.next)
   let M1_4 : Nat → List Thg → AMem := fun b42 zs42 => (mW m [(b42, .cells (flatK thgAV zs42)), (b1, vObj v), (r, rcObj e (.ms ⟨b42, 0, none⟩ (([(⟨c.next, kind, v⟩ : Thg)] : List Thg).length) zs42.length) c2 F), (e, zR ((stepF s).1))])
   let f1_5 : Nat → List Thg → Nat × AV := fun b42 zs42 => (147, .ms ⟨b42, 0, none⟩ (([(⟨c.next, kind, v⟩ : Thg)] : List Thg).length) zs42.length)
   let f1_6 : Nat × AV := (149, .ptr ⟨r, 1, none⟩)
   let M1_7 : Nat → List Thg → AMem := fun b42 zs42 => (mW m [(b42, .cells (flatK thgAV zs42)), (b1, vObj v), (r, rcObj e .nils c2 F), (e, zR ((stepF s).1))])
   let f1_8 : Nat × AV := (137, pT r)
   let f1_9 : Nat × AV := (146, .slice true [.agg [iT c.next, .str kind, iT v.kind, iT v.n, .str v.s, sF (v.l.map valIn), sF (v.f.map fldIn)]])
   let M1_10 : AMem := (mW m [(b1, vObj v), (r, rcObj e .nils c2 F), (e, zR ((stepF s).1))])
   let f1_11 : Nat × AV := (145, .agg [iT c.next, .str kind, iT v.kind, iT v.n, .str v.s, sF (v.l.map valIn), sF (v.f.map fldIn)])
   let f1_12 : Nat × AV := (140, .ptr ⟨r, 1, none⟩)
   let f1_13 : Nat × AV := (142, iT c.next)
   let f1_14 : Nat × AV := (143, .str kind)
   let f1_15 : Nat × AV := (144, .agg [iT v.kind, iT v.n, .str v.s, sF (v.l.map valIn), sF (v.f.map fldIn)])
   let f1_16 : Nat × AV := (11, pT b1)
   have s0 : ∀ (b42 : Nat) (hFb42 : m b42 = none) (hNv1 : ([b42, b1, r, e] : List Nat).Nodup) (zs42 : List Thg) (htb42 : zs42.take (([(⟨c.next, kind, v⟩ : Thg)] : List Thg)).length = ([(⟨c.next, kind, v⟩ : Thg)] : List Thg)) (hlb42 : (([(⟨c.next, kind, v⟩ : Thg)] : List Thg)).length ≤ zs42.length), A 0 #[true, true, true, true, true, true, true, true, true, true, true, true, true, true] KK1 [f1_0, f1_1, f1_2, f1_3] (M1_4 b42 zs42) := by
    intro b42 hFb42 hNv1 zs42 htb42 hlb42
    subst hA
    exact AAny.done (by decide +kernel) (key b42 hFb42 hNv1 zs42 htb42 hlb42)
   have s1 : ∀ (b42 : Nat) (hFb42 : m b42 = none) (hNv1 : ([b42, b1, r, e] : List Nat).Nodup) (zs42 : List Thg) (htb42 : zs42.take (([(⟨c.next, kind, v⟩ : Thg)] : List Thg)).length = ([(⟨c.next, kind, v⟩ : Thg)] : List Thg)) (hlb42 : (([(⟨c.next, kind, v⟩ : Thg)] : List Thg)).length ≤ zs42.length), A 1 #[true, true, true, true, true, true, true, true, true, true, true, true, true, false] KK1 [f1_0, f1_1, f1_2, f1_3, (f1_5 b42 zs42), f1_6] (M1_7 b42 zs42) := by
    intro b42 hFb42 hNv1 zs42 htb42 hlb42
    subst hA
    refine AAny.step [141] [13] (by decide +kernel) (by simp) (by decide) ⟨?_, tv⟩
    ·
     show aopsR _ _ _ [_] _ _ _
     refine aS rfl 2 (v := .ms ⟨b42, 0, none⟩ (([(⟨c.next, kind, v⟩ : Thg)] : List Thg).length) zs42.length) (l' := [pT e, .ms ⟨b42, 0, none⟩ (([(⟨c.next, kind, v⟩ : Thg)] : List Thg).length) zs42.length, sT ((toksR c2.tokens).map dn3AV), iT c2.next, iT c2.quota, iT c2.calls, sT (F.map intAV)]) rfl rfl hNv1 rfl rfl rfl rfl rfl (nB rfl) rfl ?_
     refine AAny.keep [0, 1, 2, 4] (by decide) ?_
     exact s0 b42 hFb42 hNv1 zs42 htb42 hlb42
   clear s0
   have s2 : ∀ (_ : True), A 4 #[true, true, true, true, true, true, true, true, true, true, false, false, false, false] KK1 [f1_0, f1_1, f1_2, f1_3, f1_8, (141, .nils), f1_9] M1_10 := by
    intro _
    subst hA
    refine AAny.step [141] [10] (by decide +kernel) (by simp) (by decide) ⟨?_, tv⟩
    ·
     show aopsR _ _ _ [_] _ _ _
     refine ar_append0MsK rfl thgAV 7 ([(⟨c.next, kind, v⟩ : Thg)] : List Thg) zT rfl rfl rfl rfl rfl rfl rfl rfl (by decide) hNb1 (fun _ => rfl) (fun _ => rfl) (fun _ => rfl) rfl (by simp) (by (simp only [show Try.prog.bytesOf 80 = 104 from rfl, List.length_cons, List.length_nil]; omega)) (by simp) ?_
     intro b42 zs42 hFb42 hNb42 htb42 hlb42
     replace hNb42 : ([b42, b1, r, e] : List Nat).Nodup := hNb42
     refine AAny.fNil (i := 11) rfl rfl rfl (by decide) rfl (by decide +kernel) rfl ?_
     refine AAny.fField (i := 12) rfl rfl rfl (by decide) rfl (by decide +kernel) rfl rfl ⟨rfl, by decide⟩ ?_
     refine AAny.keep [0, 1, 2, 4, 147, 149] (by decide) ?_
     exact s1 b42 hFb42 hNb42 zs42 htb42 hlb42
   clear s1
   have s3 : ∀ (_ : True), A 5 #[true, true, true, true, true, true, true, true, true, false, false, false, false, false] KK1 [f1_0, f1_1, f1_2, f1_3, f1_8, (141, .nils), f1_11] M1_10 := by
    intro _
    subst hA
    refine AAny.step [141] [9] (by decide +kernel) (by simp) (by decide) ⟨?_, tv⟩
    ·
     show aopsR _ _ _ [_] _ _ _
     refine ⟨⟨rfl, nB rfl, rfl, nB rfl, rfl, by simp only [List.forall_mem_cons]; exact ⟨⟨rfl, rfl⟩, nfA⟩⟩, ?_⟩
     refine AAny.keep [0, 1, 2, 4, 137, 141, 146] (by decide) ?_
     exact s2 trivial
   have s4 : ∀ (_ : True), A 5 #[true, true, true, true, false, true, true, true, true, true, false, false, false, false] KK1 [f1_0, f1_1, f1_2, f1_3, f1_8, f1_12, f1_9] M1_10 := by
    intro _
    subst hA
    refine AAny.step [141] [4] (by decide +kernel) (by simp) (by decide) ⟨?_, tv⟩
    ·
     show aopsR _ _ _ [_] _ _ _
     refine ar_loads rfl (i := 1) rfl hNb1 rfl rfl rfl rfl (nB rfl) ?_
     refine AAny.keep [0, 1, 2, 4, 137, 141, 146] (by decide) ?_
     exact s2 trivial
   clear s2
   have s5 : ∀ (_ : True), A 6 #[true, true, true, true, true, true, true, true, false, false, false, false, false, false] KK1 [f1_0, f1_1, f1_2, f1_3, f1_8, (141, .nils), f1_13, f1_14, f1_15] M1_10 := by
    intro _
    subst hA
    refine AAny.step [141] [8] (by decide +kernel) (by simp) (by decide) ⟨?_, tv⟩
    ·
     show aopsR _ _ _ [_] _ _ _
     refine ⟨⟨rfl, by simp only [List.forall_mem_cons]; exact ⟨rfl, rfl, rfl, nfA⟩, by simp only [List.forall_mem_cons]; exact ⟨rfl, rfl, rfl, nfA⟩⟩, ?_⟩
     refine AAny.keep [0, 1, 2, 4, 137, 141, 145] (by decide) ?_
     exact s3 trivial
   have s6 : ∀ (_ : True), A 6 #[true, true, true, true, false, true, true, true, true, false, false, false, false, false] KK1 [f1_0, f1_1, f1_2, f1_3, f1_8, f1_12, f1_11] M1_10 := by
    intro _
    subst hA
    refine AAny.step [141] [4, 9] (by decide +kernel) (by simp) (by decide) ⟨?_, ?_, tv⟩
    ·
     show aopsR _ _ _ [_] _ _ _
     refine ar_loads rfl (i := 1) rfl hNb1 rfl rfl rfl rfl (nB rfl) ?_
     refine AAny.keep [0, 1, 2, 4, 137, 141, 145] (by decide) ?_
     exact s3 trivial
    ·
     show aopsR _ _ _ [_] _ _ _
     refine ⟨⟨rfl, nB rfl, rfl, nB rfl, rfl, by simp only [List.forall_mem_cons]; exact ⟨⟨rfl, rfl⟩, nfA⟩⟩, ?_⟩
     refine AAny.keep [0, 1, 2, 4, 137, 140, 146] (by decide) ?_
     exact s4 trivial
   clear s3 s4
   have s7 : ∀ (_ : True), A 7 #[true, true, true, true, true, true, true, false, false, false, false, false, false, false] KK1 [f1_0, f1_1, f1_2, f1_3, f1_16, f1_8, (141, .nils), f1_13, f1_14] M1_10 := by
    intro _
    subst hA
    refine AAny.step [141] [7] (by decide +kernel) (by simp) (by decide) ⟨?_, tv⟩
    ·
     show aopsR _ _ _ [_] _ _ _
     refine aL rfl (v := .agg [iT v.kind, iT v.n, .str v.s, sF (v.l.map valIn), sF (v.f.map fldIn)]) rfl (wG 0 hNb1 rfl) rfl (apartOk_agg rfl rfl (nB rfl)) rfl ?_
     refine AAny.keep [0, 1, 2, 4, 137, 141, 142, 143, 144] (by decide) ?_
     exact s5 trivial
   have s8 : ∀ (_ : True), A 7 #[true, true, true, true, false, true, true, true, false, false, false, false, false, false] KK1 [f1_0, f1_1, f1_2, f1_3, f1_8, f1_12, f1_13, f1_14, f1_15] M1_10 := by
    intro _
    subst hA
    refine AAny.step [141] [4, 8] (by decide +kernel) (by simp) (by decide) ⟨?_, ?_, tv⟩
    ·
     show aopsR _ _ _ [_] _ _ _
     refine ar_loads rfl (i := 1) rfl hNb1 rfl rfl rfl rfl (nB rfl) ?_
     refine AAny.keep [0, 1, 2, 4, 137, 141, 142, 143, 144] (by decide) ?_
     exact s5 trivial
    ·
     show aopsR _ _ _ [_] _ _ _
     refine ⟨⟨rfl, by simp only [List.forall_mem_cons]; exact ⟨rfl, rfl, rfl, nfA⟩, by simp only [List.forall_mem_cons]; exact ⟨rfl, rfl, rfl, nfA⟩⟩, ?_⟩
     refine AAny.keep [0, 1, 2, 4, 137, 140, 145] (by decide) ?_
     exact s6 trivial
   clear s5 s6
   have s9 : ∀ (_ : True), A 8 #[true, true, true, true, false, true, true, false, false, false, false, false, false, false] KK1 [f1_0, f1_1, f1_2, f1_3, f1_16, f1_8, f1_12, f1_13, f1_14] M1_10 := by
    intro _
    subst hA
    refine AAny.step [141] [4, 7] (by decide +kernel) (by simp) (by decide) ⟨?_, ?_, tv⟩
    ·
     show aopsR _ _ _ [_] _ _ _
     refine ar_loads rfl (i := 1) rfl hNb1 rfl rfl rfl rfl (nB rfl) ?_
     refine AAny.keep [0, 1, 2, 4, 11, 137, 141, 142, 143] (by decide) ?_
     exact s7 trivial
    ·
     show aopsR _ _ _ [_] _ _ _
     refine aL rfl (v := .agg [iT v.kind, iT v.n, .str v.s, sF (v.l.map valIn), sF (v.f.map fldIn)]) rfl (wG 0 hNb1 rfl) rfl (apartOk_agg rfl rfl (nB rfl)) rfl ?_
     refine AAny.keep [0, 1, 2, 4, 137, 140, 142, 143, 144] (by decide) ?_
     exact s8 trivial
   clear s7 s8
   subst hA
   refine AAny.fMove (i := 0) rfl rfl rfl (by decide) rfl (by decide +kernel) rfl ?_
   refine AAny.fMove (i := 1) rfl rfl rfl (by decide) rfl (by decide +kernel) rfl ?_
   refine AAny.fNil (i := 2) rfl rfl rfl (by decide) rfl (by decide +kernel) rfl ?_
   refine AAny.fField (i := 3) rfl rfl rfl (by decide) rfl (by decide +kernel) rfl rfl ⟨rfl, by decide⟩ ?_
   refine AAny.fMove (i := 5) rfl rfl rfl (by decide) rfl (by decide +kernel) rfl ?_
   refine AAny.fMove (i := 6) rfl rfl rfl (by decide) rfl (by decide +kernel) rfl ?_
   refine AAny.keep [0, 1, 2, 4, 11, 137, 140, 142, 143] (by decide) ?_
   exact s9 trivial
  intro b42 hFb42 hNv1 zs42 htb42 hlb42
  refine hK1 _ _ ?_; clear hK1 K1
  refine hK13 _ _ ?_; clear hK13
  refine rS [173] [4] (by decide) ?_
  intro K1 hK1
  refine ⟨tv, tv, tv, ⟨rfl, by decide⟩, ?_⟩
  refine ar_loads rfl (i := 2) rfl hNv1 rfl rfl rfl rfl (nB rfl) ?_
  refine ⟨tv, tv, tv, ⟨rfl, by simp only [List.forall_mem_cons]; exact ⟨rfl, rfl, rfl, nfA⟩, by simp only [List.forall_mem_cons]; exact ⟨rfl, rfl, rfl, nfA⟩⟩, ⟨rfl, nB rfl, rfl, nB rfl, rfl, by simp only [List.forall_mem_cons]; exact ⟨⟨rfl, rfl⟩, nfA⟩⟩, ?_⟩
  refine ar_append rfl dn3AV (toksR c2.tokens) ([(⟨token, 1, c.next⟩ : Dn3)] : List Dn3) rfl rfl rfl rfl rfl rfl (nB rfl) rfl (by (simp only [show Try.prog.bytesOf 140 = 32 from rfl, List.length_append, List.length_cons, List.length_nil]; omega)) (by (first | omega | (simp only [List.length_append, List.length_cons, List.length_nil]; omega))) (fun _ => ⟨rfl, rfl⟩) ?_
  refine ⟨tv, ⟨rfl, by decide⟩, ?_⟩
  refine aS rfl 2 (v := sT (((toksR c2.tokens) ++ ([(⟨token, 1, c.next⟩ : Dn3)] : List Dn3)).map dn3AV)) (l' := [pT e, .ms ⟨b42, 0, none⟩ (([(⟨c.next, kind, v⟩ : Thg)] : List Thg).length) zs42.length, sT (((toksR c2.tokens) ++ ([(⟨token, 1, c.next⟩ : Dn3)] : List Dn3)).map dn3AV), iT c2.next, iT c2.quota, iT c2.calls, sT (F.map intAV)]) rfl rfl hNv1 rfl rfl rfl rfl rfl (nB rfl) rfl ?_
  show K1 [(4, iT c.next)] (mW m [(b42, .cells (flatK thgAV zs42)), (b1, vObj v), (r, .cells [pT e, .ms ⟨b42, 0, none⟩ (([(⟨c.next, kind, v⟩ : Thg)] : List Thg).length) zs42.length, sT (((toksR c2.tokens) ++ ([(⟨token, 1, c.next⟩ : Dn3)] : List Dn3)).map dn3AV), iT c2.next, iT c2.quota, iT c2.calls, sT (F.map intAV)]), (e, zR ((stepF s).1))])
  refine hK1 _ _ ?_; clear hK1 K1
  refine rS [] [12, 13] (by decide) ?_
  intro K1 hK1
  refine ⟨tv, tv, tv, ?_⟩
  show K1 [(12, iT c.next), (13, iT 0)] _
  refine hK1 _ _ ?_; clear hK1 K1
  refine awp_ret ?_
  refine ⟨tv, tv, (mW m [(b42, .cells (flatK thgAV zs42)), (r, .cells [pT e, .ms ⟨b42, 0, none⟩ (([(⟨c.next, kind, v⟩ : Thg)] : List Thg).length) zs42.length, sT (((toksR c2.tokens) ++ ([(⟨token, 1, c.next⟩ : Dn3)] : List Dn3)).map dn3AV), iT c2.next, iT c2.quota, iT c2.calls, sT (F.map intAV)]), (e, zR ((stepF s).1))]), (wth_keep (m := m) (L := [(b42, .cells (flatK thgAV zs42)), (b1, vObj v), (r, .cells [pT e, .ms ⟨b42, 0, none⟩ (([(⟨c.next, kind, v⟩ : Thg)] : List Thg).length) zs42.length, sT (((toksR c2.tokens) ++ ([(⟨token, 1, c.next⟩ : Dn3)] : List Dn3)).map dn3AV), iT c2.next, iT c2.quota, iT c2.calls, sT (F.map intAV)]), (e, zR ((stepF s).1))]) (L1 := [(b42, .cells (flatK thgAV zs42)), (r, .cells [pT e, .ms ⟨b42, 0, none⟩ (([(⟨c.next, kind, v⟩ : Thg)] : List Thg).length) zs42.length, sT (((toksR c2.tokens) ++ ([(⟨token, 1, c.next⟩ : Dn3)] : List Dn3)).map dn3AV), iT c2.next, iT c2.quota, iT c2.calls, sT (F.map intAV)]), (e, zR ((stepF s).1))]) (L2 := [(b1, vObj v)]) hNv1 (pick_perm [0, 1, 1] _) (by simp only [List.map_cons, List.map_nil, List.forall_mem_cons]; exact ⟨hF1z, nfA⟩)), ?_⟩
  show K (.tuple [iT c.next, iT 0]) (AMem.wth m [(b42, .cells (flatK thgAV zs42)), (r, .cells [pT e, .ms ⟨b42, 0, none⟩ (([(⟨c.next, kind, v⟩ : Thg)] : List Thg).length) zs42.length, sT (((toksR c2.tokens) ++ ([(⟨token, 1, c.next⟩ : Dn3)] : List Dn3)).map dn3AV), iT c2.next, iT c2.quota, iT c2.calls, sT (F.map intAV)]), (e, zR ((stepF s).1))])
 
  have hnd : ([b42, r, e] : List Nat).Nodup := by simp at hNv1 ⊢; omega
  have hT8 : HidR thgAV m [r, e] [(b42, .cells (flatK thgAV zs42))] (.ms ⟨b42, 0, none⟩ 1 zs42.length) (vals c ++ [(⟨c.next, kind, v⟩ : Thg)]) := HidR.row hFb42 (by simp at hnd ⊢; omega) hlb42 (by rw [show vals c = [] from hz0]; exact htb42)
  rw [← vals_put hcl] at hT8
  subst hc2
  have h8 := hK _ (createD_8 (by omega) (by assumption) hs0 hb0 htk0 (by omega)) _ _ hT8
  rw [hid_front (m := m) (b := b42) (by simpa using hnd)]
  exact Eq.mp (cgA (fun o => K (.tuple [iT c.next, iT 0]) ((m.wth [(b42, .cells (flatK thgAV zs42))]).wth [(r, o), (e, rObj (rT q (stepF s).1))])) (rcObj_put htk0 _ _ _)) h8
 ·
  skip
  subst hH
  subst hav
  have n1 := hid_nin (m := m) hFb1
  have n2 := hTH.nin (c := r) (by simp)
  have n3 := hTH.nin (c := e) (by simp)
  have hNx : ([b1, r, e, b] : List Nat).Nodup := by simp at hNb1 n1 n2 n3 ⊢; omega
  have hbz : m b = none := hTH.out b (by simp)
  have hF1z : m b1 = none := hid_base (m := m) hFb1
  show AWP _ _ _ _ [(0, pT r), (1, iT 1), (2, .str token), (3, .str kind), (4, iT id), (11, pT b1), (20, iT (placeR (vals c) id)), (113, iT 1), (114, .bool true)] (mW m [(b1, vObj v), (r, .cells [pT e, .ms ⟨b, 0, none⟩ ((vals c).length) zs.length, sT ((toksR c.tokens).map dn3AV), iT c.next, iT c.quota, iT (c.calls + 1), sT (F.map intAV)]), (e, zR ((stepF s).1)), (b, .cells (flatK thgAV zs))])
  refine awp_draw_seq Try.mixed [] [0, 1, 2, 3, 11, 125] (by decide) (by decide) ?_
  intro K1 hK1
  refine ⟨tv, tv, ⟨rfl, by decide⟩, ?_⟩
  refine pq_loadp rfl (v := .ms ⟨b, 0, none⟩ ((vals c).length) zs.length) rfl (wG 1 hNx rfl) (aO rfl rfl (nB rfl)) rfl ?_
  refine ⟨(by omega), tv, tv, ⟨rfl, by decide⟩, ?_⟩
  refine pq_loadp rfl (v := iT c.quota) rfl (wG 1 hNx rfl) (aO rfl rfl (nB rfl)) rfl ?_
  refine ⟨tv, ?_⟩
  show K1 [(0, pT r), (1, iT 1), (2, .str token), (3, .str kind), (11, pT b1), (125, .bool (decide (c.quota ≤ (((vals c).length : Nat) : Int))))] _
  refine hK1 _ _ ?_; clear hK1 K1
  refine cD rfl rfl (fun h10 => ?_) (fun h10 => ?_)
  ·
   replace h10 : c.quota ≤ (((vals c).length : Nat) : Int) := (of_decide_eq_true h10)
   refine rS [] [12, 13] (by decide) ?_
   intro K1 hK1
   refine ⟨tv, tv, ?_⟩
   show K1 [(12, iT 0), (13, iT 13)] (mW m [(b1, vObj v), (r, .cells [pT e, .ms ⟨b, 0, none⟩ ((vals c).length) zs.length, sT ((toksR c.tokens).map dn3AV), iT c.next, iT c.quota, iT (c.calls + 1), sT (F.map intAV)]), (e, zR ((stepF s).1)), (b, .cells (flatK thgAV zs))])
   refine hK1 _ _ ?_; clear hK1 K1
   refine awp_ret ?_
   refine ⟨tv, tv, (mW m [(r, .cells [pT e, .ms ⟨b, 0, none⟩ ((vals c).length) zs.length, sT ((toksR c.tokens).map dn3AV), iT c.next, iT c.quota, iT (c.calls + 1), sT (F.map intAV)]), (e, zR ((stepF s).1)), (b, .cells (flatK thgAV zs))]), (wth_keep (m := m) (L := [(b1, vObj v), (r, .cells [pT e, .ms ⟨b, 0, none⟩ ((vals c).length) zs.length, sT ((toksR c.tokens).map dn3AV), iT c.next, iT c.quota, iT (c.calls + 1), sT (F.map intAV)]), (e, zR ((stepF s).1)), (b, .cells (flatK thgAV zs))]) (L1 := [(r, .cells [pT e, .ms ⟨b, 0, none⟩ ((vals c).length) zs.length, sT ((toksR c.tokens).map dn3AV), iT c.next, iT c.quota, iT (c.calls + 1), sT (F.map intAV)]), (e, zR ((stepF s).1)), (b, .cells (flatK thgAV zs))]) (L2 := [(b1, vObj v)]) hNx (pick_perm [1, 1, 1] _) (by simp only [List.map_cons, List.map_nil, List.forall_mem_cons]; exact ⟨hF1z, nfA⟩)), ?_⟩
   show K (.tuple [iT 0, iT 13]) (AMem.wth m [(r, .cells [pT e, .ms ⟨b, 0, none⟩ ((vals c).length) zs.length, sT ((toksR c.tokens).map dn3AV), iT c.next, iT c.quota, iT (c.calls + 1), sT (F.map intAV)]), (e, zR ((stepF s).1)), (b, .cells (flatK thgAV zs))])
  
   exact hK _ (createD_7 (by omega) (by assumption) hs0 hb0 htk0 (by omega)) [(b, .cells (flatK thgAV zs))] _ (HidR.row hbz (by simp at hNx ⊢; omega) hk hv)
  replace h10 : (((vals c).length : Nat) : Int) < c.quota := (Int.not_le.1 (of_decide_eq_false h10))
  refine awp_skip ?_
  refine hK14 _ _ ?_; clear hK14
  refine rS [] [0, 1, 2, 3, 4, 11] (by decide) ?_
  intro K1 hK1
  refine ⟨tv, tv, ⟨rfl, by decide⟩, ?_⟩
  refine aL rfl (v := iT c.next) rfl (wG 1 hNx rfl) rfl (aO rfl rfl (nB rfl)) rfl ?_
  refine ⟨tv, ?_⟩
  show K1 [(0, pT r), (1, iT 1), (2, .str token), (3, .str kind), (4, iT c.next), (11, pT b1)] (mW m [(b1, vObj v), (r, .cells [pT e, .ms ⟨b, 0, none⟩ ((vals c).length) zs.length, sT ((toksR c.tokens).map dn3AV), iT c.next, iT c.quota, iT (c.calls + 1), sT (F.map intAV)]), (e, zR ((stepF s).1)), (b, .cells (flatK thgAV zs))])
  refine hK1 _ _ ?_; clear hK1 K1
  refine rS [] [0, 1, 2, 3, 4, 11] (by decide) ?_
  intro K1 hK1
  refine ⟨tv, tv, ⟨rfl, by decide⟩, ?_⟩
  refine aL rfl (v := iT c.next) rfl (wG 1 hNx rfl) rfl (aO rfl rfl (nB rfl)) rfl ?_
  refine ar_add rfl (a := c.next) (b := 1) rfl rfl (by omega) (by omega) ?_
  refine ⟨tv, ⟨rfl, by decide⟩, ?_⟩
  refine aS rfl 1 (v := iT (c.next + 1)) (l' := [pT e, .ms ⟨b, 0, none⟩ ((vals c).length) zs.length, sT ((toksR c.tokens).map dn3AV), iT (c.next + 1), iT c.quota, iT (c.calls + 1), sT (F.map intAV)]) rfl rfl hNx rfl rfl rfl rfl rfl (nB rfl) rfl ?_
  show K1 [(0, pT r), (1, iT 1), (2, .str token), (3, .str kind), (4, iT c.next), (11, pT b1)] (mW m [(b1, vObj v), (r, .cells [pT e, .ms ⟨b, 0, none⟩ ((vals c).length) zs.length, sT ((toksR c.tokens).map dn3AV), iT (c.next + 1), iT c.quota, iT (c.calls + 1), sT (F.map intAV)]), (e, zR ((stepF s).1)), (b, .cells (flatK thgAV zs))])
  refine hK1 _ _ ?_; clear hK1 K1
  obtain ⟨c2, hc2⟩ : ∃ c2 : ClSt, c2 = ({ c with calls := c.calls + 1, next := c.next + 1 } : ClSt) := ⟨_, rfl⟩
  have hob : .cells [pT e, .ms ⟨b, 0, none⟩ ((vals c).length) zs.length, sT ((toksR c.tokens).map dn3AV), iT (c.next + 1), iT c.quota, iT (c.calls + 1), sT (F.map intAV)] = rcObj e (.ms ⟨b, 0, none⟩ ((vals c).length) zs.length) c2 F := by rw [hc2]; rfl
  rw [hob]
  have htk2 : (toksR c2.tokens).length ≤ 1000000 := by rw [hc2]; exact htkl
  refine awp_anyA Try.mixed [0, 1, 2, 4] (by decide) ?_
  intro K1 hK1
  intro A hA
  suffices key : ∀ (b83 : Nat) (hFb83 : m b83 = none) (hNv2 : ([b83, b1, r, e] : List Nat).Nodup) (zs83 : List Thg) (htb83 : zs83.take (((vals c).length) + (([(⟨c.next, kind, v⟩ : Thg)] : List Thg)).length) = zs.take ((vals c).length) ++ ([(⟨c.next, kind, v⟩ : Thg)] : List Thg)) (hlb83 : ((vals c).length) + (([(⟨c.next, kind, v⟩ : Thg)] : List Thg)).length ≤ zs83.length), K1 [(0, pT r), (1, iT 1), (2, .str token), (4, iT c.next)] (mW m [(b83, .cells (flatK thgAV zs83)), (b1, vObj v), (r, rcObj e (.ms ⟨b83, 0, none⟩ (((vals c).length) + ([(⟨c.next, kind, v⟩ : Thg)] : List Thg).length) zs83.length) c2 F), (e, zR ((stepF s).1))]) by
   let KK2 : Fr → AMem → Prop := (fun fr m => K1 (fr.keep [0, 1, 2, 4]) m)
   let f2_0 : Nat × AV := (0, pT r)
   let f2_1 : Nat × AV := (1, iT 1)
   let f2_2 : Nat × AV := (2, .str token)
   let f2_3 : Nat × AV := (4, iT c.next)
   let M2_4 : Nat → List Thg → AMem := fun b83 zs83 => (mW m [(b83, .cells (flatK thgAV zs83)), (b1, vObj v), (r, rcObj e (.ms ⟨b83, 0, none⟩ (((vals c).length) + ([(⟨c.next, kind, v⟩ : Thg)] : List Thg).length) zs83.length) c2 F), (e, zR ((stepF s).1))])
   let f2_5 : Nat → List Thg → Nat × AV := fun b83 zs83 => (147, .ms ⟨b83, 0, none⟩ (((vals c).length) + ([(⟨c.next, kind, v⟩ : Thg)] : List Thg).length) zs83.length)
   let f2_6 : Nat × AV := (149, .ptr ⟨r, 1, none⟩)
   let M2_7 : Nat → List Thg → AMem := fun b83 zs83 => (mW m [(b83, .cells (flatK thgAV zs83)), (b1, vObj v), (r, rcObj e (.ms ⟨b, 0, none⟩ ((vals c).length) zs.length) c2 F), (e, zR ((stepF s).1))])
   let f2_8 : Nat × AV := (137, pT r)
   let f2_9 : Nat × AV := (141, .ms ⟨b, 0, none⟩ ((vals c).length) zs.length)
   let f2_10 : Nat × AV := (146, .slice true [.agg [iT c.next, .str kind, iT v.kind, iT v.n, .str v.s, sF (v.l.map valIn), sF (v.f.map fldIn)]])
   let M2_11 : AMem := (mW m [(b1, vObj v), (r, rcObj e (.ms ⟨b, 0, none⟩ ((vals c).length) zs.length) c2 F), (e, zR ((stepF s).1)), (b, .cells (flatK thgAV zs))])
   let f2_12 : Nat × AV := (145, .agg [iT c.next, .str kind, iT v.kind, iT v.n, .str v.s, sF (v.l.map valIn), sF (v.f.map fldIn)])
   let f2_13 : Nat × AV := (140, .ptr ⟨r, 1, none⟩)
   let f2_14 : Nat × AV := (142, iT c.next)
   let f2_15 : Nat × AV := (143, .str kind)
   let f2_16 : Nat × AV := (144, .agg [iT v.kind, iT v.n, .str v.s, sF (v.l.map valIn), sF (v.f.map fldIn)])
   let f2_17 : Nat × AV := (11, pT b1)
   have s0 : ∀ (b83 : Nat) (hFb83 : m b83 = none) (hNv2 : ([b83, b1, r, e] : List Nat).Nodup) (zs83 : List Thg) (htb83 : zs83.take (((vals c).length) + (([(⟨c.next, kind, v⟩ : Thg)] : List Thg)).length) = zs.take ((vals c).length) ++ ([(⟨c.next, kind, v⟩ : Thg)] : List Thg)) (hlb83 : ((vals c).length) + (([(⟨c.next, kind, v⟩ : Thg)] : List Thg)).length ≤ zs83.length), A 0 #[true, true, true, true, true, true, true, true, true, true, true, true, true, true] KK2 [f2_0, f2_1, f2_2, f2_3] (M2_4 b83 zs83) := by
    intro b83 hFb83 hNv2 zs83 htb83 hlb83
    subst hA
    exact AAny.done (by decide +kernel) (key b83 hFb83 hNv2 zs83 htb83 hlb83)
   have s1 : ∀ (b83 : Nat) (hFb83 : m b83 = none) (hNv2 : ([b83, b1, r, e] : List Nat).Nodup) (zs83 : List Thg) (htb83 : zs83.take (((vals c).length) + (([(⟨c.next, kind, v⟩ : Thg)] : List Thg)).length) = zs.take ((vals c).length) ++ ([(⟨c.next, kind, v⟩ : Thg)] : List Thg)) (hlb83 : ((vals c).length) + (([(⟨c.next, kind, v⟩ : Thg)] : List Thg)).length ≤ zs83.length), A 1 #[true, true, true, true, true, true, true, true, true, true, true, true, true, false] KK2 [f2_0, f2_1, f2_2, f2_3, (f2_5 b83 zs83), f2_6] (M2_7 b83 zs83) := by
    intro b83 hFb83 hNv2 zs83 htb83 hlb83
    subst hA
    refine AAny.step [141] [13] (by decide +kernel) (by simp) (by decide) ⟨?_, tv⟩
    ·
     show aopsR _ _ _ [_] _ _ _
     refine aS rfl 2 (v := .ms ⟨b83, 0, none⟩ (((vals c).length) + ([(⟨c.next, kind, v⟩ : Thg)] : List Thg).length) zs83.length) (l' := [pT e, .ms ⟨b83, 0, none⟩ (((vals c).length) + ([(⟨c.next, kind, v⟩ : Thg)] : List Thg).length) zs83.length, sT ((toksR c2.tokens).map dn3AV), iT c2.next, iT c2.quota, iT c2.calls, sT (F.map intAV)]) rfl rfl hNv2 rfl rfl rfl rfl rfl (nB rfl) rfl ?_
     refine AAny.keep [0, 1, 2, 4] (by decide) ?_
     exact s0 b83 hFb83 hNv2 zs83 htb83 hlb83
   clear s0
   have s2 : ∀ (_ : True), A 4 #[true, true, true, true, true, true, true, true, true, true, false, false, false, false] KK2 [f2_0, f2_1, f2_2, f2_3, f2_8, f2_9, f2_10] M2_11 := by
    intro _
    subst hA
    refine AAny.step [141] [10] (by decide +kernel) (by simp) (by decide) ⟨?_, tv⟩
    ·
     show aopsR _ _ _ [_] _ _ _
     refine ar_appendMsK rfl 3 thgAV 7 zs ([(⟨c.next, kind, v⟩ : Thg)] : List Thg) zT ((vals c).length) rfl rfl rfl rfl rfl rfl rfl rfl (by decide) rfl hNx hbz (fun _ => rfl) (fun _ => rfl) (fun _ => rfl) rfl (by (first | omega | (simp only [List.length_append, List.length_cons, List.length_nil]; omega))) (by (simp only [show Try.prog.bytesOf 80 = 104 from rfl, List.length_append, List.length_cons, List.length_nil]; omega)) (by (first | omega | (simp only [List.length_append, List.length_cons, List.length_nil]; omega))) ?_
     intro b83 zs83 hFb83 hNb83 htb83 hlb83
     replace htb83 : zs83.take (((vals c).length) + ([(⟨c.next, kind, v⟩ : Thg)] : List Thg).length) = zs.take ((vals c).length) ++ ([(⟨c.next, kind, v⟩ : Thg)] : List Thg) := htb83
     replace hlb83 : ((vals c).length) + ([(⟨c.next, kind, v⟩ : Thg)] : List Thg).length ≤ zs83.length := hlb83
     refine AAny.fNil (i := 11) rfl rfl rfl (by decide) rfl (by decide +kernel) rfl ?_
     refine AAny.fField (i := 12) rfl rfl rfl (by decide) rfl (by decide +kernel) rfl rfl ⟨rfl, by decide⟩ ?_
     refine AAny.keep [0, 1, 2, 4, 147, 149] (by decide) ?_
     exact s1 b83 hFb83 hNb83 zs83 htb83 hlb83
   clear s1
   have s3 : ∀ (_ : True), A 5 #[true, true, true, true, true, true, true, true, true, false, false, false, false, false] KK2 [f2_0, f2_1, f2_2, f2_3, f2_8, f2_9, f2_12] M2_11 := by
    intro _
    subst hA
    refine AAny.step [141] [9] (by decide +kernel) (by simp) (by decide) ⟨?_, tv⟩
    ·
     show aopsR _ _ _ [_] _ _ _
     refine ⟨⟨rfl, nB rfl, rfl, nB rfl, rfl, by simp only [List.forall_mem_cons]; exact ⟨⟨rfl, rfl⟩, nfA⟩⟩, ?_⟩
     refine AAny.keep [0, 1, 2, 4, 137, 141, 146] (by decide) ?_
     exact s2 trivial
   have s4 : ∀ (_ : True), A 5 #[true, true, true, true, false, true, true, true, true, true, false, false, false, false] KK2 [f2_0, f2_1, f2_2, f2_3, f2_8, f2_13, f2_10] M2_11 := by
    intro _
    subst hA
    refine AAny.step [141] [4] (by decide +kernel) (by simp) (by decide) ⟨?_, tv⟩
    ·
     show aopsR _ _ _ [_] _ _ _
     refine ar_loads rfl (i := 1) rfl hNx rfl rfl rfl rfl (nB rfl) ?_
     refine AAny.keep [0, 1, 2, 4, 137, 141, 146] (by decide) ?_
     exact s2 trivial
   clear s2
   have s5 : ∀ (_ : True), A 6 #[true, true, true, true, true, true, true, true, false, false, false, false, false, false] KK2 [f2_0, f2_1, f2_2, f2_3, f2_8, f2_9, f2_14, f2_15, f2_16] M2_11 := by
    intro _
    subst hA
    refine AAny.step [141] [8] (by decide +kernel) (by simp) (by decide) ⟨?_, tv⟩
    ·
     show aopsR _ _ _ [_] _ _ _
     refine ⟨⟨rfl, by simp only [List.forall_mem_cons]; exact ⟨rfl, rfl, rfl, nfA⟩, by simp only [List.forall_mem_cons]; exact ⟨rfl, rfl, rfl, nfA⟩⟩, ?_⟩
     refine AAny.keep [0, 1, 2, 4, 137, 141, 145] (by decide) ?_
     exact s3 trivial
   have s6 : ∀ (_ : True), A 6 #[true, true, true, true, false, true, true, true, true, false, false, false, false, false] KK2 [f2_0, f2_1, f2_2, f2_3, f2_8, f2_13, f2_12] M2_11 := by
    intro _
    subst hA
    refine AAny.step [141] [4, 9] (by decide +kernel) (by simp) (by decide) ⟨?_, ?_, tv⟩
    ·
     show aopsR _ _ _ [_] _ _ _
     refine ar_loads rfl (i := 1) rfl hNx rfl rfl rfl rfl (nB rfl) ?_
     refine AAny.keep [0, 1, 2, 4, 137, 141, 145] (by decide) ?_
     exact s3 trivial
    ·
     show aopsR _ _ _ [_] _ _ _
     refine ⟨⟨rfl, nB rfl, rfl, nB rfl, rfl, by simp only [List.forall_mem_cons]; exact ⟨⟨rfl, rfl⟩, nfA⟩⟩, ?_⟩
     refine AAny.keep [0, 1, 2, 4, 137, 140, 146] (by decide) ?_
     exact s4 trivial
   clear s3 s4
   have s7 : ∀ (_ : True), A 7 #[true, true, true, true, true, true, true, false, false, false, false, false, false, false] KK2 [f2_0, f2_1, f2_2, f2_3, f2_17, f2_8, f2_9, f2_14, f2_15] M2_11 := by
    intro _
    subst hA
    refine AAny.step [141] [7] (by decide +kernel) (by simp) (by decide) ⟨?_, tv⟩
    ·
     show aopsR _ _ _ [_] _ _ _
     refine aL rfl (v := .agg [iT v.kind, iT v.n, .str v.s, sF (v.l.map valIn), sF (v.f.map fldIn)]) rfl (wG 0 hNx rfl) rfl (apartOk_agg rfl rfl (nB rfl)) rfl ?_
     refine AAny.keep [0, 1, 2, 4, 137, 141, 142, 143, 144] (by decide) ?_
     exact s5 trivial
   have s8 : ∀ (_ : True), A 7 #[true, true, true, true, false, true, true, true, false, false, false, false, false, false] KK2 [f2_0, f2_1, f2_2, f2_3, f2_8, f2_13, f2_14, f2_15, f2_16] M2_11 := by
    intro _
    subst hA
    refine AAny.step [141] [4, 8] (by decide +kernel) (by simp) (by decide) ⟨?_, ?_, tv⟩
    ·
     show aopsR _ _ _ [_] _ _ _
     refine ar_loads rfl (i := 1) rfl hNx rfl rfl rfl rfl (nB rfl) ?_
     refine AAny.keep [0, 1, 2, 4, 137, 141, 142, 143, 144] (by decide) ?_
     exact s5 trivial
    ·
     show aopsR _ _ _ [_] _ _ _
     refine ⟨⟨rfl, by simp only [List.forall_mem_cons]; exact ⟨rfl, rfl, rfl, nfA⟩, by simp only [List.forall_mem_cons]; exact ⟨rfl, rfl, rfl, nfA⟩⟩, ?_⟩
     refine AAny.keep [0, 1, 2, 4, 137, 140, 145] (by decide) ?_
     exact s6 trivial
   clear s5 s6
   have s9 : ∀ (_ : True), A 8 #[true, true, true, true, false, true, true, false, false, false, false, false, false, false] KK2 [f2_0, f2_1, f2_2, f2_3, f2_17, f2_8, f2_13, f2_14, f2_15] M2_11 := by
    intro _
    subst hA
    refine AAny.step [141] [4, 7] (by decide +kernel) (by simp) (by decide) ⟨?_, ?_, tv⟩
    ·
     show aopsR _ _ _ [_] _ _ _
     refine ar_loads rfl (i := 1) rfl hNx rfl rfl rfl rfl (nB rfl) ?_
     refine AAny.keep [0, 1, 2, 4, 11, 137, 141, 142, 143] (by decide) ?_
     exact s7 trivial
    ·
     show aopsR _ _ _ [_] _ _ _
     refine aL rfl (v := .agg [iT v.kind, iT v.n, .str v.s, sF (v.l.map valIn), sF (v.f.map fldIn)]) rfl (wG 0 hNx rfl) rfl (apartOk_agg rfl rfl (nB rfl)) rfl ?_
     refine AAny.keep [0, 1, 2, 4, 137, 140, 142, 143, 144] (by decide) ?_
     exact s8 trivial
   clear s7 s8
   subst hA
   refine AAny.fMove (i := 0) rfl rfl rfl (by decide) rfl (by decide +kernel) rfl ?_
   refine AAny.fMove (i := 1) rfl rfl rfl (by decide) rfl (by decide +kernel) rfl ?_
   refine AAny.fNil (i := 2) rfl rfl rfl (by decide) rfl (by decide +kernel) rfl ?_
   refine AAny.fField (i := 3) rfl rfl rfl (by decide) rfl (by decide +kernel) rfl rfl ⟨rfl, by decide⟩ ?_
   refine AAny.fMove (i := 5) rfl rfl rfl (by decide) rfl (by decide +kernel) rfl ?_
   refine AAny.fMove (i := 6) rfl rfl rfl (by decide) rfl (by decide +kernel) rfl ?_
   refine AAny.keep [0, 1, 2, 4, 11, 137, 140, 142, 143] (by decide) ?_
   exact s9 trivial
  intro b83 hFb83 hNv2 zs83 htb83 hlb83
  refine hK1 _ _ ?_; clear hK1 K1
  refine hK13 _ _ ?_; clear hK13
  refine rS [173] [4] (by decide) ?_
  intro K1 hK1
  refine ⟨tv, tv, tv, ⟨rfl, by decide⟩, ?_⟩
  refine ar_loads rfl (i := 2) rfl hNv2 rfl rfl rfl rfl (nB rfl) ?_
  refine ⟨tv, tv, tv, ⟨rfl, by simp only [List.forall_mem_cons]; exact ⟨rfl, rfl, rfl, nfA⟩, by simp only [List.forall_mem_cons]; exact ⟨rfl, rfl, rfl, nfA⟩⟩, ⟨rfl, nB rfl, rfl, nB rfl, rfl, by simp only [List.forall_mem_cons]; exact ⟨⟨rfl, rfl⟩, nfA⟩⟩, ?_⟩
  refine ar_append rfl dn3AV (toksR c2.tokens) ([(⟨token, 1, c.next⟩ : Dn3)] : List Dn3) rfl rfl rfl rfl rfl rfl (nB rfl) rfl (by (simp only [show Try.prog.bytesOf 140 = 32 from rfl, List.length_append, List.length_cons, List.length_nil]; omega)) (by (first | omega | (simp only [List.length_append, List.length_cons, List.length_nil]; omega))) (fun _ => ⟨rfl, rfl⟩) ?_
  refine ⟨tv, ⟨rfl, by decide⟩, ?_⟩
  refine aS rfl 2 (v := sT (((toksR c2.tokens) ++ ([(⟨token, 1, c.next⟩ : Dn3)] : List Dn3)).map dn3AV)) (l' := [pT e, .ms ⟨b83, 0, none⟩ (((vals c).length) + ([(⟨c.next, kind, v⟩ : Thg)] : List Thg).length) zs83.length, sT (((toksR c2.tokens) ++ ([(⟨token, 1, c.next⟩ : Dn3)] : List Dn3)).map dn3AV), iT c2.next, iT c2.quota, iT c2.calls, sT (F.map intAV)]) rfl rfl hNv2 rfl rfl rfl rfl rfl (nB rfl) rfl ?_
  show K1 [(4, iT c.next)] (mW m [(b83, .cells (flatK thgAV zs83)), (b1, vObj v), (r, .cells [pT e, .ms ⟨b83, 0, none⟩ (((vals c).length) + ([(⟨c.next, kind, v⟩ : Thg)] : List Thg).length) zs83.length, sT (((toksR c2.tokens) ++ ([(⟨token, 1, c.next⟩ : Dn3)] : List Dn3)).map dn3AV), iT c2.next, iT c2.quota, iT c2.calls, sT (F.map intAV)]), (e, zR ((stepF s).1))])
  refine hK1 _ _ ?_; clear hK1 K1
  refine rS [] [12, 13] (by decide) ?_
  intro K1 hK1
  refine ⟨tv, tv, tv, ?_⟩
  show K1 [(12, iT c.next), (13, iT 0)] _
  refine hK1 _ _ ?_; clear hK1 K1
  refine awp_ret ?_
  refine ⟨tv, tv, (mW m [(b83, .cells (flatK thgAV zs83)), (r, .cells [pT e, .ms ⟨b83, 0, none⟩ (((vals c).length) + ([(⟨c.next, kind, v⟩ : Thg)] : List Thg).length) zs83.length, sT (((toksR c2.tokens) ++ ([(⟨token, 1, c.next⟩ : Dn3)] : List Dn3)).map dn3AV), iT c2.next, iT c2.quota, iT c2.calls, sT (F.map intAV)]), (e, zR ((stepF s).1))]), (wth_keep (m := m) (L := [(b83, .cells (flatK thgAV zs83)), (b1, vObj v), (r, .cells [pT e, .ms ⟨b83, 0, none⟩ (((vals c).length) + ([(⟨c.next, kind, v⟩ : Thg)] : List Thg).length) zs83.length, sT (((toksR c2.tokens) ++ ([(⟨token, 1, c.next⟩ : Dn3)] : List Dn3)).map dn3AV), iT c2.next, iT c2.quota, iT c2.calls, sT (F.map intAV)]), (e, zR ((stepF s).1))]) (L1 := [(b83, .cells (flatK thgAV zs83)), (r, .cells [pT e, .ms ⟨b83, 0, none⟩ (((vals c).length) + ([(⟨c.next, kind, v⟩ : Thg)] : List Thg).length) zs83.length, sT (((toksR c2.tokens) ++ ([(⟨token, 1, c.next⟩ : Dn3)] : List Dn3)).map dn3AV), iT c2.next, iT c2.quota, iT c2.calls, sT (F.map intAV)]), (e, zR ((stepF s).1))]) (L2 := [(b1, vObj v)]) hNv2 (pick_perm [0, 1, 1] _) (by simp only [List.map_cons, List.map_nil, List.forall_mem_cons]; exact ⟨hF1z, nfA⟩)), ?_⟩
  show K (.tuple [iT c.next, iT 0]) (AMem.wth m [(b83, .cells (flatK thgAV zs83)), (r, .cells [pT e, .ms ⟨b83, 0, none⟩ (((vals c).length) + ([(⟨c.next, kind, v⟩ : Thg)] : List Thg).length) zs83.length, sT (((toksR c2.tokens) ++ ([(⟨token, 1, c.next⟩ : Dn3)] : List Dn3)).map dn3AV), iT c2.next, iT c2.quota, iT c2.calls, sT (F.map intAV)]), (e, zR ((stepF s).1))])
 
  have hnd : ([b83, r, e] : List Nat).Nodup := by simp at hNv2 ⊢; omega
  have hT8 : HidR thgAV m [r, e] [(b83, .cells (flatK thgAV zs83))] (.ms ⟨b83, 0, none⟩ ((vals c).length + 1) zs83.length) (vals c ++ [(⟨c.next, kind, v⟩ : Thg)]) := HidR.row hFb83 (by simp at hnd ⊢; omega) hlb83 (htb83.trans (by rw [hv]))
  rw [← vals_put hcl] at hT8
  subst hc2
  have h8 := hK _ (createD_8 (by omega) (by assumption) hs0 hb0 htk0 (by omega)) _ _ hT8
  rw [hid_front (m := m) (b := b83) (by simpa using hnd)]
  exact Eq.mp (cgA (fun o => K (.tuple [iT c.next, iT 0]) ((m.wth [(b83, .cells (flatK thgAV zs83))]).wth [(r, o), (e, rObj (rT q (stepF s).1))])) (rcObj_put htk0 _ _ _)) h8
end Go.Proofs
