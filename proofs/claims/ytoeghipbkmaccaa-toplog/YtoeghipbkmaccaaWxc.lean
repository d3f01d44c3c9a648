/-
  The abstract layer, part 29: memory that is read where the order is open.
-/
import Derived.Test.YtoeghipbkmaccaaWxa
namespace Go.Aw
open Go

section
variable {P : Program} {fr : Fr} {m : AMem} {ops : Array Oper} {cs : List AV} {r : List Oper} {KK : Fr → Prop} {d : Nat} {ty : TypeId} {pos : String} {af : Array Edge} {gd : Option (Nat × Bool)} {L : List (Nat × AObj)}

theorem pq_loadp (hg : gOn ops fr gd = some true) {t : TypeId} {x : Operand} {b off : Nat} {l : List AV} {v : AV} (hx : evP (rawOf fr) x = .ptr ⟨b, off, none⟩) (hm : m.wth L b = some (.cells l)) (hok : apartOk P t l off) (hv : (apart P t l off).plain = v)
    (h : pseq P ops (m.wth L) cs r (fr.put d v) KK) : pseq P ops (m.wth L) cs (⟨some d, .load t x, ty, pos, af, gd⟩ :: r) fr KK :=
  pq_qv hg (side := apartOk P t l off) (x := (apart P t l off).plain) rfl (by simp only [qv, hx, hm]) hok hv h

theorem pq_loadm (hg : gOn ops fr gd = some true) {α : Type} [Inhabited α] (f : α → AV) (xs : List α) (k : Int) {t : TypeId} {x : Operand} {b : Nat} {c : Nat} (hx : evP (rawOf fr) x = .ptr ⟨b, 0 + k.toNat * c, none⟩) (hc : c = 1) (hm : m.wth L b = some (.cells (xs.map f))) (hU : isU P t = true) (hA : aggT P t = false)
    (hp : ∀ a, (f a).plain = f a) (h0 : 0 ≤ k) (h1 : k < xs.length) (h : pseq P ops (m.wth L) cs r (fr.put d (f (gI xs k))) KK) : pseq P ops (m.wth L) cs (⟨some d, .load t x, ty, pos, af, gd⟩ :: r) fr KK := by
  subst hc
  have e : 0 + k.toNat * 1 = k.toNat := by omega
  rw [e] at hx
  refine pq_loadp hg hx hm (apartOk_one hU hA (by simp; omega)) ?_ h
  simp only [apart, hA]
  rw [show (if false = true then AV.agg (List.take (P.cellsOf t) (List.drop k.toNat (List.map f xs))) else (List.map f xs).getD k.toNat AV.junk) = (List.map f xs).getD k.toNat AV.junk from if_neg (by simp), idx_eq f xs k h0 h1, hp]

end
end Go.Aw
