/-
  The abstract layer, part 16: a whole function: from its text over abstract frames to what a call does.
-/
import Derived.Test.YtoeghipbkmaccaaWwO
namespace Go.Aw
open Go

section
variable {P : Program} {F : Nat → Prop} {lim : Nat → Nat} {w : World} {n : Nat} {fr : Fr} {m : AMem} {ca : Act} {fl : List Nat}

theorem St.toMem (h : St F lim w n fr m ca fl) : St F lim w 0 [] m noAct fl := by
  obtain ⟨os, om, ow, h⟩ := h
  exact ⟨os, om, ow, rfl, rfl, fun t x hx => by simp [Fr.get] at hx, h.mem, fun t x hx => by simp [Fr.get] at hx, h.ownM, h.ownF, h.free, h.fresh⟩

theorem St.defers (h : St F lim w n fr m ca fl) : ca.defers = [] := by
  obtain ⟨os, om, ow, h⟩ := h
  exact h.defers

theorem St.takeAny (h : St F lim w n fr m ca []) (s : Nat) : ∃ os, St F lim w 0 [] m noAct os ∧ Rep w lim (ca.tmps.getD s undef) (rawOf fr s) os := by
  cases hg : fr.get s with
  | none => exact ⟨[], h.toMem, by simp [rawOf, hg]; exact .junk _⟩
  | some x =>
    obtain ⟨os, h1, h2⟩ := h.take hg
    exact ⟨os, h1.toMem, by simpa [rawOf, hg] using h2⟩

/-- The value of one result. -/
def resRun (P : Program) (tmps : Array Value) (w : World) (v : Value) : ResultVar → Prop
  | .tmp t => v = tmps.getD t undef
  | .cell a t => ∃ p, tmps.getD a undef = .pointer (some p) ∧ (loadVar t p).run P w = .ok v w

theorem resOf_sound {r : ResultVar} {side : Prop} {x : AV} (h : resOf P fr m r = some (side, x)) (hs : side) (st : St F lim w n fr m ca []) : ∃ v os, resRun P ca.tmps w v r ∧ St F lim w 0 [] m noAct os ∧ Rep w lim v x os := by
  cases r with
  | tmp t =>
    obtain ⟨rfl, rfl⟩ := some_inj h
    obtain ⟨os, h1, h2⟩ := st.takeAny t
    exact ⟨_, os, rfl, h1, h2⟩
  | cell a t =>
    simp only [resOf] at h
    split at h
    · next b off hraw =>
      split at h
      · next l hm =>
        obtain ⟨rfl, rfl⟩ := some_inj h
        obtain ⟨os, hM⟩ := st.memRep b _ hm
        obtain ⟨cs, e, oss, hbl, hsz, hr⟩ := mrep_cells_inv hM
        have hp : ca.tmps.getD a undef = .pointer (some ⟨b, off, none⟩) := by
          obtain ⟨os', _, h2⟩ := st.takeAny a
          rw [hraw] at h2
          exact rep_ptr_inv h2
        obtain ⟨v, h1, h2⟩ := load_sound (P := P) (w := w) (lim := lim) (t := t) (b := b) (off := 0) (l := AV.plainL l) (f := fun i => cs.getD i undef) (k := off) (by simpa [apartOk, AV.plainL_eq] using hs)
          (fun i hi => by
            have hi' : i < cs.size := by simpa [AV.plainL_eq, hsz] using hi
            simp [World.cell?, hbl, Array.getD, hi'])
          (fun i hi => by rw [getD_map_plain]; exact (hr i (by simpa [AV.plainL_eq] using hi)).plain)
        simp only [Nat.zero_add] at h1
        have : apart P t (AV.plainL l) off = (apart P t l off).plain := by
          unfold apart
          split
          · simp [AV.plain, AV.plainL_eq, List.map_drop, List.map_take]
          · rw [getD_map_plain]
        exact ⟨v, [], ⟨_, hp, h1⟩, st.toMem, by rw [← this]; exact h2⟩
      · cases h
    · cases h

def resSem (tmps : Array Value) : ResultVar → Sem Value
  | .tmp t => pure (tmps.getD t undef)
  | .cell a t => do loadVar t (← asAddr (tmps.getD a undef))

theorem results_eq (fn : Func) (tmps : Array Value) : results fn tmps = (do let vs ← fn.results.mapM (resSem tmps); pure (if h : vs.size = 1 then vs[0] else .tuple vs) : Sem Value) := by
  unfold results
  congr 1

theorem resRun_run {tmps : Array Value} {v : Value} {r : ResultVar} (h : resRun P tmps w v r) : (resSem tmps r).run P w = .ok v w := by
  cases r with
  | tmp t => simp only [resRun] at h; subst h; rfl
  | cell a t =>
    obtain ⟨p, h1, h2⟩ := h
    simp [resSem, h1, asAddr, h2]

theorem results_run1 {fn : Func} {tmps : Array Value} {r : ResultVar} {v : Value} (hf : fn.results.toList = [r]) (h : resRun P tmps w v r) : (results fn tmps).run P w = .ok v w := by
  have e : fn.results = #[r] := by apply Array.ext'; simpa using hf
  rw [results_eq, e]
  simp [resRun_run h]

theorem results_run2 {fn : Func} {tmps : Array Value} {r s : ResultVar} {v u : Value} (hf : fn.results.toList = [r, s]) (h : resRun P tmps w v r) (k : resRun P tmps w u s) : (results fn tmps).run P w = .ok (.tuple #[v, u]) w := by
  have e : fn.results = #[r, s] := by apply Array.ext'; simpa using hf
  rw [results_eq, e]
  simp [resRun_run h, resRun_run k]

theorem results_run3 {fn : Func} {tmps : Array Value} {r s t : ResultVar} {v u x : Value} (hf : fn.results.toList = [r, s, t]) (h : resRun P tmps w v r) (k : resRun P tmps w u s) (j : resRun P tmps w x t) : (results fn tmps).run P w = .ok (.tuple #[v, u, x]) w := by
  have e : fn.results = #[r, s, t] := by apply Array.ext'; simpa using hf
  rw [results_eq, e]
  simp [resRun_run h, resRun_run k, resRun_run j]

theorem rep_tuple2 {v u : Value} {x y : AV} (h : Rep w lim v x []) (k : Rep w lim u y []) : Rep w lim (.tuple #[v, u]) (.tuple [x, y]) [] := by
  have := Rep.tuple (w := w) (lim := lim) #[v, u] [x, y] (fun _ => []) (by simp) (fun i hi => by
    have : i = 0 ∨ i = 1 := by simp at hi; omega
    rcases this with rfl | rfl
    · exact h
    · exact k)
  rw [flatMap_nil] at this
  exact this

theorem rep_tuple3 {v u s : Value} {x y z : AV} (h : Rep w lim v x []) (k : Rep w lim u y []) (j : Rep w lim s z []) : Rep w lim (.tuple #[v, u, s]) (.tuple [x, y, z]) [] := by
  have := Rep.tuple (w := w) (lim := lim) #[v, u, s] [x, y, z] (fun _ => []) (by simp) (fun i hi => by
    have : i = 0 ∨ i = 1 ∨ i = 2 := by simp at hi; omega
    rcases this with rfl | rfl | rfl
    · exact h
    · exact k
    · exact j)
  rw [flatMap_nil] at this
  exact this

theorem results_run4 {fn : Func} {tmps : Array Value} {r s t q : ResultVar} {v u x y : Value} (hf : fn.results.toList = [r, s, t, q]) (h : resRun P tmps w v r) (k : resRun P tmps w u s) (j : resRun P tmps w x t) (i : resRun P tmps w y q) : (results fn tmps).run P w = .ok (.tuple #[v, u, x, y]) w := by
  have e : fn.results = #[r, s, t, q] := by apply Array.ext'; simpa using hf
  rw [results_eq, e]
  simp [resRun_run h, resRun_run k, resRun_run j, resRun_run i]

theorem rep_tuple4 {v u s t : Value} {x y z a : AV} (h : Rep w lim v x []) (k : Rep w lim u y []) (j : Rep w lim s z []) (l : Rep w lim t a []) : Rep w lim (.tuple #[v, u, s, t]) (.tuple [x, y, z, a]) [] := by
  have := Rep.tuple (w := w) (lim := lim) #[v, u, s, t] [x, y, z, a] (fun _ => []) (by simp) (fun i hi => by
    have : i = 0 ∨ i = 1 ∨ i = 2 ∨ i = 3 := by simp at hi; omega
    rcases this with rfl | rfl | rfl | rfl
    · exact h
    · exact k
    · exact j
    · exact l)
  rw [flatMap_nil] at this
  exact this

theorem rep_tuple2o {v u : Value} {x y : AV} {os : List Nat} (h : Rep w lim v x os) (k : Rep w lim u y []) : Rep w lim (.tuple #[v, u]) (.tuple [x, y]) os := by
  have := Rep.tuple (w := w) (lim := lim) #[v, u] [x, y] (fun i => if i = 0 then os else []) (by simp) (fun i hi => by
    have : i = 0 ∨ i = 1 := by simp at hi; omega
    rcases this with rfl | rfl
    · exact h
    · exact k)
  simpa [List.range_succ] using this

theorem rep_tuple3o {v u s : Value} {x y z : AV} {os : List Nat} (h : Rep w lim v x os) (k : Rep w lim u y []) (j : Rep w lim s z []) : Rep w lim (.tuple #[v, u, s]) (.tuple [x, y, z]) os := by
  have := Rep.tuple (w := w) (lim := lim) #[v, u, s] [x, y, z] (fun i => if i = 0 then os else []) (by simp) (fun i hi => by
    have : i = 0 ∨ i = 1 ∨ i = 2 := by simp at hi; omega
    rcases this with rfl | rfl | rfl
    · exact h
    · exact k
    · exact j)
  simpa [List.range_succ] using this

theorem resK_sound {fn : Func} {K : AV → AMem → Prop} (h : resK P fn fr m K) (st : St F lim w n fr m ca []) :
    ∃ v x m' os, (results fn ca.tmps).run P w = .ok v w ∧ K x m' ∧ Rep w lim v x os ∧ St F lim w 0 [] m' noAct os := by
  unfold resK at h
  split at h
  · next r hr =>
    split at h
    · next side x he =>
      obtain ⟨hs, m', hm, hK⟩ := h
      obtain ⟨v, os, h1, h2, h3⟩ := resOf_sound (P := P) he hs st
      exact ⟨v, x, m', os, results_run1 hr h1, hK, h3, h2.memSub hm⟩
    · exact h.elim
  · next r s hr =>
    split at h
    · next side x side' y he he' =>
      obtain ⟨hs, hs', m', hm, hK⟩ := h
      obtain ⟨v, os, h1, h2, h3⟩ := resOf_sound (P := P) he hs st
      obtain ⟨u, os', k1, k2, k3⟩ := resOf_sound (P := P) he' hs' st
      exact ⟨_, _, m', os, results_run2 hr h1 k1, hK, rep_tuple2o h3 k3.plain, h2.memSub hm⟩
    · exact h.elim
  · next r s t hr =>
    split at h
    · next side x side' y side'' z he he' he'' =>
      obtain ⟨hs, hs', hs'', m', hm, hK⟩ := h
      obtain ⟨v, os, h1, h2, h3⟩ := resOf_sound (P := P) he hs st
      obtain ⟨u, os', k1, k2, k3⟩ := resOf_sound (P := P) he' hs' st
      obtain ⟨s, os'', j1, j2, j3⟩ := resOf_sound (P := P) he'' hs'' st
      exact ⟨_, _, m', os, results_run3 hr h1 k1 j1, hK, rep_tuple3o h3 k3.plain j3.plain, h2.memSub hm⟩
    · exact h.elim
  · next hr =>
    obtain ⟨m', hm, hK⟩ := h
    have e : fn.results = #[] := by apply Array.ext'; simpa using hr
    refine ⟨.tuple #[], _, m', [], ?_, hK, ?_, st.toMem.memSub hm⟩
    · simp [results, e]
    · have := Rep.tuple (w := w) (lim := lim) #[] [] (fun _ => []) rfl (fun i hi => by simp at hi)
      simpa using this
  · next r s t q hr =>
    split at h
    · next side x side' y side'' z side3 a he he' he'' he3 =>
      obtain ⟨hs, hs', hs'', hs3, m', hm, hK⟩ := h
      obtain ⟨v, os, h1, h2, h3⟩ := resOf_sound (P := P) he hs st
      obtain ⟨u, os', k1, k2, k3⟩ := resOf_sound (P := P) he' hs' st
      obtain ⟨s, os'', j1, j2, j3⟩ := resOf_sound (P := P) he'' hs'' st
      obtain ⟨t, os3, i1, i2, i3⟩ := resOf_sound (P := P) he3 hs3 st
      exact ⟨_, _, m', [], results_run4 hr h1 k1 j1 i1, hK, rep_tuple4 h3.plain k3.plain j3.plain i3.plain, st.toMem.memSub hm⟩
    · exact h.elim
  · exact h.elim

theorem acalls_enter {f : FuncId} {fn : Func} {c : Code} {args : List AV} {K : AV → AMem → Prop} (hf : P.funcs[f]? = some fn) (hb : fn.body = some c) (hname : (fn.name == "runtime.NumGoroutine") = false) (hargs : args.length ≤ fn.ntmps)
    (h : AWP P fn.ntmps c (RetPost P fn K) (Fr.init 0 args) m) : ACalls P f args m K := by
  refine ⟨⟨fn, hf, by rw [hb]; rfl, hname⟩, fun F lim w cargs hs hr st => calls_of_wp hf hb ?_⟩
  have st' : St F lim w fn.ntmps (Fr.init 0 args) m { tmps := cargs ++ Array.replicate (fn.ntmps - cargs.size) undef, defers := [] } [] := by
    obtain ⟨os, om, ow, k⟩ := st
    refine ⟨fun _ => [], om, ow, by simp; omega, rfl, fun t x hx => ?_, k.mem, fun t x hx => by simp, k.ownM, k.ownF, k.free, k.fresh⟩
    obtain ⟨_, h1, h2⟩ := Fr.get_init args 0 t x hx
    simp only [Nat.sub_zero] at h1 h2
    refine ⟨by omega, ?_⟩
    have e : (cargs ++ Array.replicate (fn.ntmps - cargs.size) undef).getD t undef = cargs.getD t undef := by
      simp [Array.getD_eq_getD_getElem?, Array.getElem?_append, show t < cargs.size from by omega]
    rw [e, ← h2]
    exact hr t h1
  refine wp_mono (h F lim w _ st') fun e a w' ⟨lim', fr', m', q, s1, pr⟩ => ?_
  have hret : resK P fn fr' m' K → a.defers = [] ∧ ∃ v, (results fn a.tmps).run P w' = .ok v w' ∧ ∃ v' x lim' m' os, Ending.returned v = .returned v' ∧ K x m' ∧ Rep w' lim' v' x os ∧ St F lim' w' 0 [] m' noAct os ∧ Pres F w lim w' lim' := fun q => by
    obtain ⟨v, x, m'', os, h1, h2, h3, h4⟩ := resK_sound q s1
    exact ⟨s1.defers, v, h1, v, x, lim', m'', os, rfl, h2, h3, h4, pr⟩
  cases e with
  | ret => exact hret q
  | normal => exact hret q
  | _ => exact q.elim

end
end Go.Aw
