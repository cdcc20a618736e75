/-
  The package-level tables of a row, as they lie.
-/
import Derived.Test.YtlemoepklgfjoaaDoorA31
import Derived.Lib.LaidTab
namespace Go.Av
open Go.Lib
section
variable {P : Program}

theorem laid_at {w : World} : ∀ {laid : List (String × DataW Unit)} {ps : List MemPlace}, DataW.LaidVars P w laid ps → ∀ (i : Nat) (n : String) (d : DataW Unit), laid[i]? = some (n, d) → ∃ ps', DataW.LaidVars P w [(n, d)] ps'
  | [], _, _, i, n, d, h => by simp at h
  | (n0, d0) :: r, ps, h, i, n, d, hi => by
    obtain ⟨g, t, cs, fuel, p, q, h1, h2, h3, h4, h5, h6⟩ := h
    cases i with
    | zero =>
      simp only [List.getElem?_cons_zero, Option.some.injEq, Prod.mk.injEq] at hi
      obtain ⟨rfl, rfl⟩ := hi
      exact ⟨_, g, t, cs, fuel, p, [], h1, h2, h3, h4, rfl, rfl⟩
    | succ i => exact laid_at h5 i n d (by simpa using hi)

/-- A table of whole numbers, wherever it stands on the list. -/
theorem tab_fp {W : World} {laid : List (String × DataW Unit)} {name : String} {k : IntKind} {zs : List Int} {g : Nat} {t e : TypeId} {n i : Nat}
    (hg : P.globalNamed name = some g) (hty : (P.globals[g]?).map (·.type) = some t) (ht : P.underlying t = some (.array n e)) (he : P.underlying e = some (.int k)) (hce : P.cellsOf e = 1) (hct : P.cellsOf t = n)
    (hl : laid[i]? = some (name, tabData k zs)) (hz : zs.length = n) (h : laidMet P laid W) : ∀ μ, AVV (memOf W) μ (.fp (.arr n (.int k)) zs) (.pointer (some ⟨g, 0, none⟩)) := by
  intro μ
  obtain ⟨ps, h1, _⟩ := h
  obtain ⟨ps', h2⟩ := laid_at h1 i _ _ hl
  obtain ⟨g', t', cs, fuel, p, q, hg', ht', hvar, hd, _, _⟩ := h2
  obtain rfl := Option.some.inj (hg.symm.trans hg')
  obtain rfl := Option.some.inj (hty.symm.trans ht')
  have htab : TabIs P W name k zs := by
    unfold TabIs
    rw [hvar, ← cells_of_tab ht he hce hct hd]
  rw [AVV_fp]
  refine ⟨g, 0, zs.map (.int k), rfl, ⟨hz, ?_⟩, fun j v hv => ?_⟩
  · clear hz htab hd hl h1
    induction zs with
    | nil => rfl
    | cons z zs ih => exact ⟨[.int k z], zs.map (.int k), rfl, rfl, ih⟩
  · simp only [List.getElem?_map, Option.map_eq_some_iff] at hv
    obtain ⟨z, hz1, rfl⟩ := hv
    have hj := (List.getElem?_eq_some_iff.1 hz1).1
    have := htab.cell hg j hj
    rw [List.getD_eq_getElem?_getD, hz1] at this
    simpa [memOf] using this
end
end Go.Av
