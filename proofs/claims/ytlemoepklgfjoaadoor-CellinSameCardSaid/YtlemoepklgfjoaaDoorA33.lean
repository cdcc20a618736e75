/-
  The arguments of a law: each that came in and reads as data is a tree; and they read so behind the call.
-/
import Derived.Test.YtlemoepklgfjoaaDoorA32
import Derived.WideShapes
import Derived.OpenShut
namespace Go.Av
open Go.WideShapes
section
variable {H : Type} {enc : TypeId × Value → H} {P : Program} {W : World}

theorem argT {d fuel : Nat} {t : TypeId} {τ : Ty} {base : Nat} {v : Value} {x : DataW H × List MemPlace} (ht : tyOf P d t τ = true) (ho : Value.okWide P W .any base t v)
    (hx : DataW.trod enc P W 0 (fun _ => true) true fuel t v.cells.toList = some x) :
    ∃ y : τ.T, AVV (memOf W) (fun _ => none) (.tv τ y) v ∧ wfT τ y ∧ ∀ (W' : World) (sp : Nat → Bool), (∀ a v, W.cell? a = some v → W'.cell? a = some v) → (∀ p ∈ x.2, sp p.block = true) → DataW.trod enc P W' 0 sp true fuel t v.cells.toList = some x := by
  obtain ⟨y, t0, w0, k0⟩ := openT d fuel t τ _ _ ht hx
  refine ⟨y, AVV_tv.2 ⟨_, t0, ?_⟩, w0, k0⟩
  cases d with
  | zero => cases ht
  | succ d =>
    unfold tyOf at ht
    split at ht
    · rename_i k hu
      split at ht
      · obtain ⟨n, rfl⟩ := okWide_int hu ho; rfl
      · cases ht
    · rename_i hu
      split at ht
      · obtain ⟨n, rfl⟩ := okWide_bool hu ho; rfl
      · cases ht
    · rename_i hu
      split at ht
      · obtain ⟨n, rfl⟩ := okWide_string hu ho; rfl
      · cases ht
    · rename_i e hu
      split at ht
      · obtain ⟨a, l, c, rfl⟩ := okWide_slice hu ho; rfl
      · cases ht
    · rename_i n e hu
      split at ht
      · unfold Value.okWide at ho
        rw [hu] at ho
        obtain ⟨cs, rfl, _⟩ := ho
        simp [VofC, AV.isAgg, Ty.isAgg, Value.cells]
      · cases ht
    · rename_i fs hu
      unfold Value.okWide at ho
      rw [hu] at ho
      obtain ⟨cs, rfl, _⟩ := ho
      have : τ.isAgg = true := by
        cases τ <;> first | rfl | (simp only [Bool.and_eq_true] at ht; obtain ⟨h1, _⟩ := ht; unfold tyFs at h1; split at h1 <;> simp_all)
      simp [VofC, AV.isAgg, Value.cells, this]
    · cases ht
end
end Go.Av
