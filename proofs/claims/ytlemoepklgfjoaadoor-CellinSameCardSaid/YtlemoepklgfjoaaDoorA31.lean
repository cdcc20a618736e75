/-
  A law's function: where its typed form answers true, the machine's call does, and leaves the old memory as it was.
-/
import Derived.Test.YtlemoepklgfjoaaDoorA30
import Derived.RowKit3
namespace Go.Av
open Go.RowKit
section
variable {P : Program} {G : Nat → AV}

theorem law_calls {f : FuncId} {E : UEntry} (hE : FU P G f E) {args : List AV} (hr : E args [] (fun _ o _ => some o) = some [.tv .bool true]) {W : World} {vs : List Value} (hG : GlobOk (memOf W) G) (ha : AVs (memOf W) (fun _ => none) args vs) :
    Calls P f vs.toArray W fun e W' => e = .returned (.bool true) ∧ Grown W W' ∧ ∀ a v, W.cell? a = some v → W'.cell? a = some v := by
  have h0 : Hold ⟨W, fun _ => False, memOf W⟩ (memOf W) (fun _ => none) (enumB 0 []) W := {
    mem := fun b o v h => h
    blks := fun i k h => by simp [enumB, hget, alGet] at h
    inj := fun i j k k' l l' b h => by simp [enumB, hget, alGet] at h
    exc := fun i k l b o v h => by simp [enumB, hget, alGet] at h
    own := fun i k l b h => by simp [enumB, hget, alGet] at h
    mle := Mem.le.refl _
    mown := fun b o v h => .inl h
    os := rfl
    tape := rfl
    output := rfl
    size := Nat.le_refl _
    frame := fun b hb hn => rfl
    fz := fun a => rfl }
  refine ((hE hr).2 (c := ⟨W, fun _ => False, memOf W⟩) rfl rfl h0 hG ha (fun i _ => rfl)).mono ?_
  rintro e W' ⟨v, out, blks', M', μ', rfl, hK, hH, hv, _⟩
  have hK : out = .tv .bool true := by simpa using hK
  rw [hK, AVV_bool] at hv
  subst hv
  refine ⟨rfl, ⟨⟨hH.os, hH.output, fun i hi => ?_⟩, hH.fz, hH.size⟩, fun a v ha => by
    have hb := World.block_lt_of_cell? W _ ha
    unfold World.cell? at ha ⊢
    rw [hH.frame a.block hb (fun h => h)]
    exact ha⟩
  rw [hH.frame i hi (fun h => h)]
  cases hq : W.heap[i]? with
  | none => rfl
  | some o => cases o <;> simp
end
end Go.Av
