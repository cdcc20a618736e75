/-
  What a step tells does not hang on what is done with it.
-/
import Derived.Test.YtlemoepklgfjoaaDoorA18
namespace Go.Av
section
variable {R : Type}

theorem binI_nat (op : BinOp) (k k' : IntKind) (x y : Int) (f : AV → AV × Upd) (K : AV × Upd → Option R) : binI op k k' x y (fun v => K (f v)) = (binI op k k' x y fun v => some (f v)).bind K := by
  unfold binI
  split
  · cases decide (y < 0) <;> rfl
  · cases decide (y < 0) <;> rfl
  · cases kEq k k'
    · rfl
    · simp only [cond_true]
      split <;> first | rfl | (cases decide (y = 0) <;> rfl)

theorem binS_nat (op : BinOp) (x y : List UInt8) (f : AV → AV × Upd) (K : AV × Upd → Option R) : binS op x y (fun v => K (f v)) = (binS op x y fun v => some (f v)).bind K := by
  unfold binS
  split
  · cases decide (x.length + y.length ≤ strMax) <;> rfl
  · rfl
  · rfl
  · rfl

theorem bnds_nat (n : Nat) (lo hi : Option AV) (f : Nat → Nat → AV × Upd) (K : AV × Upd → Option R) : bnds n lo hi (fun l h => K (f l h)) = (bnds n lo hi fun l h => some (f l h)).bind K := by
  unfold bnds
  split
  · rfl
  · rename_i k l; cases decide (0 ≤ (l : Int) ∧ (l : Int) ≤ n) <;> rfl
  · rename_i k h; cases decide (0 ≤ (h : Int) ∧ (h : Int) ≤ n) <;> rfl
  · rename_i k l k' h; cases decide (0 ≤ (l : Int) ∧ (l : Int) ≤ h ∧ (h : Int) ≤ n) <;> rfl
  · rfl

theorem cond_nat {α : Type} {b : Bool} {A B : Option R} {A' B' : Option α} {K : α → Option R} (hA : A = A'.bind K) (hB : B = B'.bind K) : (bif b then A else B) = (bif b then A' else B').bind K := by
  cases b
  · exact hB
  · exact hA

theorem aop_nat (G : Nat → AV) (op : AOp) (S : St) (nid : Nat) (K : AV → Upd → Option R) : aop G op S nid K = (aop G op S nid fun v u => some (v, u)).bind fun p => K p.1 p.2 := by
  cases op with
  | bin op x y =>
    simp only [aop, binV]
    split
    · exact binI_nat op _ _ _ _ (fun v => (v, U0)) (fun p => K p.1 p.2)
    · exact binS_nat op _ _ (fun v => (v, U0)) (fun p => K p.1 p.2)
    · rfl
  | slis x lo hi =>
    simp only [aop]
    split
    · exact bnds_nat _ _ _ (fun l h => (_, U0)) (fun p => K p.1 p.2)
    · rfl
  | slia e x lo hi =>
    simp only [aop]
    split
    · exact bnds_nat _ _ _ (fun l h => (_, _)) (fun p => K p.1 p.2)
    · rfl
  | _ =>
    simp only [aop, eqaV, eqbV, eqpV, eqfV, unV]
    repeat' (first | rfl | exact cond_nat ?_ ?_ | split | refine cond_nat ?_ ?_)

end
end Go.Av
