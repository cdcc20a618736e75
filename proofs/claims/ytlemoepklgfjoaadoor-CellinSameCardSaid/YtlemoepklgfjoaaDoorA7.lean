/-
  Each operation of the abstract machine is the machine's: numbers, texts, tests.
-/
import Derived.Test.YtlemoepklgfjoaaDoorA6
namespace Go.Av
section
variable {P : Program}

theorem run_eqGuard_plain (op : BinOp) (t : TypeId) (x y : Operand) (a b : Value) (w : World) (h1 : a.oneCell' = true) (h2 : a ≠ .nilIface) : (eqGuard op t x y a b).run P w = .ok () w := by
  unfold eqGuard
  split
  · rw [if_neg (by simp)]
    cases a <;> first | rfl | (exact absurd rfl h2) | (cases h1)
  · rw [if_neg (by simp)]
    cases a <;> first | rfl | (exact absurd rfl h2) | (cases h1)
  · rw [if_pos (by simp)]; rfl

theorem beq_dec (x y : List UInt8) : (x == y) = decide (x = y) := by rw [Bool.eq_iff_iff]; simp

theorem bin_int {op : BinOp} {T : TypeId} {k k' : IntKind} {x y : Int} {v : AV} {u : Upd} {w : World} {x' y' : Operand} (h : binI op k k' x y (fun v => some (v, U0)) = some (v, u)) {c : Ctx} {M : Mem} {μ : Map} {H : Hp} {nid : Nat} (hH : Hold c M μ H w) {r : Result Next}
    (hr : r = (((eqGuard op T x' y' (.int k x) (.int k' y)).run P w).andThen (fun _ w' => ((binOp op T (.int k x) (.int k' y)).run P w'))).andThen fun v w' => .ok (.value v) w') : OpOk c M μ H nid r v u := by
  rw [run_eqGuard_plain op T x' y' _ _ w rfl (by intro h; cases h), Result.andThen_ok] at hr
  unfold binI at h
  split at h
  · cases hy : decide (y < 0) with
    | true => simp [hy] at h
    | false =>
      rw [hy] at h
      have hy' : ¬ y < 0 := of_decide_eq_false hy
      simp only [cond_false, Option.some.injEq, Prod.mk.injEq] at h
      obtain ⟨rfl, rfl⟩ := h
      refine OpOk.same hH (v' := .int k (shlI k x y)) ?_ (AVV_int.2 rfl)
      rw [hr]
      simp [binOp, Op.shift, hy', shlI]
  · cases hy : decide (y < 0) with
    | true => simp [hy] at h
    | false =>
      rw [hy] at h
      have hy' : ¬ y < 0 := of_decide_eq_false hy
      simp only [cond_false, Option.some.injEq, Prod.mk.injEq] at h
      obtain ⟨rfl, rfl⟩ := h
      refine OpOk.same hH (v' := .int k (shrI k x y)) ?_ (AVV_int.2 rfl)
      rw [hr]
      simp [binOp, Op.shift, hy', shrI]
  · cases hk : kEq k k' with
    | false => simp [hk] at h
    | true =>
      have : k = k' := of_decide_eq_true hk
      subst this
      rw [hk] at h
      simp only [cond_true] at h
      split at h
      case h_4 =>
        cases hy : decide (y = 0) with
        | true => simp [hy] at h
        | false =>
          rw [hy] at h
          have hy' : ¬ y = 0 := of_decide_eq_false hy
          simp only [cond_false, Option.some.injEq, Prod.mk.injEq] at h
          obtain ⟨rfl, rfl⟩ := h
          refine OpOk.same hH (v' := .int k (k.wrap (x.tdiv y))) ?_ (AVV_int.2 rfl)
          rw [hr]
          simp [binOp, Op.intDiv, hy']
      case h_5 =>
        cases hy : decide (y = 0) with
        | true => simp [hy] at h
        | false =>
          rw [hy] at h
          have hy' : ¬ y = 0 := of_decide_eq_false hy
          simp only [cond_false, Option.some.injEq, Prod.mk.injEq] at h
          obtain ⟨rfl, rfl⟩ := h
          refine OpOk.same hH (v' := .int k (x.tmod y)) ?_ (AVV_int.2 rfl)
          rw [hr]
          simp [binOp, Op.intDiv, hy']
      case h_16 => cases h
      all_goals
        simp only [Option.some.injEq, Prod.mk.injEq] at h
        obtain ⟨rfl, rfl⟩ := h
      case h_1 => exact OpOk.same hH (v' := .int k (k.wrap (x + y))) (by rw [hr]; simp [binOp, Op.intArith]) (AVV_int.2 rfl)
      case h_2 => exact OpOk.same hH (v' := .int k (k.wrap (x - y))) (by rw [hr]; simp [binOp, Op.intArith]) (AVV_int.2 rfl)
      case h_3 => exact OpOk.same hH (v' := .int k (k.wrap (x * y))) (by rw [hr]; simp [binOp, Op.intArith]) (AVV_int.2 rfl)
      case h_6 => exact OpOk.same hH (v' := .int k (bitop .and k x y)) (by rw [hr]; simp [binOp, Op.intBits, bitop]) (AVV_int.2 rfl)
      case h_7 => exact OpOk.same hH (v' := .int k (bitop .or k x y)) (by rw [hr]; simp [binOp, Op.intBits, bitop]) (AVV_int.2 rfl)
      case h_8 => exact OpOk.same hH (v' := .int k (bitop .xor k x y)) (by rw [hr]; simp [binOp, Op.intBits, bitop]) (AVV_int.2 rfl)
      case h_9 => exact OpOk.same hH (v' := .int k (bitop .andNot k x y)) (by rw [hr]; simp [binOp, Op.intBits, bitop]) (AVV_int.2 rfl)
      case h_10 => exact OpOk.same hH (v' := .bool (decide (x = y))) (by rw [hr]; simp [binOp, Op.intCmp]; rfl) (AVV_bool.2 rfl)
      case h_11 => exact OpOk.same hH (v' := .bool (!decide (x = y))) (by rw [hr]; simp [binOp, Op.intCmp]; rfl) (AVV_bool.2 rfl)
      case h_12 => exact OpOk.same hH (v' := .bool (decide (x < y))) (by rw [hr]; simp [binOp, Op.intCmp]) (AVV_bool.2 rfl)
      case h_13 => exact OpOk.same hH (v' := .bool (decide (x ≤ y))) (by rw [hr]; simp [binOp, Op.intCmp]) (AVV_bool.2 rfl)
      case h_14 => exact OpOk.same hH (v' := .bool (decide (y < x))) (by rw [hr]; simp [binOp, Op.intCmp]) (AVV_bool.2 rfl)
      case h_15 => exact OpOk.same hH (v' := .bool (decide (y ≤ x))) (by rw [hr]; simp [binOp, Op.intCmp]) (AVV_bool.2 rfl)

theorem toList_arr (s : List UInt8) : (ByteArray.mk s.toArray).toList = s := by
  rw [ByteArray.toList_eq]

theorem size_arr (s : List UInt8) : (ByteArray.mk s.toArray).size = s.length := by
  simp [ByteArray.size]

theorem append_arr (s t : List UInt8) : (ByteArray.mk s.toArray) ++ (ByteArray.mk t.toArray) = ByteArray.mk (s ++ t).toArray := by
  apply ByteArray.ext
  simp

theorem bin_str {op : BinOp} {T : TypeId} {x y : List UInt8} {v : AV} {u : Upd} {w : World} {x' y' : Operand} (h : binS op x y (fun v => some (v, U0)) = some (v, u)) {c : Ctx} {M : Mem} {μ : Map} {H : Hp} {nid : Nat} (hH : Hold c M μ H w) {r : Result Next}
    (hr : r = (((eqGuard op T x' y' (.string ⟨x.toArray⟩) (.string ⟨y.toArray⟩)).run P w).andThen (fun _ w' => ((binOp op T (.string ⟨x.toArray⟩) (.string ⟨y.toArray⟩)).run P w'))).andThen fun v w' => .ok (.value v) w') : OpOk c M μ H nid r v u := by
  rw [run_eqGuard_plain op T x' y' _ _ w rfl (by intro h; cases h), Result.andThen_ok] at hr
  unfold binS at h
  split at h
  · cases hy : decide (x.length + y.length ≤ strMax) with
    | false => simp [hy] at h
    | true =>
      rw [hy] at h
      have hy' : x.length + y.length ≤ strMax := of_decide_eq_true hy
      simp only [cond_true, Option.some.injEq, Prod.mk.injEq] at h
      obtain ⟨rfl, rfl⟩ := h
      refine OpOk.same hH (v' := .string ⟨(x ++ y).toArray⟩) ?_ (AVV_str.2 rfl)
      rw [hr]
      have h63 : ¬ (IntKind.i64.max < (((ByteArray.mk x.toArray).size + (ByteArray.mk y.toArray).size : Nat) : Int)) := by
        rw [size_arr, size_arr]
        have : IntKind.i64.max = 9223372036854775807 := by decide
        rw [this]
        simp only [strMax] at hy'
        omega
      simp only [binOp, Op.stringOp, Sem.run_pure, gt_iff_lt, h63, if_false, append_arr, Result.andThen_ok]
  · simp only [Option.some.injEq, Prod.mk.injEq] at h
    obtain ⟨rfl, rfl⟩ := h
    refine OpOk.same hH (v' := .bool (decide (x = y))) ?_ (AVV_bool.2 rfl)
    rw [hr]
    simp only [binOp, Op.stringOp, Sem.run_pure, Result.andThen_ok, toList_arr, beq_dec]
  · simp only [Option.some.injEq, Prod.mk.injEq] at h
    obtain ⟨rfl, rfl⟩ := h
    refine OpOk.same hH (v' := .bool (!decide (x = y))) ?_ (AVV_bool.2 rfl)
    rw [hr]
    simp only [binOp, Op.stringOp, Sem.run_pure, Result.andThen_ok, toList_arr, beq_dec]
  · cases h

theorem sound_bin (op : BinOp) (x y : Opd) : Sound P (.bin op x y) := by
  intro c M μ G S a w nid o v u hp hm hr _
  generalize hq : o.op = q at hm
  cases q <;> simp only [mop, Bool.false_eq_true, Bool.and_eq_true, binEq, decide_eq_true_eq] at hm
  rename_i op' T x' y' T'
  obtain ⟨⟨h1, h2⟩, h3⟩ := hm
  subst h1
  have hx := mo_ok hp.glob hp.env h2
  have hy := mo_ok hp.glob hp.env h3
  simp only [aopO, aop] at hr
  unfold binV at hr
  split at hr
  · rename_i k m k' n e1 e2
    rw [e1, AVV_int] at hx
    rw [e2, AVV_int] at hy
    exact bin_int hr hp.hold (P := P) (T := T) (x' := x') (y' := y') (by simp only [execOp, hq, hx, hy, Sem.run_bind, Sem.run_pure])
  · rename_i m n e1 e2
    rw [e1, AVV_str] at hx
    rw [e2, AVV_str] at hy
    exact bin_str hr hp.hold (P := P) (T := T) (x' := x') (y' := y') (by simp only [execOp, hq, hx, hy, Sem.run_bind, Sem.run_pure])
  · cases hr

end
end Go.Av
