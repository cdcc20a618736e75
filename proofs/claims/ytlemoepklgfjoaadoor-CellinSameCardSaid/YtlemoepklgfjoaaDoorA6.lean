/-
  Each operation of the abstract machine is the machine's: those that leave memory alone.
-/
import Derived.Test.YtlemoepklgfjoaaDoorA5
namespace Go.Av

theorem veq_eq {a b : Value} (h : veq a b = true) : a = b := by
  unfold veq at h
  split at h
  · simp only [Bool.and_eq_true, decide_eq_true_eq] at h
    rw [h.1, h.2]
  · simp only [decide_eq_true_eq] at h; rw [h]
  · rename_i s s'
    simp only [decide_eq_true_eq] at h
    congr 1
    obtain ⟨⟨l⟩⟩ := s
    obtain ⟨⟨l'⟩⟩ := s'
    simp at h
    rw [h]
  · simp only [Bool.and_eq_true] at h
    rw [Nat.eq_of_beq_eq_true h.1, Nat.eq_of_beq_eq_true h.2]
  · rfl
  · cases h

theorem takeEq_eq : ∀ {xs cs r : List Value}, takeEq xs cs = some r → cs = xs ++ r
  | [], cs, r, h => by simp only [takeEq, Option.some.injEq] at h; simpa using h
  | x :: xs, [], r, h => by simp [takeEq] at h
  | x :: xs, y :: ys, r, h => by
    simp only [takeEq] at h
    cases hv : veq x y with
    | false => simp [hv] at h
    | true =>
      simp only [hv, cond_true] at h
      rw [← veq_eq hv, takeEq_eq h]; rfl

theorem RowC_replicate {α : Type} {R : α → List Value → Prop} {x : α} {c : List Value} (h : R x c) : ∀ n, RowC R (List.replicate n x) (List.replicate n c).flatten
  | 0 => by simp [RowC]
  | n + 1 => by
    rw [List.replicate_succ, List.replicate_succ, List.flatten_cons]
    exact ⟨c, _, rfl, h, RowC_replicate h n⟩

theorem TC_zero (M : Mem) : ∀ τ : Ty, TC M τ τ.zero (zc τ)
  | .int _ => rfl
  | .bool => rfl
  | .str => rfl
  | .sl _ => ⟨none, 0, rfl, [], rfl, .inl rfl, Nat.le_refl _⟩
  | .arr n e => ⟨by simp [Ty.zero], RowC_replicate (TC_zero M e) n⟩
  | .pr a b => ⟨zc a, zc b, rfl, TC_zero M a, TC_zero M b⟩
  | .nil => rfl

theorem AVV_of {M : Mem} {μ : Map} {a : AV} {c : List Value} {v : Value} (h : AVC M μ a c) (hv : VofC a.isAgg c v) : AVV M μ a v := by
  cases a with
  | dead => trivial
  | tup l => simp only [AVC] at h
  | _ => exact ⟨c, h, hv⟩

theorem AVV_tv {M : Mem} {μ : Map} {τ : Ty} {x : τ.T} {v : Value} : AVV M μ (.tv τ x) v ↔ ∃ c, TC M τ x c ∧ VofC τ.isAgg c v := by
  simp only [AVV, AVC, AV.isAgg]

theorem AVV_int {M : Mem} {μ : Map} {k : IntKind} {n : Int} {v : Value} : AVV M μ (.tv (.int k) n) v ↔ v = .int k n := by
  rw [AVV_tv]
  simp only [TC, VofC, Ty.isAgg, cond_false]
  constructor
  · rintro ⟨c, rfl, h⟩; simpa using h.symm
  · rintro rfl; exact ⟨_, rfl, rfl⟩
theorem AVV_bool {M : Mem} {μ : Map} {b : Bool} {v : Value} : AVV M μ (.tv .bool b) v ↔ v = .bool b := by
  rw [AVV_tv]
  simp only [TC, VofC, Ty.isAgg, cond_false]
  constructor
  · rintro ⟨c, rfl, h⟩; simpa using h.symm
  · rintro rfl; exact ⟨_, rfl, rfl⟩
theorem AVV_str {M : Mem} {μ : Map} {s : List UInt8} {v : Value} : AVV M μ (.tv .str s) v ↔ v = .string ⟨s.toArray⟩ := by
  rw [AVV_tv]
  simp only [TC, VofC, Ty.isAgg, cond_false]
  constructor
  · rintro ⟨c, rfl, h⟩; simpa using h.symm
  · rintro rfl; exact ⟨_, rfl, rfl⟩

theorem cok_ok {M : Mem} {μ : Map} {a : AV} {v : Value} (h : cok a v = true) : AVV M μ a v := by
  unfold cok at h
  split at h
  · simp only [kEq, Bool.and_eq_true, decide_eq_true_eq] at h
    rw [AVV_int, h.1, h.2]
  · simp only [decide_eq_true_eq] at h
    rw [AVV_bool, h]
  · rename_i s s'
    simp only [decide_eq_true_eq] at h
    rw [AVV_str, h]
  · rename_i e xs
    have : xs = [] := by simpa using h
    subst this
    rw [AVV_tv]
    exact ⟨[.slice none 0 0], ⟨none, 0, rfl, [], rfl, .inl rfl, Nat.le_refl _⟩, rfl⟩
  · exact ⟨[.pointer none], by simp only [AVC], rfl⟩
  · exact ⟨[.nilFunc], by simp only [AVC], rfl⟩
  · cases h

/-- The package-level tables, as they lie. -/
def GlobOk (M : Mem) (G : Nat → AV) : Prop := ∀ μ n, AVV M μ (G n) (.pointer (some ⟨n, 0, none⟩))
theorem GlobOk.mono {M M' : Mem} {G : Nat → AV} (h : GlobOk M G) (hM : M.le M') : GlobOk M' G := fun μ n => (h μ n).mono hM (Map.le.refl μ)

def EnvOk (M : Mem) (μ : Map) (S : St) (a : Act) : Prop := ∀ t, AVV M μ (S.get t) (a.tmps.getD t undef)

theorem mo_ok {M : Mem} {μ : Map} {G : Nat → AV} {S : St} {a : Act} (hG : GlobOk M G) (hE : EnvOk M μ S a) {x : Opd} {y : Operand} (h : mo x y = true) : AVV M μ (ev G S x) (a.eval y) := by
  unfold mo at h
  split at h
  · rw [Nat.eq_of_beq_eq_true h]; exact hE _
  · rw [Nat.eq_of_beq_eq_true h]
    rename_i f'
    show AVV M μ (.fn f' .nil .nil) (.func (.func f') #[] #[])
    exact ⟨[.func (.func f') #[] #[]], by simp only [AVC, AVL]; exact ⟨[], [], rfl, rfl, rfl⟩, rfl⟩
  · exact cok_ok h
  · rename_i τ cs
    simp only [Bool.and_eq_true] at h
    obtain ⟨h1, h2⟩ := h
    split at h2
    · rename_i hq
      have := takeEq_eq hq
      show AVV M μ (.tv τ τ.zero) (.agg cs)
      rw [AVV_tv]
      refine ⟨zc τ, TC_zero M τ, ?_⟩
      rw [h1]
      simp only [VofC, cond_true]
      rw [List.append_nil] at this
      rw [← this]
    · cases h2
  · rw [Nat.eq_of_beq_eq_true h]; exact hG μ _
  · cases h

theorem AVV_live {M : Mem} {μ : Map} {a : AV} {v : Value} (h : AVV M μ a v) (hl : a.live = true) : ∃ c, AVC M μ a c ∧ VofC a.isAgg c v := by
  cases a with
  | dead => cases hl
  | tup l => cases hl
  | _ => exact h

theorem mos_ok {M : Mem} {μ : Map} {G : Nat → AV} {S : St} {a : Act} (hG : GlobOk M G) (hE : EnvOk M μ S a) : ∀ {xs : List Opd} {ys : List Operand}, mos xs ys = true → allLive (xs.map (ev G S)) = true → AVL M μ (chainOf (xs.map (ev G S))) (ys.map a.eval)
  | [], [], _, _ => by simp only [List.map_nil, chainOf, AVL]
  | x :: xs, y :: ys, h, hl => by
    simp only [mos, Bool.and_eq_true] at h
    simp only [List.map_cons, allLive, Bool.and_eq_true] at hl
    obtain ⟨cs, h1, h2⟩ := AVV_live (mo_ok hG hE h.1) hl.1
    simp only [List.map_cons, chainOf, AVL]
    exact ⟨_, _, cs, rfl, h1, h2, mos_ok hG hE h.2 hl.2⟩
  | [], _ :: _, h, _ => by simp [mos] at h
  | _ :: _, [], h, _ => by simp [mos] at h

/-- What an operation comes to. -/
def OpOk (c : Ctx) (M : Mem) (μ : Map) (H : Hp) (nid : Nat) (r : Result Next) (v : AV) (u : Upd) : Prop :=
  ∃ M' μ' v' w', (r = .ok (.value v') w' ∨ (r = .ok .skip w' ∧ v' = undef)) ∧ M.le M' ∧ μ.le μ' ∧ Hold c M' μ' (u.hs ++ H) w' ∧ AVV M' μ' v v' ∧ ∀ i, μ' i ≠ none → μ i ≠ none ∨ (nid ≤ i ∧ i < nid + u.na)

theorem OpOk.same {c : Ctx} {M : Mem} {μ : Map} {H : Hp} {nid : Nat} {w : World} {r : Result Next} {v : AV} {v' : Value} (hH : Hold c M μ H w) (hr : r = .ok (.value v') w) (hv : AVV M μ v v') : OpOk c M μ H nid r v U0 :=
  ⟨M, μ, v', w, .inl hr, Mem.le.refl _, Map.le.refl _, hH, hv, fun _ h => .inl h⟩

section
variable {P : Program} {c : Ctx} {M : Mem} {μ : Map} {G : Nat → AV} {S : St} {a : Act} {w : World} {nid : Nat} {o : Oper}

/-- What an operation is proved under. -/
structure Pre (P : Program) (c : Ctx) (M : Mem) (μ : Map) (G : Nat → AV) (S : St) (a : Act) (w : World) : Prop where
  hold : Hold c M μ S.H w
  glob : GlobOk M G
  env : EnvOk M μ S a

abbrev aopO (G : Nat → AV) (op : AOp) (S : St) (nid : Nat) : Option (AV × Upd) := aop G op S nid fun v u => some (v, u)

def Sound (P : Program) (op : AOp) : Prop :=
  ∀ {c : Ctx} {M : Mem} {μ : Map} {G : Nat → AV} {S : St} {a : Act} {w : World} {nid : Nat} {o : Oper} {v : AV} {u : Upd}, Pre P c M μ G S a w → mop P op o.op = true → aopO G op S nid = some (v, u) →
    (∀ i, nid ≤ i → i < nid + u.na → μ i = none) → OpOk c M μ S.H nid ((execOp a.eval o).run P w) v u

theorem sound_bad : Sound P .bad := by
  intro c M μ G S a w nid o v u hp hm hr _
  cases hr

theorem sound_mv (x : Opd) : Sound P (.mv x) := by
  intro c M μ G S a w nid o v u hp hm hr _
  simp only [aopO, aop, Option.some.injEq, Prod.mk.injEq] at hr
  obtain ⟨rfl, rfl⟩ := hr
  generalize hq : o.op = q at hm
  cases q <;> simp only [mop, Bool.false_eq_true] at hm
  all_goals exact OpOk.same hp.hold (by simp only [execOp, hq, Sem.run_pure]) (mo_ok hp.glob hp.env hm)

theorem sound_pick (x y z : Opd) : Sound P (.pick x y z) := by
  intro c M μ G S a w nid o v u hp hm hr _
  generalize hq : o.op = q at hm
  cases q <;> simp only [mop, Bool.false_eq_true, Bool.and_eq_true] at hm
  rename_i x' y' z'
  obtain ⟨⟨h1, h2⟩, h3⟩ := hm
  have hx := mo_ok hp.glob hp.env h1
  have hy := mo_ok hp.glob hp.env h2
  have hz := mo_ok hp.glob hp.env h3
  simp only [aopO, aop] at hr
  split at hr
  · rename_i b hb
    rw [hb, AVV_bool] at hx
    have hrun : (execOp a.eval o).run P w = .ok (.value (if b then a.eval y' else a.eval z')) w := by
      simp only [execOp, hq, hx, asBool, Sem.run_bind, Sem.run_pure, Result.andThen_ok]
    split at hr
    · rename_i τ u1 σ v1 e1 e2
      split at hr
      · rename_i h
        subst h
        simp only [Option.some.injEq, Prod.mk.injEq] at hr
        obtain ⟨rfl, rfl⟩ := hr
        rw [e1] at hy
        rw [e2] at hz
        refine OpOk.same hp.hold hrun ?_
        cases b <;> simp <;> assumption
      · cases hr
    · cases b
      · simp only [cond_false, Option.some.injEq, Prod.mk.injEq] at hr
        obtain ⟨rfl, rfl⟩ := hr
        exact OpOk.same hp.hold hrun (by simpa using hz)
      · simp only [cond_true, Option.some.injEq, Prod.mk.injEq] at hr
        obtain ⟨rfl, rfl⟩ := hr
        exact OpOk.same hp.hold hrun (by simpa using hy)
  · cases hr

theorem sound_nilc (x : Opd) : Sound P (.nilc x) := by
  intro c M μ G S a w nid o v u hp hm hr _
  generalize hq : o.op = q at hm
  cases q <;> simp only [mop, Bool.false_eq_true] at hm
  rename_i x'
  have hx := mo_ok hp.glob hp.env hm
  simp only [aopO, aop] at hr
  split at hr
  · rename_i id p hb
    simp only [Option.some.injEq, Prod.mk.injEq] at hr
    obtain ⟨rfl, rfl⟩ := hr
    rw [hb] at hx
    have hx' := hx
    obtain ⟨cs, h1, h2⟩ := hx
    simp only [AVC] at h1
    obtain ⟨l, b, _, _, rfl, _⟩ := h1
    simp only [VofC, AV.isAgg, cond_false, List.cons.injEq, and_true] at h2
    refine OpOk.same hp.hold (v' := a.eval x') ?_ hx'
    simp only [execOp, hq, ← h2, Sem.run_pure]
  · rename_i τ y hb
    simp only [Option.some.injEq, Prod.mk.injEq] at hr
    obtain ⟨rfl, rfl⟩ := hr
    rw [hb] at hx
    have hx' := hx
    obtain ⟨cs, h1, h2⟩ := hx
    simp only [AVC] at h1
    obtain ⟨b, o1, es, rfl, _⟩ := h1
    simp only [VofC, AV.isAgg, cond_false, List.cons.injEq, and_true] at h2
    refine OpOk.same hp.hold (v' := a.eval x') ?_ hx'
    simp only [execOp, hq, ← h2, Sem.run_pure]
  · rename_i f c1 hb
    simp only [Option.some.injEq, Prod.mk.injEq] at hr
    obtain ⟨rfl, rfl⟩ := hr
    rw [hb] at hx
    have hx' := hx
    obtain ⟨cs, h1, h2⟩ := hx
    simp only [AVC] at h1
    obtain ⟨us, vs, rfl, _⟩ := h1
    simp only [VofC, AV.isAgg, cond_false, List.cons.injEq, and_true] at h2
    refine OpOk.same hp.hold (v' := a.eval x') ?_ hx'
    simp only [execOp, hq, ← h2, Sem.run_pure]
  · cases hr

end
end Go.Av
