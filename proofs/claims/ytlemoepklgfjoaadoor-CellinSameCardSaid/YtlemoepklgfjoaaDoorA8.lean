/-
  Each operation of the abstract machine is the machine's: tests for equality, conversions, parts of values.
-/
import Derived.Test.YtlemoepklgfjoaaDoorA7
import Derived.ChangeKeysEq
namespace Go.Av
section
variable {P : Program}

theorem negOf_eq {op : BinOp} {neg : Bool} (h : negOf op neg = true) : (op = .eql ∧ neg = false) ∨ (op = .neq ∧ neg = true) := by
  cases op <;> cases neg <;> simp_all [negOf]

theorem run_eq_of {op : BinOp} {neg : Bool} (hn : negOf op neg = true) {T : TypeId} {x y : Value} {b : Bool} {w : World} (hx : x.oneCell' = true) (hi : ∀ k n, x ≠ .int k n) (hs : ∀ s, x ≠ .string s) (hf : ∀ k n, x ≠ .float k n) (hc : ∀ k n m, x ≠ .complex k n m)
    (h : (Op.equal T x y).run P w = .ok b w) : (binOp op T x y).run P w = .ok (.bool (neg ^^ b)) w := by
  rcases negOf_eq hn with ⟨rfl, rfl⟩ | ⟨rfl, rfl⟩
  · have : binOp .eql T x y = (do pure (.bool (← Op.equal T x y))) := by
      cases x <;> first | rfl | (exact absurd rfl (hi _ _)) | (exact absurd rfl (hs _)) | (exact absurd rfl (hf _ _)) | (exact absurd rfl (hc _ _ _)) | (cases y <;> rfl)
    rw [this]
    simp [h]
  · have : binOp .neq T x y = (do pure (.bool (!(← Op.equal T x y)))) := by
      cases x <;> first | rfl | (exact absurd rfl (hi _ _)) | (exact absurd rfl (hs _)) | (exact absurd rfl (hf _ _)) | (exact absurd rfl (hc _ _ _)) | (cases y <;> rfl)
    rw [this]
    simp [h]

theorem eq_ok {op : BinOp} {neg : Bool} (hn : negOf op neg = true) {T : TypeId} {x y : Value} {x' y' : Operand} {b : Bool} {w : World} (hx : x.oneCell' = true) (hni : x ≠ .nilIface) (hi : ∀ k n, x ≠ .int k n) (hs : ∀ s, x ≠ .string s) (hf : ∀ k n, x ≠ .float k n) (hc : ∀ k n m, x ≠ .complex k n m)
    (h : (Op.equal T x y).run P w = .ok b w) {c : Ctx} {M : Mem} {μ : Map} {H : Hp} {nid : Nat} (hH : Hold c M μ H w) {r : Result Next}
    (hr : r = (((eqGuard op T x' y' x y).run P w).andThen (fun _ w' => (binOp op T x y).run P w')).andThen fun v w' => .ok (.value v) w') : OpOk c M μ H nid r (.tv .bool (neg ^^ b)) U0 := by
  rw [run_eqGuard_plain op T x' y' x y w hx hni, Result.andThen_ok, run_eq_of hn hx hi hs hf hc h, Result.andThen_ok] at hr
  exact OpOk.same hH hr (AVV_bool.2 rfl)

theorem equalIn_ptr {T e : TypeId} (hT : P.underlying T = some (.pointer e)) (d : Nat) (p q : Option Addr) (w : World) (h : p = none ∨ q = none) : (Op.equalIn (d + 1) T (.pointer p) (.pointer q)).run P w = .ok (p.isNone && q.isNone) w := by
  rcases h with rfl | rfl
  · simp [Op.equalIn, run_underlying hT]
  · cases p <;> simp [Op.equalIn, run_underlying hT]

theorem equalIn_fn {T : TypeId} {e1 e2 : Array TypeId} {e3 : Bool} (hT : P.underlying T = some (.func e1 e2 e3)) (d : Nat) (w : World) :
    (Op.equalIn (d + 1) T .nilFunc .nilFunc).run P w = .ok true w ∧ (∀ f a b, (Op.equalIn (d + 1) T .nilFunc (.func f a b)).run P w = .ok false w) ∧ ∀ f a b, (Op.equalIn (d + 1) T (.func f a b) .nilFunc).run P w = .ok false w := by
  refine ⟨?_, ?_, ?_⟩ <;> (try intro f a b) <;> simp [Op.equalIn, run_underlying hT]

theorem sound_eqb (neg : Bool) (x y : Opd) : Sound P (.eqb neg x y) := by
  intro c M μ G S a w nid o v u hp hm hr _
  generalize hq : o.op = q at hm
  cases q <;> simp only [mop, Bool.false_eq_true, Bool.and_eq_true] at hm
  rename_i op' T x' y' T'
  obtain ⟨⟨⟨hn, ht⟩, h2⟩, h3⟩ := hm
  have hx := mo_ok hp.glob hp.env h2
  have hy := mo_ok hp.glob hp.env h3
  split at ht
  case h_2 => cases ht
  rename_i hT
  simp only [aopO, aop, eqbV] at hr
  split at hr
  · rename_i b1 b2 e1 e2
    rw [e1, AVV_bool] at hx
    rw [e2, AVV_bool] at hy
    simp only [Option.some.injEq, Prod.mk.injEq] at hr
    obtain ⟨rfl, rfl⟩ := hr
    exact eq_ok hn (T := T) (x := .bool b1) (y := .bool b2) (x' := x') (y' := y') rfl (by intro h; cases h) (by intro _ _ h; cases h) (by intro _ h; cases h) (by intro _ _ h; cases h) (by intro _ _ _ h; cases h)
      (b := b1 == b2) (w := w) (run_equalIn_bool' w 9999 T b1 b2 hT) hp.hold (by simp only [execOp, hq, hx, hy, Sem.run_bind, Sem.run_pure])
  · cases hr

theorem AVV_nilp {M : Mem} {μ : Map} {v : Value} : AVV M μ .nilp v ↔ v = .pointer none := by
  simp only [AVV, AVC, VofC, AV.isAgg, cond_false]
  constructor
  · rintro ⟨c, rfl, h⟩; simpa using h.symm
  · rintro rfl; exact ⟨_, rfl, rfl⟩
theorem AVV_nilf {M : Mem} {μ : Map} {v : Value} : AVV M μ .nilf v ↔ v = .nilFunc := by
  simp only [AVV, AVC, VofC, AV.isAgg, cond_false]
  constructor
  · rintro ⟨c, rfl, h⟩; simpa using h.symm
  · rintro rfl; exact ⟨_, rfl, rfl⟩
theorem AVV_ptr {M : Mem} {μ : Map} {id : Nat} {p : List Step} {v : Value} : AVV M μ (.ptr id p) v ↔ ∃ l b, μ id = some l ∧ l.blk = some b ∧ v = .pointer (some ⟨b, pathOff p, none⟩) ∧ (∀ s ∈ p, s.okS) ∧ l.head p := by
  simp only [AVV, AVC, VofC, AV.isAgg, cond_false]
  constructor
  · rintro ⟨cs, ⟨l, b, h1, h2, rfl, h3⟩, h⟩
    exact ⟨l, b, h1, h2, by simpa using h.symm, h3⟩
  · rintro ⟨l, b, h1, h2, rfl, h3⟩
    exact ⟨_, ⟨l, b, h1, h2, rfl, h3⟩, rfl⟩
theorem AVV_row {M : Mem} {μ : Map} {id : Nat} {v : Value} : AVV M μ (.row id) v ↔ ∃ b len cap, μ id = some (.row b len cap) ∧ v = .slice (b.map fun b => ⟨b, 0, none⟩) len cap := by
  simp only [AVV, AVC, VofC, AV.isAgg, cond_false]
  constructor
  · rintro ⟨cs, ⟨b, len, cap, h1, rfl⟩, h⟩
    exact ⟨b, len, cap, h1, by simpa using h.symm⟩
  · rintro ⟨b, len, cap, h1, rfl⟩
    exact ⟨_, ⟨b, len, cap, h1, rfl⟩, rfl⟩
theorem AVV_fp {M : Mem} {μ : Map} {τ : Ty} {x : τ.T} {v : Value} : AVV M μ (.fp τ x) v ↔ ∃ b o es, v = .pointer (some ⟨b, o, none⟩) ∧ TC M τ x es ∧ ∀ j v, es[j]? = some v → M b (o + j) = some v := by
  simp only [AVV, AVC, VofC, AV.isAgg, cond_false]
  constructor
  · rintro ⟨cs, ⟨b, o, es, rfl, h1⟩, h⟩
    exact ⟨b, o, es, by simpa using h.symm, h1⟩
  · rintro ⟨b, o, es, rfl, h1⟩
    exact ⟨_, ⟨b, o, es, rfl, h1⟩, rfl⟩
theorem AVV_fn {M : Mem} {μ : Map} {f : FuncId} {first caps : AV} {v : Value} : AVV M μ (.fn f first caps) v ↔ ∃ us vs : List Value, v = .func (.func f) us.toArray vs.toArray ∧ AVL M μ first us ∧ AVL M μ caps vs := by
  simp only [AVV, AVC, VofC, AV.isAgg, cond_false]
  constructor
  · rintro ⟨cs, ⟨us, vs, rfl, h1⟩, h⟩
    exact ⟨us, vs, by simpa using h.symm, h1⟩
  · rintro ⟨us, vs, rfl, h1⟩
    exact ⟨_, ⟨us, vs, rfl, h1⟩, rfl⟩

theorem equal_ptr {T e : TypeId} (hT : P.underlying T = some (.pointer e)) (p q : Option Addr) (w : World) (h : p = none ∨ q = none) : (Op.equal T (.pointer p) (.pointer q)).run P w = .ok (p.isNone && q.isNone) w := equalIn_ptr hT 9999 p q w h

theorem sound_eqp (neg : Bool) (x y : Opd) : Sound P (.eqp neg x y) := by
  intro c M μ G S a w nid o v u hp hm hr _
  generalize hq : o.op = q at hm
  cases q <;> simp only [mop, Bool.false_eq_true, Bool.and_eq_true] at hm
  rename_i op' T x' y' T'
  obtain ⟨⟨⟨hn, ht⟩, h2⟩, h3⟩ := hm
  have hx := mo_ok hp.glob hp.env h2
  have hy := mo_ok hp.glob hp.env h3
  split at ht
  case h_2 => cases ht
  rename_i e hT
  simp only [aopO, aop, eqpV] at hr
  have fin : ∀ {p q : Option Addr} {b : Bool}, (Op.equal T (.pointer p) (.pointer q)).run P w = .ok b w → a.eval x' = .pointer p → a.eval y' = .pointer q → OpOk c M μ S.H nid ((execOp a.eval o).run P w) (.tv .bool (neg ^^ b)) U0 := by
    intro p q b h hx hy
    exact eq_ok hn (T := T) (x := .pointer p) (y := .pointer q) (x' := x') (y' := y') rfl (by intro h; cases h) (by intro _ _ h; cases h) (by intro _ h; cases h) (by intro _ _ h; cases h) (by intro _ _ _ h; cases h)
      (b := b) (w := w) h hp.hold (by simp only [execOp, hq, hx, hy, Sem.run_bind, Sem.run_pure])
  split at hr
  · rename_i id p e1 e2
    rw [e1, AVV_ptr] at hx
    rw [e2, AVV_nilp] at hy
    obtain ⟨l, b, _, _, hx, _⟩ := hx
    simp only [Option.some.injEq, Prod.mk.injEq] at hr
    obtain ⟨rfl, rfl⟩ := hr
    simpa using fin (equal_ptr hT _ _ w (.inr rfl)) hx hy
  · rename_i id p e1 e2
    rw [e1, AVV_nilp] at hx
    rw [e2, AVV_ptr] at hy
    obtain ⟨l, b, _, _, hy, _⟩ := hy
    simp only [Option.some.injEq, Prod.mk.injEq] at hr
    obtain ⟨rfl, rfl⟩ := hr
    simpa using fin (equal_ptr hT _ _ w (.inl rfl)) hx hy
  · rename_i e1 e2
    rw [e1, AVV_nilp] at hx
    rw [e2, AVV_nilp] at hy
    simp only [Option.some.injEq, Prod.mk.injEq] at hr
    obtain ⟨rfl, rfl⟩ := hr
    have := fin (equal_ptr hT _ _ w (.inl rfl)) hx hy
    simpa using this
  · cases hr

theorem sound_eqf (neg : Bool) (x y : Opd) : Sound P (.eqf neg x y) := by
  intro c M μ G S a w nid o v u hp hm hr _
  generalize hq : o.op = q at hm
  cases q <;> simp only [mop, Bool.false_eq_true, Bool.and_eq_true] at hm
  rename_i op' T x' y' T'
  obtain ⟨⟨⟨hn, ht⟩, h2⟩, h3⟩ := hm
  have hx := mo_ok hp.glob hp.env h2
  have hy := mo_ok hp.glob hp.env h3
  split at ht
  case h_2 => cases ht
  rename_i e1 e2 e3 hT
  simp only [aopO, aop, eqfV] at hr
  have fin : ∀ {p q : Value} {b : Bool}, (p = .nilFunc ∨ ∃ f us vs, p = .func f us vs) → (Op.equal T p q).run P w = .ok b w → a.eval x' = p → a.eval y' = q → OpOk c M μ S.H nid ((execOp a.eval o).run P w) (.tv .bool (neg ^^ b)) U0 := by
    intro p q b hpp h hx hy
    refine eq_ok hn (T := T) (x := p) (y := q) (x' := x') (y' := y') ?_ ?_ ?_ ?_ ?_ ?_
      (b := b) (w := w) h hp.hold (by simp only [execOp, hq, hx, hy, Sem.run_bind, Sem.run_pure])
    all_goals
      rcases hpp with rfl | ⟨f, us, vs, rfl⟩
      all_goals (intros; first | rfl | (intro h; cases h))
  split at hr
  · rename_i id p e1 e2
    rw [e1, AVV_fn] at hx
    rw [e2, AVV_nilf] at hy
    obtain ⟨us, vs, hx, _⟩ := hx
    simp only [Option.some.injEq, Prod.mk.injEq] at hr
    obtain ⟨rfl, rfl⟩ := hr
    simpa using fin (b := false) (.inr ⟨_, _, _, rfl⟩) ((equalIn_fn hT 9999 w).2.2 _ _ _) hx hy
  · rename_i id p e1 e2
    rw [e1, AVV_nilf] at hx
    rw [e2, AVV_fn] at hy
    obtain ⟨us, vs, hy, _⟩ := hy
    simp only [Option.some.injEq, Prod.mk.injEq] at hr
    obtain ⟨rfl, rfl⟩ := hr
    simpa using fin (b := false) (.inl rfl) ((equalIn_fn hT 9999 w).2.1 _ _ _) hx hy
  · rename_i e1 e2
    rw [e1, AVV_nilf] at hx
    rw [e2, AVV_nilf] at hy
    simp only [Option.some.injEq, Prod.mk.injEq] at hr
    obtain ⟨rfl, rfl⟩ := hr
    have := fin (b := true) (.inl rfl) (equalIn_fn hT 9999 w).1 hx hy
    simpa using this
  · cases hr

theorem equalIn_sl {T e : TypeId} (hT : P.underlying T = some (.slice e)) (d : Nat) (a : Option Addr) (l k : Nat) (w : World) : (Op.equalIn (d + 1) T (.slice a l k) (.slice none 0 0)).run P w = .ok a.isNone w := by
  cases a <;> simp [Op.equalIn, run_underlying hT]

theorem sound_un (op : UnOp) (x : Opd) : Sound P (.un op x) := by
  intro c M μ G S a w nid o v u hp hm hr _
  generalize hq : o.op = q at hm
  cases q <;> simp only [mop, Bool.false_eq_true, Bool.and_eq_true, decide_eq_true_eq] at hm
  rename_i op' T x'
  obtain ⟨rfl, h2⟩ := hm
  have hx := mo_ok hp.glob hp.env h2
  simp only [aopO, aop] at hr
  unfold unV at hr
  split at hr
  · rename_i k n e1
    rw [e1, AVV_int] at hx
    simp only [Option.some.injEq, Prod.mk.injEq] at hr
    obtain ⟨rfl, rfl⟩ := hr
    exact OpOk.same hp.hold (v' := .int k (k.wrap (0 - n))) (by simp [execOp, hq, hx, Op.unary, Op.intArith]) (AVV_int.2 rfl)
  · rename_i b e1
    rw [e1, AVV_bool] at hx
    simp only [Option.some.injEq, Prod.mk.injEq] at hr
    obtain ⟨rfl, rfl⟩ := hr
    exact OpOk.same hp.hold (v' := .bool !b) (by simp [execOp, hq, hx, Op.unary]) (AVV_bool.2 rfl)
  · rename_i k n e1
    rw [e1, AVV_int] at hx
    simp only [Option.some.injEq, Prod.mk.injEq] at hr
    obtain ⟨rfl, rfl⟩ := hr
    exact OpOk.same hp.hold (v' := .int k (bitop .xor k (if k.signed then -1 else k.max) n)) (by simp [execOp, hq, hx, Op.unary, Op.intBits, bitop]) (AVV_int.2 rfl)
  · cases hr

theorem isInt_ty {t : TypeId} {k : IntKind} (h : isInt P t k = true) : P.underlying t = some (.int k) := by
  unfold isInt at h
  split at h
  · rename_i k' hk
    have : k = k' := of_decide_eq_true h
    rw [hk, this]
  · cases h
theorem isStr_ty {t : TypeId} (h : isStr P t = true) : P.underlying t = some .string := by
  unfold isStr at h
  split at h
  · assumption
  · cases h
theorem slOf_ty {t e : TypeId} (h : slOf P t = some e) : P.underlying t = some (.slice e) := by
  unfold slOf at h
  split at h
  · rename_i e' he
    simp only [Option.some.injEq] at h
    rw [he, h]
  · cases h
theorem arrOf_ty {t e : TypeId} {n : Nat} (h : arrOf P t = some (n, e)) : P.underlying t = some (.array n e) := by
  unfold arrOf at h
  split at h
  · rename_i n' e' he
    simp only [Option.some.injEq, Prod.mk.injEq] at h
    rw [he, h.1, h.2]
  · cases h
theorem fieldOf_ty {t : TypeId} {i : Nat} {f : Field} (h : fieldOf P t i = some f) : ∃ fs, P.underlying t = some (.struct fs) ∧ fs[i]? = some f := by
  unfold fieldOf at h
  split at h
  · rename_i fs he
    exact ⟨fs, he, h⟩
  · cases h

theorem sound_eqn (neg : Bool) (x : Opd) : Sound P (.eqn neg x) := by
  intro c M μ G S a w nid o v u hp hm hr _
  generalize hq : o.op = q at hm
  unfold mop at hm
  split at hm <;> first | (cases hm; done) | skip
  all_goals first | (rename_i heq _; cases heq; done) | (rename_i heq; cases heq; done) | skip
  rename_i neg' x1 op' T x' T' heq
  cases heq
  simp only [Bool.and_eq_true] at hm
  obtain ⟨⟨hn, ht⟩, h2⟩ := hm
  have hx := mo_ok hp.glob hp.env h2
  cases hsl : slOf P T with
  | none => rw [hsl] at ht; cases ht
  | some e =>
    have hT := slOf_ty hsl
    simp only [aopO, aop] at hr
    split at hr
    case h_2 => cases hr
    rename_i b e' xs hb
    simp only [Option.some.injEq, Prod.mk.injEq] at hr
    obtain ⟨rfl, rfl⟩ := hr
    rw [hb] at hx
    obtain ⟨cs, ⟨_, ad, l, k, rfl, hbn⟩, hv⟩ := hx
    have hv : a.eval x' = .slice ad l k := by simpa [VofC, AV.isAgg] using hv.symm
    have hy : a.eval (.const (.slice none 0 0)) = .slice none 0 0 := rfl
    have key := equalIn_sl hT 9999 ad l k w
    rw [hbn] at key
    refine eq_ok hn (T := T) (x := .slice ad l k) (y := .slice none 0 0) (x' := x') (y' := .const (.slice none 0 0)) rfl ?_ ?_ ?_ ?_ ?_ (b := b) (w := w) key hp.hold (by simp only [execOp, hq, hv, hy, Sem.run_bind, Sem.run_pure])
    all_goals (intros; intro h; cases h)

theorem sound_conv (k : IntKind) (x : Opd) : Sound P (.conv k x) := by
  intro c M μ G S a w nid o v u hp hm hr _
  generalize hq : o.op = q at hm
  cases q <;> simp only [mop, Bool.false_eq_true, Bool.and_eq_true] at hm
  rename_i s d x'
  obtain ⟨⟨h0, h1⟩, h2⟩ := hm
  have hx := mo_ok hp.glob hp.env h2
  obtain ⟨ds, hs⟩ := Option.isSome_iff_exists.1 h0
  simp only [aopO, aop] at hr
  split at hr
  · rename_i k' n e1
    rw [e1, AVV_int] at hx
    simp only [Option.some.injEq, Prod.mk.injEq] at hr
    obtain ⟨rfl, rfl⟩ := hr
    refine OpOk.same hp.hold (v' := .int k (k.wrap n)) ?_ (AVV_int.2 rfl)
    simp only [execOp, hq, hx, Sem.run_bind, convert, run_underlying hs, run_underlying (isInt_ty h1), Result.andThen_ok, Conv.intToInt, Sem.run_pure]
  · cases hr

theorem sound_mkfn (f : FuncId) (first caps : List Opd) : Sound P (.mkfn f first caps) := by
  intro c M μ G S a w nid o v u hp hm hr _
  generalize hq : o.op = q at hm
  cases q with
  | makeFunc fn fi captured =>
    cases fn <;> simp only [mop, Bool.false_eq_true, Bool.and_eq_true] at hm
    rename_i f'
    obtain ⟨⟨h0, h1⟩, h2⟩ := hm
    obtain rfl := Nat.eq_of_beq_eq_true h0
    simp only [aopO, aop] at hr
    cases hl0 : (allLive (first.map (ev G S)) && allLive (caps.map (ev G S))) with
    | false => simp [hl0] at hr
    | true =>
      rw [hl0] at hr
      simp only [Bool.and_eq_true] at hl0
      obtain ⟨hl1, hl⟩ := hl0
      simp only [cond_true, Option.some.injEq, Prod.mk.injEq] at hr
      obtain ⟨rfl, rfl⟩ := hr
      refine OpOk.same hp.hold (v' := .func (.func f) (fi.toList.map a.eval).toArray (captured.toList.map a.eval).toArray) ?_ (AVV_fn.2 ⟨_, _, rfl, mos_ok hp.glob hp.env h1 hl1, mos_ok hp.glob hp.env h2 hl⟩)
      have hmap : ∀ xs : Array Operand, Array.map a.eval xs = (List.map a.eval xs.toList).toArray := by
        intro xs
        apply Array.ext'
        simp
      simp only [execOp, hq, Instr.makeFunc, Sem.run_bind, Sem.run_pure, Result.andThen_ok, hmap]
  | _ => simp only [mop, Bool.false_eq_true] at hm

end
end Go.Av
