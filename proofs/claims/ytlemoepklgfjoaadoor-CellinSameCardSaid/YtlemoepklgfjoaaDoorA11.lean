/-
  Each operation of the abstract machine is the machine's: equality of structs and arrays; bytes to text.
-/
import Derived.Test.YtlemoepklgfjoaaDoorA10
namespace Go.Av
section
variable {P : Program}

/-- What '==' asks of two values of a type, at this depth. -/
def EqIn (P : Program) (d : Nat) (T : TypeId) (τ : Ty) : Prop :=
  ∀ (D : Nat), d ≤ D → ∀ {M : Mem} {x y : τ.T} {cx cy : List Value} {vx vy : Value} (w : World), TC M τ x cx → TC M τ y cy → VofC τ.isAgg cx vx → VofC τ.isAgg cy vy → (Op.equalIn D T vx vy).run P w = .ok (τ.eqB x y) w

theorem hasTy_ty {t : TypeId} (h : hasTy P t = true) : ∃ d i, P.underlying t = some d ∧ P.info? t = some i := by
  unfold hasTy at h
  simp only [Bool.and_eq_true] at h
  obtain ⟨d, hd⟩ := Option.isSome_iff_exists.1 h.1
  obtain ⟨i, hi⟩ := Option.isSome_iff_exists.1 h.2
  exact ⟨d, i, hd, hi⟩

theorem aggOf_ty {t : TypeId} {d : TypeDesc} (h : P.underlying t = some d) : aggOf P t = TypeDesc.agg d := by
  unfold aggOf; rw [h]

theorem TC_single {M : Mem} {τ : Ty} {x : τ.T} {c : List Value} (h : TC M τ x c) (ha : τ.isAgg = false) : ∃ v, c = [v] := by
  have := h.length
  cases τ <;> simp [Ty.isAgg] at ha <;> (simp only [Ty.n] at this; match c, this with | [v], _ => exact ⟨v, rfl⟩)

theorem eqItems_ok {d : Nat} {e : TypeId} {σ : Ty} (he : EqIn P d e σ) (hs : hasTy P e = true) (hc : P.cellsOf e = σ.n) (hag : aggOf P e = σ.isAgg) {D : Nat} (hD : d ≤ D) {M : Mem} (xa ya : Array Value) (w : World) :
    ∀ (xs ys : List σ.T) (px py cx cy : List Value) (k : Nat), xs.length = ys.length → xa.toList = px ++ cx → ya.toList = py ++ cy → px.length = k * σ.n → py.length = k * σ.n → RowC (TC M σ) xs cx → RowC (TC M σ) ys cy →
      (Op.eqItems D e (P.cellsOf e) xa ya (List.range' k xs.length)).run P w = .ok (allEq σ.eqB xs ys) w
  | [], [], _, _, _, _, _, _, _, _, _, _, _, _ => by simp [Op.eqItems, allEq]
  | x :: xs, [], _, _, _, _, _, hl, _, _, _, _, _, _ => by simp at hl
  | [], y :: ys, _, _, _, _, _, hl, _, _, _, _, _, _ => by simp at hl
  | x :: xs, y :: ys, px, py, cx, cy, k, hl, ex, ey, lx, ly, ⟨a1, a2, e1, h1, h2⟩, ⟨b1, b2, e2, g1, g2⟩ => by
    subst e1; subst e2
    obtain ⟨ds, inf, hd, hi⟩ := hasTy_ty hs
    have hag' : TypeDesc.agg ds = σ.isAgg := by rw [← aggOf_ty hd]; exact hag
    have hsz : inf.size = σ.n := by rw [← hc]; simp [Program.cellsOf, hi]
    obtain ⟨vx, hvx⟩ := VofC_ex (agg := σ.isAgg) (cs := a1) (fun h => by obtain ⟨v, rfl⟩ := TC_single h1 h; rfl)
    obtain ⟨vy, hvy⟩ := VofC_ex (agg := σ.isAgg) (cs := b1) (fun h => by obtain ⟨v, rfl⟩ := TC_single g1 h; rfl)
    have p1 := run_part (P := P) hd hi w (cs := xa) (pre := px) (mid := a1) (post := a2) (by rw [ex]; simp) (by rw [h1.length, hsz]) hag' hvx
    have p2 := run_part (P := P) hd hi w (cs := ya) (pre := py) (mid := b1) (post := b2) (by rw [ey]; simp) (by rw [g1.length, hsz]) hag' hvy
    rw [lx] at p1
    rw [ly] at p2
    have p3 := he D hD w h1 g1 hvx hvy
    have ih := eqItems_ok he hs hc hag hD xa ya w xs ys (px ++ a1) (py ++ b1) a2 b2 (k + 1) (by simpa using hl) (by rw [ex]; simp) (by rw [ey]; simp) (by rw [List.length_append, lx, h1.length, Nat.succ_mul]) (by rw [List.length_append, ly, g1.length, Nat.succ_mul]) h2 g2
    rw [List.length_cons, List.range'_succ]
    simp only [Op.eqItems, Sem.run_bind, hc, p1, p2, p3, Result.andThen_ok, allEq]
    rw [hc] at ih
    cases hb : σ.eqB x y with
    | false => simp
    | true => simpa using ih

theorem eqFields_ok {d : Nat} (hrec : ∀ T τ, teq P d T τ = true → τ.eqs = true → EqIn P d T τ) {D : Nat} (hD : d ≤ D) {M : Mem} (xa ya : Array Value) (w : World) :
    ∀ (fs : List Field) (off : Nat) (τ : Ty) (x y : τ.T) (px py cx cy : List Value), teqs P (teq P d) off fs τ = true → τ.eqs = true → xa.toList = px ++ cx → ya.toList = py ++ cy → px.length = off → py.length = off → TC M τ x cx → TC M τ y cy →
      (Op.eqFields D xa ya fs).run P w = .ok (τ.eqB x y) w
  | [], off, .nil, x, y, _, _, _, _, _, _, _, _, _, _, _, _ => by simp [Op.eqFields, Ty.eqB]
  | f :: fs, off, .pr a b, x, y, px, py, cx, cy, ht, hs, ex, ey, lx, ly, ⟨a1, a2, e1, h1, h2⟩, ⟨b1, b2, e2, g1, g2⟩ => by
    subst e1; subst e2
    simp only [teqs, Bool.and_eq_true, bne_iff_ne, beq_iff_eq] at ht
    obtain ⟨⟨⟨⟨⟨⟨hn, ho⟩, hc⟩, hty⟩, hag⟩, ht1⟩, ht2⟩ := ht
    have ho := Nat.eq_of_beq_eq_true ho
    have hc := Nat.eq_of_beq_eq_true hc
    simp only [Ty.eqs, Bool.and_eq_true] at hs
    obtain ⟨ds, inf, hd, hi⟩ := hasTy_ty hty
    have hag' : TypeDesc.agg ds = a.isAgg := by rw [← aggOf_ty hd]; exact hag
    have hsz : inf.size = a.n := by rw [← hc]; simp [Program.cellsOf, hi]
    obtain ⟨vx, hvx⟩ := VofC_ex (agg := a.isAgg) (cs := a1) (fun h => by obtain ⟨v, rfl⟩ := TC_single h1 h; rfl)
    obtain ⟨vy, hvy⟩ := VofC_ex (agg := a.isAgg) (cs := b1) (fun h => by obtain ⟨v, rfl⟩ := TC_single g1 h; rfl)
    have p1 := run_part (P := P) hd hi w (cs := xa) (pre := px) (mid := a1) (post := a2) (by rw [ex]; simp) (by rw [h1.length, hsz]) hag' hvx
    have p2 := run_part (P := P) hd hi w (cs := ya) (pre := py) (mid := b1) (post := b2) (by rw [ey]; simp) (by rw [g1.length, hsz]) hag' hvy
    rw [lx, ← ho] at p1
    rw [ly, ← ho] at p2
    have p3 := hrec f.type a ht1 hs.1 D hD w h1 g1 hvx hvy
    have ih := eqFields_ok hrec hD xa ya w fs (off + a.n) b x.2 y.2 (px ++ a1) (py ++ b1) a2 b2 ht2 hs.2 (by rw [ex]; simp) (by rw [ey]; simp) (by rw [List.length_append, lx, h1.length]) (by rw [List.length_append, ly, g1.length]) h2 g2
    simp only [Op.eqFields, ne_eq, hn, not_false_eq_true, if_true, Sem.run_bind, p1, p2, p3, Result.andThen_ok, Ty.eqB]
    cases hb : a.eqB x.1 y.1 with
    | false => simp
    | true => simpa using ih
  | [], _, .int _, _, _, _, _, _, _, ht, _, _, _, _, _, _, _ | [], _, .bool, _, _, _, _, _, _, ht, _, _, _, _, _, _, _ | [], _, .str, _, _, _, _, _, _, ht, _, _, _, _, _, _, _ | [], _, .sl _, _, _, _, _, _, _, ht, _, _, _, _, _, _, _ | [], _, .arr _ _, _, _, _, _, _, _, ht, _, _, _, _, _, _, _ | [], _, .pr _ _, _, _, _, _, _, _, ht, _, _, _, _, _, _, _
  | _ :: _, _, .int _, _, _, _, _, _, _, ht, _, _, _, _, _, _, _ | _ :: _, _, .bool, _, _, _, _, _, _, ht, _, _, _, _, _, _, _ | _ :: _, _, .str, _, _, _, _, _, _, ht, _, _, _, _, _, _, _ | _ :: _, _, .sl _, _, _, _, _, _, _, ht, _, _, _, _, _, _, _ | _ :: _, _, .arr _ _, _, _, _, _, _, _, ht, _, _, _, _, _, _, _ | _ :: _, _, .nil, _, _, _, _, _, _, ht, _, _, _, _, _, _, _ => by
    simp [teqs] at ht

theorem teq_ok : ∀ (d : Nat) (T : TypeId) (τ : Ty), teq P d T τ = true → τ.eqs = true → EqIn P d T τ
  | 0, _, _, h, _ => by simp [teq] at h
  | d + 1, T, τ, h, hs => by
    intro D hD M x y cx cy vx vy w hx hy hvx hvy
    obtain ⟨D, rfl⟩ : ∃ D', D = D' + 1 := ⟨D - 1, by omega⟩
    simp only [teq] at h
    split at h
    · rename_i k k' hu
      have : k = k' := of_decide_eq_true h
      subst this
      simp only [TC] at hx hy
      subst hx; subst hy
      simp only [VofC, Ty.isAgg, cond_false, List.cons.injEq, and_true] at hvx hvy
      subst hvx; subst hvy
      simpa [Ty.eqB] using run_equalIn_int (P := P) w D T k k x y hu
    · rename_i hu
      simp only [TC] at hx hy
      subst hx; subst hy
      simp only [VofC, Ty.isAgg, cond_false, List.cons.injEq, and_true] at hvx hvy
      subst hvx; subst hvy
      simpa [Ty.eqB] using run_equalIn_bool' (P := P) w D T x y hu
    · rename_i hu
      simp only [TC] at hx hy
      subst hx; subst hy
      simp only [VofC, Ty.isAgg, cond_false, List.cons.injEq, and_true] at hvx hvy
      subst hvx; subst hvy
      have := run_equalIn_string (P := P) w D T ⟨List.toArray x⟩ ⟨List.toArray y⟩ hu
      rw [toList_arr, toList_arr] at this
      simpa [Ty.eqB] using this
    · rename_i n e m σ hu
      simp only [Bool.and_eq_true, beq_iff_eq] at h
      obtain ⟨⟨⟨⟨h1, h2⟩, h3⟩, h4⟩, h5⟩ := h
      obtain rfl := Nat.eq_of_beq_eq_true h1
      have h2 := Nat.eq_of_beq_eq_true h2
      obtain ⟨hlx, hrx⟩ := hx
      obtain ⟨hly, hry⟩ := hy
      rw [Ty.isAgg, VofC_true] at hvx hvy
      subst hvx; subst hvy
      obtain ⟨_, inf, _, hi⟩ := hasTy_ty h3
      rw [run_equalIn_array w D _ _ hu hi]
      have := eqItems_ok (teq_ok d e σ h5 (by simpa [Ty.eqs] using hs)) h3 h2 h4 (by omega : d ≤ D) cx.toArray cy.toArray w x y [] [] cx cy 0 (by rw [hlx, hly]) (by simp) (by simp) (by simp) (by simp) hrx hry
      rw [hlx] at this
      rw [List.range_eq_range', this]
      rfl
    · rename_i τ _ _ fs hu
      simp only [Bool.and_eq_true, Bool.not_eq_true'] at h
      obtain ⟨h1, h2⟩ := h
      have hag : τ.isAgg = true := by
        cases τ <;> first | rfl | (cases hfs : fs.toList <;> simp [hfs, teqs] at h2)
      rw [hag, VofC_true] at hvx hvy
      subst hvx; subst hvy
      have hu' : P.underlying T = some (.struct (P.fieldsOf T)) := by simp [Program.fieldsOf, hu]
      rw [run_equalIn_struct w D T _ _ hu' h1]
      have hf : P.fieldsOf T = fs := by simp [Program.fieldsOf, hu]
      rw [hf]
      exact eqFields_ok (fun T τ => teq_ok d T τ) (by omega : d ≤ D) cx.toArray cy.toArray w fs.toList 0 τ x y [] [] cx cy h2 hs (by simp) (by simp) rfl rfl hx hy
    · cases h

theorem sound_eqa (neg : Bool) (τ : Ty) (x y : Opd) : Sound P (.eqa neg τ x y) := by
  intro c M μ G S a w nid o v u hp hm hr _
  generalize hq : o.op = q at hm
  cases q <;> simp only [mop, Bool.false_eq_true, Bool.and_eq_true, Bool.not_eq_true'] at hm
  rename_i op' T x' y' T'
  obtain ⟨⟨⟨⟨⟨⟨hn, hag⟩, hs⟩, ht⟩, hg⟩, h2⟩, h3⟩ := hm
  have hx := mo_ok hp.glob hp.env h2
  have hy := mo_ok hp.glob hp.env h3
  simp only [aopO, aop, eqaV] at hr
  split at hr
  case h_2 => cases hr
  rename_i σ x1 ρ y1 e1 e2
  split at hr
  case isFalse => cases hr
  rename_i h; subst h
  split at hr
  case isFalse => cases hr
  rename_i h; subst h
  simp only [Option.some.injEq, Prod.mk.injEq] at hr
  obtain ⟨rfl, rfl⟩ := hr
  rw [e1, AVV_tv] at hx
  rw [e2, AVV_tv] at hy
  obtain ⟨cx, htx, hvx⟩ := hx
  obtain ⟨cy, hty, hvy⟩ := hy
  have hrun := teq_ok 100 T _ ht hs 10000 (by omega) w htx hty hvx hvy
  rw [hag, VofC_true] at hvx hvy
  rw [hvx, hvy] at hrun
  refine OpOk.same hp.hold (v' := .bool (neg ^^ Ty.eqB _ x1 y1)) ?_ (AVV_bool.2 rfl)
  simp only [execOp, hq, hvx, hvy, Sem.run_bind, Sem.run_pure, run_eqGuard_agg w op' T x' y' _ _ hg, Result.andThen_ok]
  rcases negOf_eq hn with ⟨rfl, rfl⟩ | ⟨rfl, rfl⟩
  · rw [run_eql_struct, hrun]; simp
  · rw [run_neq_struct, hrun]; simp

end
end Go.Av
