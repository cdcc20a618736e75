/-
  The abstract run of code is the machine's.
-/
import Derived.Test.YtlemoepklgfjoaaDoorA26
namespace Go.Av

theorem alGet_dropKs (ks : List Nat) : ∀ (env : List (Nat × AV)) (t : Nat), alGet (dropKs ks env) t = if memB t ks = true then none else alGet env t
  | [], t => by simp [dropKs, alGet]
  | (s, a) :: r, t => by
    simp only [dropKs]
    cases h : memB s ks with
    | true =>
      simp only [cond_true, alGet_dropKs ks r t, alGet_cons]
      by_cases e : s = t
      · subst e; rw [if_pos h, if_pos h]
      · rw [if_neg e]
    | false =>
      simp only [cond_false, alGet_cons, alGet_dropKs ks r t]
      by_cases e : s = t
      · subst e; rw [if_pos rfl, if_pos rfl, h]; rfl
      · rw [if_neg e, if_neg e]

theorem zipO_get {M : Mem} {μ : Map} {f : Nat → Value} : ∀ {l : List Nat} {as : List AV} {t : Nat} {v : AV}, AVs M μ as (l.map f) → alGet (zipO l as) t = some v → AVV M μ v (f t)
  | [], [], _, _, _, h => by simp [zipO, alGet] at h
  | s :: l, a :: as, t, v, ha, h => by
    obtain ⟨x, y, e, h1, h2⟩ := ha
    simp only [List.map_cons, List.cons.injEq] at e
    obtain ⟨rfl, rfl⟩ := e
    simp only [zipO, alGet_cons] at h
    split at h
    · rename_i e; subst e; cases h; exact h1
    · exact zipO_get h2 h
  | [], _ :: _, _, _, ha, _ => by
    obtain ⟨x, y, e, _⟩ := ha
    cases e
  | _ :: _, [], _, _, ha, h => by simp [zipO, alGet] at h

theorem EnvOk_zip {M : Mem} {μ : Map} {a : Act} {l : List Nat} {as : List AV} {H : Hp} {n : Nat} (h : AVs M μ as (l.map fun t => a.tmps.getD t undef)) : EnvOk M μ ⟨zipO l as, H, n⟩ a := by
  intro t
  simp only [St.get]
  split
  · rename_i v hv; exact zipO_get (f := fun t => a.tmps.getD t undef) h hv
  · trivial

def slotOps : List (Nat × Option Ty) → List Operand
  | [] => []
  | (s, _) :: r => .tmp s :: slotOps r

theorem margs_asOpd : ∀ l : List (Nat × Option Ty), margs (asOpd l) (slotOps l) = true
  | [] => rfl
  | (s, f) :: r => by simp only [asOpd, slotOps, margs, mo, Nat.beq_refl, margs_asOpd r, Bool.and_self]

theorem slotOps_eval (a : Act) : ∀ l : List (Nat × Option Ty), (slotOps l).map a.eval = (slotsOf l).map fun t => a.tmps.getD t undef
  | [] => rfl
  | (s, f) :: r => by simp only [slotOps, slotsOf, List.map_cons, slotOps_eval a r, Act.eval]

theorem frzAll_get : ∀ (ids : List Nat) {H : Hp} {i : Nat} {e : Ty} {xs : List e.T} {b : Bool}, hget H i = some (.row e xs b) → ∃ b', hget (frzAll ids H ++ H) i = some (.row e xs b')
  | [], H, i, e, xs, b, h => ⟨b, h⟩
  | j :: r, H, i, e, xs, b, h => by
    simp only [frzAll]
    split
    · rename_i e' xs' b' hj
      rw [List.cons_append, hget_cons]
      split
      · rename_i hji
        subst hji
        rw [h] at hj
        cases hj
        exact ⟨true, rfl⟩
      · exact frzAll_get r h
    · exact frzAll_get r h

theorem Hold.frzAll {c : Ctx} {M : Mem} {μ : Map} {H : Hp} {w : World} (h : Hold c M μ H w) : ∀ (ids : List Nat), ∃ M', M.le M' ∧ Hold c M' μ (frzAll ids H ++ H) w
  | [] => ⟨M, Mem.le.refl _, h⟩
  | j :: r => by
    obtain ⟨M1, l1, h1⟩ := Hold.frzAll h r
    simp only [Av.frzAll]
    split
    · rename_i e xs b hj
      obtain ⟨b', hb⟩ := frzAll_get r hj
      obtain ⟨M2, l2, h2, _⟩ := h1.freeze hb
      exact ⟨M2, l1.trans l2, h2⟩
    · exact ⟨M1, l1, h1⟩

theorem Hold.fzH {c : Ctx} {M : Mem} {μ : Map} {H : Hp} {w : World} (h : Hold c M μ H w) (ps ids : List Nat) : ∃ M', M.le M' ∧ Hold c M' μ (fzH ps ids H) w := h.frzAll (atAll ps ids)

section
variable {P : Program} {G : Nat → AV} {orc : Orc} {uorc : Nat → UEntry}

def UPost (c : Ctx) (μ : Map) (a : Act) (blks : List Blk) (outs : List (AExit × List (Nat × Option Ty))) (kills : List Nat) {R : Type} (K : AExit → List AV → List Blk → Option R) (r : R) (e : Exit) (a' : Act) (w' : World) : Prop :=
  ∃ x l as blks' M' μ', absX e = some x ∧ outsOf outs x = some l ∧ K x as blks' = some r ∧ Hold c M' μ' (enumB 0 blks') w' ∧ AVs M' μ' as ((slotsOf l).map fun t => a'.tmps.getD t undef) ∧
    (∀ j, j < nBox blks → μ' j = μ j) ∧ a'.defers = [] ∧ a'.tmps.size = a.tmps.size ∧ ∀ t, memB t kills = false → a'.tmps.getD t undef = a.tmps.getD t undef

def ucode (P : Program) (N : Nat) (ud : UDef) (loop : Bool) (body : AC) (c : Code) : Bool :=
  match loop with
  | true => (match c with | .loop c' => mcode P N ud.kills body c' | _ => false)
  | false => mcode P N ud.kills body c

def UnitOK (P : Program) (G : Nat → AV) (E : UEntry) (ud : UDef) (loop : Bool) (body : AC) : Prop :=
  ∀ {R : Type} {args : List AV} {blks : List Blk} {K : AExit → List AV → List Blk → Option R} {r : R}, E args blks K = some r →
    ∀ {code : Code} {c : Ctx} {M : Mem} {μ : Map} {a : Act} {w : World}, c.w0 = w → c.M0 = M → ucode P a.tmps.size ud loop body code = true → Hold c M μ (enumB 0 blks) w → GlobOk M G → AVs M μ args ((slotsOf ud.ins).map fun t => a.tmps.getD t undef) → a.defers = [] →
      (∀ i, blks.length ≤ i → μ i = none) → code.wp P (UPost c μ a blks ud.outs ud.kills K r) a w

structure UOK (P : Program) (G : Nat → AV) (E : UEntry) (ud : UDef) (loop : Bool) (body : AC) : Prop where
  ok : UnitOK P G E ud loop body

def AllU (P : Program) (G : Nat → AV) (uorc : Nat → UEntry) : AC → Prop
  | .seq a b => AllU P G uorc a ∧ AllU P G uorc b
  | .cond _ a b => AllU P G uorc a ∧ AllU P G uorc b
  | .block _ a => AllU P G uorc a
  | .scope a => AllU P G uorc a
  | .unit u ud l body => UOK P G (uorc u) ud l body
  | _ => True

theorem subL_mem {a b : List Nat} (h : subL a b = true) {t : Nat} (ht : memB t b = false) : memB t a = false := by
  cases hq : memB t a with
  | false => rfl
  | true => have := all_memB h hq; rw [this] at ht; cases ht

theorem ucode_of {N : Nat} {ks : List Nat} {u : Nat} {ud : UDef} {l : Bool} {body : AC} {c : Code} (h : mcode P N ks (.unit u ud l body) c = true) : subL ud.kills ks = true ∧ ucode P N ud l body c = true := by
  cases l with
  | true => cases c <;> simp only [mcode, Bool.and_eq_true, Bool.false_eq_true] at h <;> exact h
  | false => cases c <;> simp only [mcode, Bool.and_eq_true] at h <;> exact h

theorem region_code {N : Nat} {ks : List Nat} {its : List AItem} {code : Code} (h : mcode P N ks (.region its) code = true) : ∃ id ops, code = .region id ops false ∧ mitems P N ks ops its ops.toList = true := by
  cases code with
  | region id ops dr =>
    cases dr with
    | false => exact ⟨id, ops, rfl, h⟩
    | true => simp [mcode] at h
  | _ => simp [mcode] at h

theorem draw_code {N : Nat} {ks : List Nat} {its : List AItem} {code : Code} (h : mcode P N ks (.draw its) code = true) : ∃ id ops, code = .region id ops true ∧ mdraw P N ks ops its 0 its ops.toList = true ∧ distinct (dstsOf its) = true := by
  cases code with
  | region id ops dr =>
    cases dr with
    | true => simp only [mcode, Bool.and_eq_true] at h; exact ⟨id, ops, rfl, h⟩
    | false => simp [mcode] at h
  | _ => simp [mcode] at h

theorem evC_ok (hmo : P.follows .mixedOrders = true) (ho : OrcOK P G orc) : ∀ (ac : AC) (code : Code) {B : Base} {M : Mem} {μ : Map} {S : St} {a : Act} {w : World} {R : Type} {r : R} {K : AExit → St → Option R} {Q : Exit → Act → World → Prop},
    AllU P G uorc ac → mcode P B.a0.tmps.size B.kills ac code = true → SOk B P G M μ S a w → evC G orc uorc ac S K = some r →
    (∀ e x M' μ' S' a' w', absX e = some x → K x S' = some r → SOk B P G M' μ' S' a' w' → Q e a' w') → code.wp P Q a w
  | .bad, code, B, M, μ, S, a, w, R, r, K, Q, hu, hm, h, hr, hQ => by cases hr
  | .skip, code, B, M, μ, S, a, w, R, r, K, Q, hu, hm, h, hr, hQ => by
    cases code <;> simp only [mcode, Bool.false_eq_true] at hm
    exact wp_skip (hQ .normal .normal M μ S a w rfl hr h)
  | .label, code, B, M, μ, S, a, w, R, r, K, Q, hu, hm, h, hr, hQ => by
    cases code <;> simp only [mcode, Bool.false_eq_true] at hm
    exact wp_label (hQ .normal .normal M μ S a w rfl hr h)
  | .ret, code, B, M, μ, S, a, w, R, r, K, Q, hu, hm, h, hr, hQ => by
    cases code <;> simp only [mcode, Bool.false_eq_true] at hm
    exact wp_ret (hQ .ret .ret M μ S a w rfl hr h)
  | .exit i, code, B, M, μ, S, a, w, R, r, K, Q, hu, hm, h, hr, hQ => by
    cases code <;> simp only [mcode, Bool.false_eq_true] at hm
    rename_i j
    have := Nat.eq_of_beq_eq_true hm
    subst this
    exact wp_exit (hQ (.exit i) (.exit i) M μ S a w rfl hr h)
  | .seq x y, code, B, M, μ, S, a, w, R, r, K, Q, hu, hm, h, hr, hQ => by
    cases code <;> simp only [mcode, Bool.false_eq_true, Bool.and_eq_true] at hm
    simp only [evC] at hr
    refine wp_seq (evC_ok hmo ho x _ hu.1 hm.1 h hr ?_)
    intro e z M' μ' S' a' w' he hk h'
    cases e <;> simp only [absX, Option.some.injEq, reduceCtorEq] at he <;> subst he
    · exact evC_ok hmo ho y _ hu.2 hm.2 h' hk hQ
    · exact hQ _ _ M' μ' S' a' w' rfl hk h'
    · exact hQ _ _ M' μ' S' a' w' rfl hk h'
  | .cond c x y, code, B, M, μ, S, a, w, R, r, K, Q, hu, hm, h, hr, hQ => by
    cases code <;> simp only [mcode, Bool.false_eq_true, Bool.and_eq_true] at hm
    rename_i o t f
    simp only [evC] at hr
    split at hr
    case h_2 => cases hr
    rename_i v hv
    have h1 := mo_ok h.glob h.env hm.1.1
    rw [hv, AVV_bool] at h1
    refine wp_cond h1 ?_
    have hb : ∀ v : Bool, v = true ∨ v = false := fun v => by cases v <;> simp
    rcases hb v with e | e
    · rw [e] at hr ⊢
      exact evC_ok hmo ho x _ hu.1 hm.1.2 h hr hQ
    · rw [e] at hr ⊢
      exact evC_ok hmo ho y _ hu.2 hm.2 h hr hQ
  | .block i x, code, B, M, μ, S, a, w, R, r, K, Q, hu, hm, h, hr, hQ => by
    cases code <;> simp only [mcode, Bool.false_eq_true, Bool.and_eq_true] at hm
    rename_i j c
    have := Nat.eq_of_beq_eq_true hm.1
    subst this
    simp only [evC] at hr
    refine wp_block (evC_ok hmo ho x _ hu hm.2 h hr ?_)
    intro e z M' μ' S' a' w' he hk h'
    cases e <;> simp only [absX, Option.some.injEq, reduceCtorEq] at he <;> subst he
    · exact hQ _ _ M' μ' S' a' w' rfl hk h'
    · rename_i j
      simp only at hk
      show (if j = i then Q .normal a' w' else Q (.exit j) a' w')
      cases hq : Nat.beq j i with
      | true =>
        rw [hq] at hk
        rw [if_pos (Nat.eq_of_beq_eq_true hq)]
        exact hQ _ _ M' μ' S' a' w' rfl hk h'
      | false =>
        rw [hq] at hk
        rw [if_neg (fun e => by subst e; rw [Nat.beq_refl] at hq; cases hq)]
        exact hQ _ _ M' μ' S' a' w' rfl hk h'
    · exact hQ _ _ M' μ' S' a' w' rfl hk h'
  | .scope x, code, B, M, μ, S, a, w, R, r, K, Q, hu, hm, h, hr, hQ => by
    cases code <;> simp only [mcode, Bool.false_eq_true] at hm
    simp only [evC] at hr
    refine wp_scope_straight (evC_ok hmo ho x _ hu hm h hr ?_)
    intro e z M' μ' S' a' w' he hk h'
    have := hQ e z M' μ' S' a' w' he hk h'
    cases e <;> first | exact this | (cases he)
  | .region its, code, B, M, μ, S, a, w, R, r, K, Q, hu, hm, h, hr, hQ => by
    obtain ⟨id, ops, rfl, hm2⟩ := region_code hm
    simp only [evC] at hr
    refine wp_region_list (evItems_ok ho its _ hm2 h hr ?_)
    intro M' μ' S' a' w' hk h'
    exact hQ _ _ M' μ' S' a' w' rfl hk h'
  | .draw its, code, B, M, μ, S, a, w, R, r, K, Q, hu, hm, h, hr, hQ => by
    obtain ⟨id, ops, rfl, hm2⟩ := draw_code hm
    simp only [evC] at hr
    refine wp_draw hmo ⟨hm2.1, hm2.2⟩ ho h hr ?_
    intro M' μ' S' a' w' hk h'
    exact hQ _ _ M' μ' S' a' w' rfl hk h'
  | .unit u ud l body, code, B, M, μ, S, a, w, R, r, K, Q, hu, hm, h, hr, hQ => by
    obtain ⟨hsub, hcode⟩ := ucode_of hm
    simp only [evC] at hr
    split at hr
    case h_2 => cases hr
    rename_i as d has
    obtain ⟨M0, l0, H0, A0⟩ := evArgs_ok (asOpd ud.ins) (slotOps ud.ins) h.glob h.env (margs_asOpd _) has h.hold
    rw [slotOps_eval] at A0
    unfold aunit at hr
    generalize hids : reach (refsOf as) (d ++ S.H) = ids at hr
    obtain ⟨M1, l01, H1⟩ := H0.fzH ud.fz ids
    have A1 := A0.mono l01 (Map.le.refl _)
    have l1 := l0.trans l01
    generalize hHH : fzH ud.fz ids (d ++ S.H) = HH at hr H1
    cases hd : distinct ids with
    | false => rw [hd] at hr; simp at hr
    | true =>
      rw [hd] at hr
      simp only [cond_true] at hr
      split at hr
      case h_2 => cases hr
      rename_i blks htake
      obtain ⟨hexp, hρ⟩ := H1.outTo hd htake
      have hlen := (take_some htake).1
      have hC := hu.ok hr (code := code) (c := ⟨w, fun b => ∃ i k l, i ∈ ids ∧ hget HH i = some k ∧ μ i = some l ∧ l.blk = some b, M1⟩) (a := a) rfl rfl (by rw [h.size]; exact hcode) hexp (h.glob.mono l1) (A1.ren hρ) h.defs (fun i hi => by
        rw [List.getElem?_eq_none (by omega)]; rfl)
      refine wp_mono hC ?_
      rintro e a' w' ⟨x, lo, outs, blks', M', μ', he, hlo, hK, hH', hv', hbx, hdef, hsz, hkp⟩
      simp only [hlo] at hK
      have hfr : ∀ i, S.nid ≤ i → i < S.nid + blks'.length → μ i = none := fun i h1 _ => h.fresh i h1
      obtain ⟨B1, B2, B3, B4⟩ := H1.back (nb := nBox blks) (by rw [← hlen]; exact nBox_le blks) (fun i hi => by
        obtain ⟨j, hj⟩ := List.mem_iff_getElem?.1 hi
        obtain ⟨k, hk, _⟩ := (take_some htake).2 j i hj
        exact ⟨k, hk⟩) hfr hH' (fun j i hj hi => by
          rw [hbx j hj]; show (ids[j]?).bind μ = μ i; rw [hi]; rfl) hd
      have hM : M.le M' := l1.trans hH'.mle
      have A2 := hv'.ren B3
      refine hQ e x M' _ _ a' w' he hK ⟨by simpa only [List.append_assoc] using B1, h.glob.mono hM, ?_, fun i hi => ?_, hdef, hsz.trans h.size, h.base.trans B2, fun t ht => (hkp t (subL_mem hsub ht)).trans (h.keep t ht)⟩
      · intro t
        simp only [St.get, alGet_append]
        cases hz : alGet (zipO (slotsOf lo) (outs.map (AV.ren (backTo ids (nBox blks) S.nid blks'.length)))) t with
        | some v => exact zipO_get (f := fun t => a'.tmps.getD t undef) A2 hz
        | none =>
          simp only [alGet_dropKs]
          cases hq : memB t ud.kills with
          | true => trivial
          | false =>
            simp only [Bool.false_eq_true, if_false]
            rw [hkp t hq]
            exact (h.env t).mono hM B2
      · simp only at hi
        cases hq : backMap μ μ' S.nid blks'.length i with
        | none => rfl
        | some z =>
          rcases B4 i (by rw [hq]; simp) with h1 | h1
          · exact absurd (h.fresh i (by omega)) h1
          · omega
end
end Go.Av
