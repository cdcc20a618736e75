/-
  Pieces of code, loops and functions as typed functions.
-/
import Derived.Test.YtlemoepklgfjoaaDoorA27
namespace Go.Av

inductive ARes where
  | tmp (t : Nat) (fz : Option Ty)
  | cell (t n : Nat) (agg : Bool) (fz : Option Ty)

structure FDef where
  np : Nat
  nt : Nat
  res : List ARes
  body : AC

def frz (fz : Option Ty) (v : AV) (H : Hp) : Option (AV × Hp) :=
  match fz with
  | none => bif v.live then some (v, []) else none
  | some τ => (match toTF τ v H with
    | some (y, d) => some (.tv τ y, d)
    | none => none)

def evRes (S : St) : List ARes → Hp → Option (List AV × Hp)
  | [], _ => some ([], [])
  | .tmp t fz :: r, H => (match frz fz (S.get t) H with
    | some (v, d) => (match evRes S r (d ++ H) with
      | some (as, d') => some (v :: as, d' ++ d)
      | none => none)
    | none => none)
  | .cell t n agg fz :: r, H => (match readAt H (S.get t) with
    | some v => bif Nat.beq v.nsz n && (v.isAgg == agg) then (match frz fz v H with
      | some (v, d) => (match evRes S r (d ++ H) with
        | some (as, d') => some (v :: as, d' ++ d)
        | none => none)
      | none => none) else none
    | none => none)

def resOut : List AV → AV
  | [a] => a
  | l => .tup (chainOf l)

section
variable {R : Type}
def evU (G : Nat → AV) (orc : Orc) (uorc : Nat → UEntry) (ud : UDef) (body : AC) (args : List AV) (blks : List Blk) (K : AExit → List AV → List Blk → Option R) : Option R :=
  evC G orc uorc body ⟨zipO (slotsOf ud.ins) args, enumB 0 blks, blks.length⟩ fun x S => exitU G ud.outs (nBox blks) x S K

def evL (G : Nat → AV) (orc : Orc) (uorc : Nat → UEntry) (ud : UDef) (body : AC) (E : UEntry) (args : List AV) (blks : List Blk) (K : AExit → List AV → List Blk → Option R) : Option R :=
  evC G orc uorc body ⟨zipO (slotsOf ud.ins) args, enumB 0 blks, blks.length⟩ fun x S => (match x with
    | .normal => (match evArgs G S (asOpd ud.ins) S.H with
      | some (as, d) => exportK (nBox blks) as (fzH ud.fz (outIds (nBox blks) (refsOf as) (d ++ S.H)) (d ++ S.H)) fun as' blks' => bif Nat.ble (nBox blks) (nBox blks') then E as' blks' K else none
      | none => none)
    | .exit i => exitU G ud.outs (nBox blks) (.exit i) S K
    | .ret => exitU G ud.outs (nBox blks) .ret S K)

def evF (G : Nat → AV) (orc : Orc) (uorc : Nat → UEntry) (fd : FDef) (args : List AV) (blks : List Blk) (K : AExit → List AV → List Blk → Option R) : Option R :=
  bif Nat.beq args.length fd.np then evC G orc uorc fd.body ⟨zipO (rangeL 0 fd.np) args, enumB 0 blks, blks.length⟩ fun x S => (match x with
    | .exit _ => none
    | _ => (match evRes S fd.res S.H with
      | some (as, d) => exportK (nBox blks) [resOut as] (d ++ S.H) (K .ret)
      | none => none)) else none
end

def mres (P : Program) : List ARes → List ResultVar → Bool
  | [], [] => true
  | .tmp t _ :: r, .tmp t' :: r' => Nat.beq t t' && mres P r r'
  | .cell t n agg _ :: r, .cell t' T :: r' => Nat.beq t t' && isSz P T n agg && mres P r r'
  | _, _ => false

def mfn (P : Program) (fd : FDef) (fn : Func) : Bool :=
  (match fn.body with | some c => mcode P fd.nt (rangeL 0 fd.nt) fd.body c | none => false) && Nat.beq fn.ntmps fd.nt && Nat.ble fd.np fd.nt && mres P fd.res fn.results.toList && !(fn.name == "runtime.NumGoroutine")

/-- What an entry that ends as a function does tells of the machine's call. -/
def FU (P : Program) (G : Nat → AV) (f : FuncId) (E : UEntry) : Prop :=
  ∀ {R : Type} {args : List AV} {blks : List Blk} {K : AExit → List AV → List Blk → Option R} {r : R}, E args blks K = some r →
    (∃ fn, P.funcs[f]? = some fn ∧ (fn.name == "runtime.NumGoroutine") = false ∧ fn.body.isNone = false) ∧
    ∀ {c : Ctx} {M : Mem} {μ : Map} {w : World} {vs : List Value}, c.w0 = w → c.M0 = M → Hold c M μ (enumB 0 blks) w → GlobOk M G → AVs M μ args vs → (∀ i, blks.length ≤ i → μ i = none) →
      Calls P f vs.toArray w fun e w' => ∃ v out blks' M' μ', e = .returned v ∧ K .ret [out] blks' = some r ∧ Hold c M' μ' (enumB 0 blks') w' ∧ AVV M' μ' out v ∧ ∀ j, j < nBox blks → μ' j = μ j

theorem FnOK_of {P : Program} {G : Nat → AV} {f : FuncId} {E : UEntry} (h : FU P G f E) : FnOK P G f (fnE E) := by
  intro R args blks K r hr
  obtain ⟨h1, h2⟩ := h hr
  refine ⟨h1, fun h3 h4 h5 h6 h7 h8 => ?_⟩
  refine (h2 h3 h4 h5 h6 h7 h8).mono ?_
  rintro e w' ⟨v, out, blks', M', μ', he, hK, hrest⟩
  exact ⟨v, out, blks', M', μ', he, hK, hrest⟩

section
variable {P : Program} {G : Nat → AV} {orc : Orc} {uorc : Nat → UEntry}

theorem AVs.length_eq {M : Mem} {μ : Map} : ∀ {as : List AV} {vs : List Value}, AVs M μ as vs → as.length = vs.length
  | [], _, h => by simp only [AVs] at h; subst h; rfl
  | _ :: _, _, ⟨v, vr, e, _, h⟩ => by subst e; simp [h.length_eq]

/-- What leaves a piece of code. -/
theorem export_ok {c : Ctx} {M : Mem} {μ0 μ : Map} {H : Hp} {w : World} {nb : Nat} {as : List AV} {vs : List Value} {R : Type} {K : List AV → List Blk → Option R} {r : R} (hH : Hold c M μ H w) (ha : AVs M μ as vs) (h0 : ∀ j, j < nb → μ j = μ0 j) (hr : exportK nb as H K = some r) :
    ∃ as' blks' μ', K as' blks' = some r ∧ Hold c M μ' (enumB 0 blks') w ∧ AVs M μ' as' vs ∧ (∀ j, j < nb → μ' j = μ0 j) ∧ (∀ i, blks'.length ≤ i → μ' i = none) ∧ ∃ f, as' = as.map f := by
  unfold exportK at hr
  generalize hids : outIds nb (refsOf as) H = ids at hr
  cases hd : distinct ids with
  | false => rw [hd] at hr; cases hr
  | true =>
    rw [hd] at hr
    simp only [cond_true] at hr
    split at hr
    case h_2 => cases hr
    rename_i blks' ht
    obtain ⟨h1, h2, h3⟩ := hH.view hd ht
    refine ⟨_, blks', _, hr, h1, ha.ren h2, fun j hj => ?_, fun i hi => ?_, _, rfl⟩
    · show (ids[j]?).bind μ = μ0 j
      rw [← hids, outIds_get hj]
      exact h0 j hj
    · show (ids[i]?).bind μ = none
      rw [List.getElem?_eq_none (by omega)]; rfl

theorem Map.le.eq {μ0 μ : Map} (h : μ0.le μ) {j : Nat} (hn : μ0 j ≠ none) : μ j = μ0 j := by
  cases hq : μ0 j with
  | none => exact absurd hq hn
  | some y => exact h _ _ hq

theorem exitU_ok {c : Ctx} {μ0 : Map} {a0 : Act} {kills : List Nat} {M : Mem} {μ : Map} {S : St} {a' : Act} {w' : World} {blks : List Blk} {outs : List (AExit × List (Nat × Option Ty))} {R : Type} {K : AExit → List AV → List Blk → Option R} {r : R} {e : Exit} {x : AExit}
    (h : SOk ⟨c, μ0, a0, kills⟩ P G M μ S a' w') (he : absX e = some x) (hμ : ∀ j, j < nBox blks → μ0 j ≠ none) (hr : exitU G outs (nBox blks) x S K = some r) : UPost c μ0 a0 blks outs kills K r e a' w' := by
  unfold exitU at hr
  split at hr
  case h_2 => cases hr
  rename_i l hl
  split at hr
  case h_2 => cases hr
  rename_i as d has
  obtain ⟨M1, l1, H1, A1⟩ := evArgs_ok (asOpd l) (slotOps l) h.glob h.env (margs_asOpd _) has h.hold
  rw [slotOps_eval] at A1
  obtain ⟨as', blks', μ', h1, h2, h3, h4, _⟩ := export_ok H1 A1 (fun j hj => h.base.eq (hμ j hj)) hr
  exact ⟨x, l, as', blks', M1, μ', he, hl, h1, h2, h3, h4, h.defs, h.size, h.keep⟩

theorem nBox_some {c : Ctx} {M : Mem} {μ : Map} {blks : List Blk} {w : World} (h : Hold c M μ (enumB 0 blks) w) {j : Nat} (hj : j < nBox blks) : μ j ≠ none := by
  have hjl : j < blks.length := Nat.lt_of_lt_of_le hj (nBox_le blks)
  have : hget (enumB 0 blks) j = some blks[j] := by
    rw [enumB_get, if_pos (Nat.zero_le _), Nat.sub_zero]; exact List.getElem?_eq_getElem hjl
  obtain ⟨l, hl, _⟩ := h.blks j _ this
  rw [hl]; simp

theorem SOk_start {c : Ctx} {M : Mem} {μ : Map} {a : Act} {w : World} {kills : List Nat} {args : List AV} {blks : List Blk} {l : List Nat} (hH : Hold c M μ (enumB 0 blks) w) (hG : GlobOk M G) (ha : AVs M μ args (l.map fun t => a.tmps.getD t undef)) (hd : a.defers = []) (hf : ∀ i, blks.length ≤ i → μ i = none) :
    SOk ⟨c, μ, a, kills⟩ P G M μ ⟨zipO l args, enumB 0 blks, blks.length⟩ a w :=
  ⟨hH, hG, EnvOk_zip ha, hf, hd, rfl, Map.le.refl _, fun _ _ => rfl⟩

theorem unit_ok (hmo : P.follows .mixedOrders = true) (ho : OrcOK P G orc) {ud : UDef} {body : AC} (hu : AllU P G uorc body) {E : UEntry}
    (hE : ∀ {R : Type} (args : List AV) (blks : List Blk) (K : AExit → List AV → List Blk → Option R) (r : R), E args blks K = some r → evU G orc uorc ud body args blks K = some r) : UnitOK P G E ud false body := by
  intro R args blks K r hr code c M μ a w _ _ hc hH hG ha hd hf
  refine evC_ok (B := ⟨c, μ, a, ud.kills⟩) hmo ho body code hu hc (SOk_start hH hG ha hd hf) (hE _ _ _ _ hr) ?_
  intro e x M' μ' S' a' w' he hk h'
  exact exitU_ok h' he (fun j hj => nBox_some hH hj) hk

theorem loop_ok (hmo : P.follows .mixedOrders = true) (ho : OrcOK P G orc) {ud : UDef} {body : AC} (hu : AllU P G uorc body) {E : Nat → UEntry}
    (h0 : ∀ {R : Type} (args : List AV) (blks : List Blk) (K : AExit → List AV → List Blk → Option R) (r : R), E 0 args blks K ≠ some r)
    (hE : ∀ (n : Nat) {R : Type} (args : List AV) (blks : List Blk) (K : AExit → List AV → List Blk → Option R) (r : R), E (n + 1) args blks K = some r → evL G orc uorc ud body (E n) args blks K = some r) (n : Nat) : UnitOK P G (E n) ud true body := by
  intro R args blks K r hr code c M μ a w _ _ hc hH hG ha hd hf
  unfold ucode at hc
  simp only at hc
  split at hc
  case h_2 => cases hc
  rename_i c'
  refine wp_loop_ghost (fun n a' w' => ∃ args' blks' M' μ', E n args' blks' K = some r ∧ Hold c M' μ' (enumB 0 blks') w' ∧ GlobOk M' G ∧ AVs M' μ' args' ((slotsOf ud.ins).map fun t => a'.tmps.getD t undef) ∧ a'.defers = [] ∧ (∀ i, blks'.length ≤ i → μ' i = none) ∧
      nBox blks ≤ nBox blks' ∧ (∀ j, j < nBox blks → μ' j = μ j) ∧ a'.tmps.size = a.tmps.size ∧ ∀ t, memB t ud.kills = false → a'.tmps.getD t undef = a.tmps.getD t undef) n
    ⟨args, blks, M, μ, hr, hH, hG, ha, hd, hf, Nat.le_refl _, fun _ _ => rfl, rfl, fun _ _ => rfl⟩ ?_
  rintro n a1 w1 ⟨args1, blks1, M1, μ1, hr1, hH1, hG1, ha1, hd1, hf1, hnb, hμ1, hsz1, hk1⟩
  cases n with
  | zero => exact absurd hr1 (h0 _ _ _ _)
  | succ n =>
    refine evC_ok (B := ⟨c, μ1, a1, ud.kills⟩) hmo ho body c' hu (by rw [hsz1]; exact hc) (SOk_start hH1 hG1 ha1 hd1 hf1) (hE _ _ _ _ _ hr1) ?_
    intro e x M' μ' S' a' w' he hk h'
    have post : ∀ {x}, absX e = some x → exitU G ud.outs (nBox blks1) x S' K = some r → UPost c μ a blks ud.outs ud.kills K r e a' w' := by
      intro x he hk
      obtain ⟨x', l, as, blks', M2, μ2, p1, p2, p3, p4, p5, p6, p7, p8, p9⟩ := exitU_ok h' he (fun j hj => nBox_some hH1 hj) hk
      exact ⟨x', l, as, blks', M2, μ2, p1, p2, p3, p4, p5, fun j hj => (p6 j (Nat.lt_of_lt_of_le hj hnb)).trans (hμ1 j hj), p7, p8.trans hsz1, fun t ht => (p9 t ht).trans (hk1 t ht)⟩
    cases e with
    | normal =>
      simp only [absX, Option.some.injEq] at he
      subst he
      simp only at hk
      split at hk
      case h_2 => cases hk
      rename_i as d has
      obtain ⟨M0, l0, H0, A0⟩ := evArgs_ok (asOpd ud.ins) (slotOps ud.ins) h'.glob h'.env (margs_asOpd _) has h'.hold
      rw [slotOps_eval] at A0
      obtain ⟨M2, l02, H2⟩ := H0.fzH ud.fz (outIds (nBox blks1) (refsOf as) (d ++ S'.H))
      have A2 := A0.mono l02 (Map.le.refl _)
      have l2 := l0.trans l02
      obtain ⟨as', blks', μ2, q1, q2, q3, q4, q5, _⟩ := export_ok H2 A2 (fun j hj => h'.base.eq (nBox_some hH1 hj)) hk
      cases hb : Nat.ble (nBox blks1) (nBox blks') with
      | false => rw [hb] at q1; cases q1
      | true =>
        rw [hb] at q1
        exact ⟨n, Nat.lt_succ_self _, as', blks', M2, μ2, q1, q2, h'.glob.mono l2, q3, h'.defs, q5, Nat.le_trans hnb (Nat.le_of_ble_eq_true hb), fun j hj => (q4 j (Nat.lt_of_lt_of_le hj hnb)).trans (hμ1 j hj), h'.size.trans hsz1, fun t ht => (h'.keep t ht).trans (hk1 t ht)⟩
    | exit i =>
      simp only [absX, Option.some.injEq] at he
      subst he
      exact post rfl hk
    | ret =>
      simp only [absX, Option.some.injEq] at he
      subst he
      exact post rfl hk
    | goto l => cases he
    | panic ch => cases he
    | outgrown => cases he

theorem frz_ok {c : Ctx} {M : Mem} {μ : Map} {w : World} {fz : Option Ty} {v v' : AV} {H d : Hp} {x : Value} (h : frz fz v H = some (v', d)) (hH : Hold c M μ H w) (hv : AVV M μ v x) : ∃ M', M.le M' ∧ Hold c M' μ (d ++ H) w ∧ AVV M' μ v' x ∧ v'.live = true := by
  cases fz with
  | none =>
    simp only [frz] at h
    cases hl : v.live with
    | false => rw [hl] at h; cases h
    | true =>
      rw [hl] at h
      simp only [cond_true, Option.some.injEq, Prod.mk.injEq] at h
      obtain ⟨rfl, rfl⟩ := h
      exact ⟨M, Mem.le.refl _, hH, hv, hl⟩
  | some τ =>
    simp only [frz] at h
    split at h
    case h_2 => cases h
    rename_i y d1 h1
    simp only [Option.some.injEq, Prod.mk.injEq] at h
    obtain ⟨rfl, rfl⟩ := h
    obtain ⟨M1, l1, H1, cs, t1, v1⟩ := toTF_AVV h1 hH hv
    exact ⟨M1, l1, H1, AVV_tv.2 ⟨cs, t1, v1⟩, rfl⟩

def resRun (tmps : Array Value) : ResultVar → Sem Value
  | .tmp t => pure (tmps.getD t undef)
  | .cell a t => do loadVar t (← asAddr (tmps.getD a undef))

theorem evRes_ok {c : Ctx} {μ : Map} {w : World} {S : St} {a : Act} : ∀ (rs : List ARes) (xs : List ResultVar) {M : Mem} {H : Hp} {as : List AV} {d : Hp}, EnvOk M μ S a → mres P rs xs = true → evRes S rs H = some (as, d) → Hold c M μ H w →
    ∃ M' vs, M.le M' ∧ Hold c M' μ (d ++ H) w ∧ AVs M' μ as vs ∧ allLive as = true ∧ (xs.mapM (resRun a.tmps)).run P w = .ok vs w
  | [], [], M, H, as, d, _, _, h, hH => by
    simp only [evRes, Option.some.injEq, Prod.mk.injEq] at h
    obtain ⟨rfl, rfl⟩ := h
    exact ⟨M, [], Mem.le.refl _, hH, rfl, rfl, rfl⟩
  | .tmp t fz :: rs, .tmp t' :: xs, M, H, as, d, hE, hm, h, hH => by
    simp only [mres, Bool.and_eq_true] at hm
    have := Nat.eq_of_beq_eq_true hm.1
    subst this
    simp only [evRes] at h
    split at h
    case h_2 => cases h
    rename_i v d1 h1
    split at h
    case h_2 => cases h
    rename_i as' d' h2
    simp only [Option.some.injEq, Prod.mk.injEq] at h
    obtain ⟨rfl, rfl⟩ := h
    obtain ⟨M1, l1, H1, A1, L1⟩ := frz_ok h1 hH (hE t)
    obtain ⟨M2, vs, l2, H2, A2, L2, R2⟩ := evRes_ok rs xs (fun t => (hE t).mono l1 (Map.le.refl _)) hm.2 h2 H1
    refine ⟨M2, _ :: vs, l1.trans l2, by simpa only [List.append_assoc] using H2, ⟨_, _, rfl, A1.mono l2 (Map.le.refl _), A2⟩, by simp [allLive, L1, L2], ?_⟩
    simp only [List.mapM_cons, resRun, Sem.run_bind, Sem.run_pure, Result.andThen_ok, R2]
  | .cell t n agg fz :: rs, .cell t' T :: xs, M, H, as, d, hE, hm, h, hH => by
    simp only [mres, Bool.and_eq_true] at hm
    obtain ⟨⟨hm1, hm2⟩, hm3⟩ := hm
    have := Nat.eq_of_beq_eq_true hm1
    subst this
    simp only [evRes] at h
    split at h
    case h_2 => cases h
    rename_i v0 h0
    cases hb : (Nat.beq v0.nsz n && (v0.isAgg == agg)) with
    | false => rw [hb] at h; cases h
    | true =>
      rw [hb] at h
      simp only [Bool.and_eq_true, beq_iff_eq] at hb
      have hn := Nat.eq_of_beq_eq_true hb.1
      simp only [cond_true] at h
      split at h
      case h_2 => cases h
      rename_i v d1 h1
      split at h
      case h_2 => cases h
      rename_i as' d' h2
      simp only [Option.some.injEq, Prod.mk.injEq] at h
      obtain ⟨rfl, rfl⟩ := h
      obtain ⟨b, o1, mid, hva, hrng, hmid⟩ := readAt_ok hH (hE t) h0
      obtain ⟨dd, inf, hdd, hi, hsz, hag, hone⟩ := isSz_ty hm2
      obtain ⟨v', hv'⟩ := VofC_ex (agg := agg) (cs := mid) (fun h => by rw [hmid.length, hn, hone h])
      have hld := run_load_at hm2 hrng (by rw [hmid.length, hn]) hv'
      obtain ⟨M1, l1, H1, A1, L1⟩ := frz_ok h1 hH (AVV_of hmid (by rw [hb.2]; exact hv'))
      obtain ⟨M2, vs, l2, H2, A2, L2, R2⟩ := evRes_ok rs xs (fun t => (hE t).mono l1 (Map.le.refl _)) hm3 h2 H1
      refine ⟨M2, _ :: vs, l1.trans l2, by simpa only [List.append_assoc] using H2, ⟨_, _, rfl, A1.mono l2 (Map.le.refl _), A2⟩, by simp [allLive, L1, L2], ?_⟩
      have e1 : (resRun a.tmps (.cell t T)).run P w = .ok v' w := by
        rw [← hld]
        simp only [resRun, hva]
        rfl
      simp only [List.mapM_cons, Sem.run_bind, Sem.run_pure, e1, Result.andThen_ok, R2]
  | [], _ :: _, _, _, _, _, _, hm, _, _ => by simp [mres] at hm
  | .tmp _ _ :: _, [], _, _, _, _, _, hm, _, _ => by simp [mres] at hm
  | .cell _ _ _ _ :: _, [], _, _, _, _, _, hm, _, _ => by simp [mres] at hm
  | .tmp _ _ :: _, .cell _ _ :: _, _, _, _, _, _, hm, _, _ => by simp [mres] at hm
  | .cell _ _ _ _ :: _, .tmp _ :: _, _, _, _, _, _, hm, _, _ => by simp [mres] at hm

theorem AVL_chain {M : Mem} {μ : Map} : ∀ {as : List AV} {vs : List Value}, AVs M μ as vs → allLive as = true → AVL M μ (chainOf as) vs
  | [], vs, h, _ => by simp only [AVs] at h; subst h; simp only [chainOf, AVL]
  | a :: as, vs, ⟨v, vr, e, h1, h2⟩, hl => by
    subst e
    simp only [allLive, Bool.and_eq_true] at hl
    obtain ⟨c, h3, h4⟩ := AVV_live h1 hl.1
    simp only [chainOf, AVL]
    exact ⟨v, vr, c, rfl, h3, h4, AVL_chain h2 hl.2⟩

theorem resOut_ok {M : Mem} {μ : Map} {as : List AV} {vs : List Value} (h : AVs M μ as vs) (hl : allLive as = true) : AVV M μ (resOut as) (if h : vs.length = 1 then vs[0] else .tuple vs.toArray) := by
  rcases as with _ | ⟨a, _ | ⟨b, as⟩⟩
  · simp only [AVs] at h
    subst h
    simp only [resOut, List.length_nil, Nat.zero_ne_one, dite_false]
    exact ⟨[], rfl, AVL_chain (as := []) rfl rfl⟩
  · obtain ⟨v, vr, e, h1, h2⟩ := h
    simp only [AVs] at h2
    subst h2; subst e
    simpa [resOut] using h1
  · have h' := h
    obtain ⟨v, vr, e, h1, v2, vr2, e2, _, _⟩ := h'
    subst e; subst e2
    have : ¬ (v :: v2 :: vr2).length = 1 := by simp
    rw [dif_neg this]
    exact ⟨_, rfl, AVL_chain h hl⟩

theorem results_run {fn : Func} {tmps : Array Value} {w : World} {vs : List Value} (h : (fn.results.toList.mapM (resRun tmps)).run P w = .ok vs w) : (results fn tmps).run P w = .ok (if h : vs.length = 1 then vs[0] else .tuple vs.toArray) w := by
  have e : results fn tmps = (do let vs ← fn.results.mapM (resRun tmps); pure (if h : vs.size = 1 then vs[0] else .tuple vs)) := by
    unfold results
    congr 1
  rw [e, Array.mapM_eq_mapM_toList]
  simp only [Sem.run_bind, Sem.run_map, h, Result.andThen_ok, Sem.run_pure]
  simp

theorem fd_ok (hmo : P.follows .mixedOrders = true) (ho : OrcOK P G orc) {fd : FDef} (hu : AllU P G uorc fd.body) {f : FuncId} {fn : Func} (hf : P.funcs[f]? = some fn) (hm : mfn P fd fn = true) : FU P G f (fun args blks K => evF G orc uorc fd args blks K) := by
  intro R args blks K r hr
  unfold mfn at hm
  simp only [Bool.and_eq_true, Bool.not_eq_true'] at hm
  obtain ⟨⟨⟨⟨hb, hn⟩, hnp⟩, hres⟩, hname⟩ := hm
  have hn := Nat.eq_of_beq_eq_true hn
  have hnp := Nat.le_of_ble_eq_true hnp
  split at hb
  case h_2 => cases hb
  rename_i code hbody
  refine ⟨⟨fn, hf, hname, by rw [hbody]; rfl⟩, ?_⟩
  intro c M μ w vs _ _ hH hG ha hfr
  change evF G orc uorc fd args blks K = some r at hr
  unfold evF at hr
  cases hq : Nat.beq args.length fd.np with
  | false => rw [hq] at hr; cases hr
  | true =>
    rw [hq] at hr
    simp only [cond_true] at hr
    have hlen := Nat.eq_of_beq_eq_true hq
    have hvl := ha.length_eq
    have hsize : (vs.toArray ++ Array.replicate (fn.ntmps - vs.toArray.size) undef).size = fd.nt := by simp; omega
    have hslots : (rangeL 0 fd.np).map (fun t => (vs.toArray ++ Array.replicate (fn.ntmps - vs.toArray.size) undef).getD t undef) = vs := by
      apply List.ext_getElem?
      intro i
      by_cases hi : i < fd.np
      · rw [List.getElem?_map, rangeL_get fd.np 0 i hi]
        simp only [Nat.zero_add, Option.map_some]
        rw [Array.getD_eq_getD_getElem?, Array.getElem?_append_left (by simp; omega)]
        have : i < vs.length := by omega
        simp [this]
      · rw [List.getElem?_eq_none (by simp [rangeL_len]; omega), List.getElem?_eq_none (by omega)]
    refine calls_of_wp hf hbody ?_
    refine evC_ok (B := ⟨c, μ, ⟨vs.toArray ++ Array.replicate (fn.ntmps - vs.toArray.size) undef, []⟩, rangeL 0 fd.nt⟩) hmo ho fd.body code hu (by rw [hsize]; exact hb) (SOk_start hH hG (by rw [hslots]; exact ha) rfl hfr) hr ?_
    intro e x M' μ' S' a' w' he hk h'
    have fin : ∀ {o : Option (List AV × Hp)}, o = evRes S' fd.res S'.H → (match o with
      | some (as, d) => exportK (nBox blks) [resOut as] (d ++ S'.H) (K .ret)
      | none => none) = some r → a'.defers = [] ∧ ∃ v, (results fn a'.tmps).run P w' = .ok v w' ∧ ∃ v1 out blks' M' μ', Ending.returned v = .returned v1 ∧ K .ret [out] blks' = some r ∧ Hold c M' μ' (enumB 0 blks') w' ∧ AVV M' μ' out v1 ∧ ∀ j, j < nBox blks → μ' j = μ j := by
      intro o ho hk
      split at hk
      case h_2 => cases hk
      rename_i as d
      obtain ⟨M1, us, l1, H1, A1, L1, R1⟩ := evRes_ok fd.res fn.results.toList h'.env hres ho.symm h'.hold
      have A2 := resOut_ok A1 L1
      obtain ⟨as', blks', μ1, q1, q2, q3, q4, _, f, rfl⟩ := export_ok (as := [resOut as]) H1 ⟨_, _, rfl, A2, rfl⟩ (fun j hj => h'.base.eq (nBox_some hH hj)) hk
      obtain ⟨v1, vr, e1, B1, B2⟩ := q3
      cases e1
      exact ⟨h'.defs, _, results_run R1, _, _, blks', M1, μ1, rfl, q1, q2, B1, q4⟩
    cases e with
    | normal =>
      simp only [absX, Option.some.injEq] at he
      subst he
      exact fin rfl hk
    | ret =>
      simp only [absX, Option.some.injEq] at he
      subst he
      exact fin rfl hk
    | exit i =>
      simp only [absX, Option.some.injEq] at he
      subst he
      cases hk
    | goto l => cases he
    | panic ch => cases he
    | outgrown => cases he
end
end Go.Av
