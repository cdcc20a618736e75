/-
  An operation or a call, as one step; a statement's list of them in the text's order.
-/
import Derived.Test.YtlemoepklgfjoaaDoorA17
namespace Go.Av
section
variable {P : Program}

def AVs (M : Mem) (μ : Map) : List AV → List Value → Prop
  | [], vs => vs = []
  | a :: r, vs => ∃ v vr, vs = v :: vr ∧ AVV M μ a v ∧ AVs M μ r vr

theorem AVs.mono {M M' : Mem} {μ μ' : Map} (hM : M.le M') (hμ : μ.le μ') : ∀ {as : List AV} {vs : List Value}, AVs M μ as vs → AVs M' μ' as vs
  | [], _, h => h
  | _ :: _, _, ⟨v, vr, e, h1, h2⟩ => ⟨v, vr, e, h1.mono hM hμ, AVs.mono hM hμ h2⟩

theorem AVs.append {M : Mem} {μ : Map} : ∀ {as bs : List AV} {vs us : List Value}, AVs M μ as vs → AVs M μ bs us → AVs M μ (as ++ bs) (vs ++ us)
  | [], _, _, _, h, k => by simp only [AVs] at h; subst h; exact k
  | _ :: _, _, _, _, ⟨v, vr, e, h1, h2⟩, k => by subst e; exact ⟨v, _, rfl, h1, AVs.append h2 k⟩

theorem AVs.ren {M : Mem} {μ μ' : Map} {ρ : Nat → Option Nat} (h : ∀ i j, ρ i = some j → μ' j = μ i) : ∀ {as : List AV} {vs : List Value}, AVs M μ as vs → AVs M μ' (as.map (AV.ren ρ)) vs
  | [], _, h => h
  | _ :: _, _, ⟨v, vr, e, h1, h2⟩ => ⟨v, vr, e, AVV_ren h h1, AVs.ren h h2⟩

def chainList : AV → List AV
  | .cons a b => a :: chainList b
  | _ => []

theorem AVL_list {M : Mem} {μ : Map} : ∀ {a : AV} {vs : List Value}, AVL M μ a vs → AVs M μ (chainList a) vs
  | .cons a b, vs, h => by
    simp only [AVL] at h
    obtain ⟨v, r, c, e, h1, h2, h3⟩ := h
    exact ⟨v, r, e, AVV_of h1 h2, AVL_list h3⟩
  | .nil, vs, h => by simp only [AVL] at h; exact h
  | .tv _ _, _, h | .ptr _ _, _, h | .row _, _, h | .fp _ _, _, h | .obj _, _, h | .mp _, _, h | .sln _ _ _, _, h | .nilp, _, h | .nilf, _, h | .fn _ _ _, _, h | .tup _, _, h | .junk, _, h | .dead, _, h => by simp only [AVL] at h

/-- A function's own part of the bargain: where the abstract call answers, the machine's call does, and so. -/
def FnOK (P : Program) (G : Nat → AV) (f : FuncId) (E : Entry) : Prop :=
  ∀ {R : Type} {args : List AV} {blks : List Blk} {K : AV → List Blk → Option R} {r : R}, E args blks K = some r →
    (∃ fn, P.funcs[f]? = some fn ∧ (fn.name == "runtime.NumGoroutine") = false ∧ fn.body.isNone = false) ∧
    ∀ {c : Ctx} {M : Mem} {μ : Map} {w : World} {vs : List Value}, c.w0 = w → c.M0 = M → Hold c M μ (enumB 0 blks) w → GlobOk M G → AVs M μ args vs → (∀ i, blks.length ≤ i → μ i = none) →
      Calls P f vs.toArray w fun e w' => ∃ v out blks' M' μ', e = .returned v ∧ K out blks' = some r ∧ Hold c M' μ' (enumB 0 blks') w' ∧ AVV M' μ' out v ∧ ∀ j, j < nBox blks → μ' j = μ j

abbrev Orc := FuncId → Entry

/-- What an entry tells does not hang on what is done with it. -/
def Natural (E : Entry) : Prop := ∀ {R : Type} (args : List AV) (blks : List Blk) (K : AV → List Blk → Option R), E args blks K = (E args blks fun o b => some (o, b)).bind fun p => K p.1 p.2

structure OrcOK (P : Program) (G : Nat → AV) (orc : Orc) : Prop where
  ok : ∀ f, FnOK P G f (orc f)
  nat : ∀ f, Natural (orc f)

def evArgs (G : Nat → AV) (S : St) : List (Opd × Option Ty) → Hp → Option (List AV × Hp)
  | [], _ => some ([], [])
  | (x, none) :: r, H => bif (ev G S x).live then (match evArgs G S r H with
    | some (as, d) => some (ev G S x :: as, d)
    | none => none) else none
  | (x, some τ) :: r, H => (match toTF τ (ev G S x) H with
    | some (y, d) => (match evArgs G S r (d ++ H) with
      | some (as, d') => some (.tv τ y :: as, d' ++ d)
      | none => none)
    | none => none)

def refsOf : List AV → List Nat
  | [] => []
  | a :: r => a.refs ++ refsOf r

/-- The call of a function: what it is handed, and what comes back. -/
def acall {R : Type} (orc : Orc) (f : FuncId) (all : List AV) (H d : Hp) (nid : Nat) (K : AV → Upd → Option R) : Option R :=
  bif distinct (reach (refsOf all) H) then (match take (fun i => posOf i (reach (refsOf all) H) 0) H (reach (refsOf all) H) with
    | some blks => orc f (all.map (AV.ren fun i => posOf i (reach (refsOf all) H) 0)) blks fun out blks' =>
        K (out.ren (backTo (reach (refsOf all) H) (nBox blks) nid blks'.length)) ⟨enumR (backTo (reach (refsOf all) H) (nBox blks) nid blks'.length) 0 blks' ++ (gone (reach (refsOf all) H) ++ d), blks'.length⟩
    | none => none) else none

inductive AAct where
  | op (o : AOp)
  | call (fn : Opd) (args : List (Opd × Option Ty))

def actK {R : Type} (G : Nat → AV) (orc : Orc) (act : AAct) (S : St) (nid : Nat) (K : AV → Upd → Option R) : Option R :=
  match act with
  | .op o => aop G o S nid K
  | .call fn args => (match ev G S fn with
    | .fn f first caps => (match evArgs G S args S.H with
      | some (as, d) => acall orc f (chainList first ++ (as ++ chainList caps)) (d ++ S.H) d nid K
      | none => none)
    | _ => none)

def margs : List (Opd × Option Ty) → List Operand → Bool
  | [], [] => true
  | (x, _) :: r, y :: r' => mo x y && margs r r'
  | _, _ => false

def mact (P : Program) : AAct → Op → Bool
  | .op o, q => mop P o q
  | .call fn args, .call c => (match c.callee with
    | .value f => mo fn f && margs args c.args.toList
    | _ => false)
  | .call _ _, _ => false

/-! ### One step -/
theorem sound_all (op : AOp) : Sound P op := by
  cases op with
  | mv x => exact sound_mv x
  | pick x y z => exact sound_pick x y z
  | alloc T sh => exact sound_alloc T sh
  | box x => exact sound_box x
  | build T sh parts => exact sound_build T sh parts
  | bslice e parts => exact sound_bslice e parts
  | load agg n x => exact sound_load agg n x
  | store n cv x v => exact sound_store n cv x v
  | nilc x => exact sound_nilc x
  | bin op x y => exact sound_bin op x y
  | eqa neg τ x y => exact sound_eqa neg τ x y
  | eqb neg x y => exact sound_eqb neg x y
  | eqp neg x y => exact sound_eqp neg x y
  | eqf neg x y => exact sound_eqf neg x y
  | eqn neg x => exact sound_eqn neg x
  | un op x => exact sound_un op x
  | conv k x => exact sound_conv k x
  | bstr x => exact sound_bstr x
  | mkfn f first caps => exact sound_mkfn f first caps
  | mkslice e n c => exact sound_mkslice e n c
  | slis x lo hi => exact sound_slis x lo hi
  | slia e x lo hi => exact sound_slia e x lo hi
  | fad i off x => exact sound_fad i off x
  | fld i off n agg x => exact sound_fld i off n agg x
  | iad n sz x i => exact sound_iad n sz x i
  | iads e x i => exact sound_iads e x i
  | ix n sz agg x i => exact sound_ix n sz agg x i
  | ixs x i => exact sound_ixs x i
  | ext x i => exact sound_ext x i
  | app e x y => exact sound_app e x y
  | len x => exact sound_len x
  | lens x => exact sound_lens x
  | lenc n x => exact sound_lenc n x
  | mx x y => exact sound_mx x y
  | mn x y => exact sound_mn x y
  | rng x => exact sound_rng x
  | nxt x => exact sound_nxt x
  | nrow e => exact sound_nrow e
  | mkmap κ => exact sound_mkmap κ
  | mlook κ ok m k => exact sound_mlook κ ok m k
  | mput κ m k v => exact sound_mput κ m k v
  | ment κ m k => exact sound_ment κ m k
  | mest m s v => exact sound_mest m s v
  | bad => exact sound_bad

theorem evArgs_ok {c : Ctx} {μ : Map} {w : World} {G : Nat → AV} {S : St} {a : Act} : ∀ (xs : List (Opd × Option Ty)) (ys : List Operand) {M : Mem} {H : Hp} {as : List AV} {d : Hp}, GlobOk M G → EnvOk M μ S a → margs xs ys = true → evArgs G S xs H = some (as, d) → Hold c M μ H w →
    ∃ M', M.le M' ∧ Hold c M' μ (d ++ H) w ∧ AVs M' μ as (ys.map a.eval)
  | [], [], M, H, as, d, _, _, _, h, hH => by
    simp only [evArgs, Option.some.injEq, Prod.mk.injEq] at h
    obtain ⟨rfl, rfl⟩ := h
    exact ⟨M, Mem.le.refl _, hH, rfl⟩
  | (x, none) :: xs, y :: ys, M, H, as, d, hG, hE, hm, h, hH => by
    simp only [margs, Bool.and_eq_true] at hm
    simp only [evArgs] at h
    cases hl : (ev G S x).live with
    | false => rw [hl] at h; simp at h
    | true =>
      rw [hl] at h
      simp only [cond_true] at h
      split at h
      case h_2 => cases h
      rename_i as' d' h'
      simp only [Option.some.injEq, Prod.mk.injEq] at h
      obtain ⟨rfl, rfl⟩ := h
      obtain ⟨M', l1, H1, A1⟩ := evArgs_ok xs ys hG hE hm.2 h' hH
      exact ⟨M', l1, H1, _, _, rfl, (mo_ok hG hE hm.1).mono l1 (Map.le.refl _), A1⟩
  | (x, some τ) :: xs, y :: ys, M, H, as, d, hG, hE, hm, h, hH => by
    simp only [margs, Bool.and_eq_true] at hm
    simp only [evArgs] at h
    split at h
    case h_2 => cases h
    rename_i y1 d1 h1
    split at h
    case h_2 => cases h
    rename_i as' d' h'
    simp only [Option.some.injEq, Prod.mk.injEq] at h
    obtain ⟨rfl, rfl⟩ := h
    obtain ⟨M1, l1, H1, cs, t1, v1⟩ := toTF_AVV h1 hH (mo_ok hG hE hm.1)
    obtain ⟨M', l2, H2, A2⟩ := evArgs_ok xs ys (hG.mono l1) (fun t => (hE t).mono l1 (Map.le.refl _)) hm.2 h' H1
    exact ⟨M', l1.trans l2, by simpa only [List.append_assoc] using H2, _, _, rfl, AVV_tv.2 ⟨cs, t1.mono l2, v1⟩, A2⟩
  | [], _ :: _, _, _, _, _, _, _, hm, _, _ => by simp [margs] at hm
  | (_, none) :: _, [], _, _, _, _, _, _, hm, _, _ => by simp [margs] at hm
  | (_, some _) :: _, [], _, _, _, _, _, _, hm, _, _ => by simp [margs] at hm

theorem nBox_le : ∀ l : List Blk, nBox l ≤ l.length
  | [] => Nat.le_refl _
  | k :: r => by
    simp only [nBox]
    cases k.isRow with
    | true => simp
    | false => simpa using nBox_le r

/-- What is needed of a step's new numbers. -/
def Fresh (μ : Map) (nid na : Nat) : Prop := ∀ i, nid ≤ i → i < nid + na → μ i = none

theorem act_ok {c : Ctx} {M : Mem} {μ : Map} {G : Nat → AV} {orc : Orc} {S : St} {a : Act} {w : World} {nid : Nat} {o : Oper} {v : AV} {u : Upd} {act : AAct} (hp : Pre P c M μ G S a w) (ho : OrcOK P G orc) (hm : mact P act o.op = true)
    (hr : actK G orc act S nid (fun v u => some (v, u)) = some (v, u)) (hf : Fresh μ nid u.na) {next : Act → World → Prop} {Q : Exit → Act → World → Prop}
    (hn : ∀ v' w' M' μ', M.le M' → μ.le μ' → Hold c M' μ' (u.hs ++ S.H) w' → AVV M' μ' v v' → (∀ i, μ' i ≠ none → μ i ≠ none ∨ (nid ≤ i ∧ i < nid + u.na)) → next (a.put o.dst v') w') : o.wp P a w next Q := by
  cases act with
  | op op =>
    obtain ⟨M', μ', v', w', hrun, h1, h2, h3, h4, h5⟩ := sound_all op hp hm hr hf
    unfold Oper.wp
    rcases hrun with hrun | ⟨hrun, rfl⟩
    · rw [hrun]; exact hn v' w' M' μ' h1 h2 h3 h4 h5
    · rw [hrun]; exact hn undef w' M' μ' h1 h2 h3 h4 h5
  | call fn args =>
    generalize hq : o.op = q at hm
    cases q with
    | call cl =>
      simp only [mact] at hm
      split at hm
      case h_2 => cases hm
      rename_i f' hcallee
      simp only [Bool.and_eq_true] at hm
      have hfn := mo_ok hp.glob hp.env hm.1
      simp only [actK] at hr
      split at hr
      case h_2 => cases hr
      rename_i f first caps hef
      split at hr
      case h_2 => cases hr
      rename_i as d has
      rw [hef, AVV_fn] at hfn
      obtain ⟨fvs, cvs, hfv, hfirst, hcaps⟩ := hfn
      obtain ⟨M1, l1, H1, A1⟩ := evArgs_ok args cl.args.toList hp.glob hp.env hm.2 has hp.hold
      have A2 := ((AVL_list hfirst).mono l1 (Map.le.refl _)).append (A1.append ((AVL_list hcaps).mono l1 (Map.le.refl _)))
      unfold acall at hr
      generalize hids : reach (refsOf (chainList first ++ (as ++ chainList caps))) (d ++ S.H) = ids at hr
      cases hd : distinct ids with
      | false => rw [hd] at hr; simp at hr
      | true =>
        rw [hd] at hr
        simp only [cond_true] at hr
        split at hr
        case h_2 => cases hr
        rename_i blks htake
        obtain ⟨hexp, hρ⟩ := H1.outTo hd htake
        have hlen := (take_some htake).1
        obtain ⟨⟨fnc, hfnc, hname, hbody⟩, hcalls⟩ := ho.ok f hr
        have hC := hcalls (c := ⟨w, fun b => ∃ i k l, i ∈ ids ∧ hget (d ++ S.H) i = some k ∧ μ i = some l ∧ l.blk = some b, M1⟩) rfl rfl hexp (hp.glob.mono l1) (A2.ren hρ) (fun i hi => by
          rw [List.getElem?_eq_none (by omega)]; rfl)
        have hrun : (execOp a.eval o).run P w = .ok (.enter f (fvs ++ ((cl.args.toList.map a.eval) ++ cvs)).toArray) w := by
          have harr : fvs.toArray ++ (cl.args.map a.eval) ++ cvs.toArray = (fvs ++ ((cl.args.toList.map a.eval) ++ cvs)).toArray := by
            apply Array.ext'; simp
          simp only [execOp, hq, resolve, hcallee, hfv, Deferred.ofValue, Sem.run_bind, Sem.run_pure, Result.andThen_ok, invoke, callFunc, run_program, hfnc, hname, Bool.false_eq_true, if_false, hbody, harr]
        unfold Oper.wp
        rw [hrun]
        show Calls P f _ w _
        refine hC.mono ?_
        rintro e w' ⟨v', out, blks', M', μ', rfl, hK, hH', hv', hbx⟩
        simp only [Option.some.injEq, Prod.mk.injEq] at hK
        obtain ⟨hK1, hK2⟩ := hK
        subst hK1
        have hfr : ∀ i, nid ≤ i → i < nid + blks'.length → μ i = none := by
          intro i h1 h2
          refine hf i h1 ?_
          rw [← hK2]; exact h2
        obtain ⟨B1, B2, B3, B4⟩ := H1.back (nb := nBox blks) (by rw [← hlen]; exact nBox_le blks) (fun i hi => by
          obtain ⟨j, hj⟩ := List.mem_iff_getElem?.1 hi
          obtain ⟨k, hk, _⟩ := (take_some htake).2 j i hj
          exact ⟨k, hk⟩) hfr hH' (fun j i hj hi => by
            rw [hbx j hj, hi]; rfl) hd
        refine hn v' w' M' _ (l1.trans hH'.mle) B2 ?_ (AVV_ren B3 hv') ?_
        · rw [← hK2]
          simpa only [List.append_assoc] using B1
        · rw [← hK2]; exact B4
    | _ => simp [mact] at hm

end
end Go.Av
