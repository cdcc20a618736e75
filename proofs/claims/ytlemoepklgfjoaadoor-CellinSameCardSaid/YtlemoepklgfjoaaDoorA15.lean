/-
  Each operation of the abstract machine is the machine's: slices of slices and of texts; stores; a text, sign by sign.
-/
import Derived.Test.YtlemoepklgfjoaaDoorA14
namespace Go.Av
section
variable {P : Program}

theorem run_sliceBound {k : IntKind} {i : Int} {y : Nat} {code : BoundsCode} (h : 0 ≤ i ∧ i ≤ (y : Int)) (w : World) : (Instr.sliceBound (.int k i) y code).run P w = .ok i.toNat w := by
  simp only [Instr.sliceBound, Sem.run_bind, asIntOf, Sem.run_pure, Result.andThen_ok, if_pos h]

/-- The bounds of a slice expression, as the machine reckons them. -/
theorem bnds_ok {R : Type} {M : Mem} {μ : Map} {G : Nat → AV} {S : St} {a : Act} (hG : GlobOk M G) (hE : EnvOk M μ S a) {lo hi : Option Opd} {l h : Option Operand} (hl : moo lo l = true) (hh : moo hi h = true) {n : Nat} {K : Nat → Nat → Option R} {r : R}
    (hb : bnds n (lo.map (ev G S)) (hi.map (ev G S)) K = some r) : ∃ x y, x ≤ y ∧ y ≤ n ∧ K x y = some r ∧ ∀ (isS : Bool) (cap : Nat) (w : World), n ≤ cap → (Instr.sliceBounds isS n cap (l.map a.eval) (h.map a.eval) none).run P w = .ok (x, y, cap) w := by
  cases lo with
  | none =>
    cases l with
    | some _ => simp [moo] at hl
    | none =>
      cases hi with
      | none =>
        cases h with
        | some _ => simp [moo] at hh
        | none =>
          simp only [Option.map_none, bnds] at hb
          exact ⟨0, n, Nat.zero_le _, Nat.le_refl _, hb, fun isS cap w _ => by simp [Instr.sliceBounds]⟩
      | some hi =>
        cases h with
        | none => simp [moo] at hh
        | some h =>
          simp only [moo] at hh
          have hv := mo_ok hG hE hh
          simp only [Option.map_none, Option.map_some, bnds] at hb
          split at hb <;> rename_i e1 e2 <;> first | (cases e1; done) | (cases e2; done) | skip
          all_goals try (cases hb; done)
          rename_i k x
          simp only [Option.some.injEq] at e2
          rw [e2, AVV_int] at hv
          cases hd : decide (0 ≤ (x : Int) ∧ (x : Int) ≤ n) with
          | false => simp [hd] at hb
          | true =>
            rw [hd] at hb
            have hd := of_decide_eq_true hd
            obtain ⟨d1, d2⟩ := hd
            simp only [cond_true] at hb
            refine ⟨0, (x : Int).toNat, Nat.zero_le _, Int.toNat_le.2 d2, hb, fun isS cap w hc => ?_⟩
            have h1 : 0 ≤ (x : Int) ∧ (x : Int) ≤ (cap : Int) := ⟨d1, Int.le_trans d2 (by omega)⟩
            simp only [Option.map_none, Option.map_some, hv, Instr.sliceBounds, Sem.run_bind, Sem.run_pure, Result.andThen_ok, run_sliceBound h1]
  | some lo =>
    cases l with
    | none => simp [moo] at hl
    | some l =>
      simp only [moo] at hl
      have hv := mo_ok hG hE hl
      cases hi with
      | none =>
        cases h with
        | some _ => simp [moo] at hh
        | none =>
          simp only [Option.map_none, Option.map_some, bnds] at hb
          split at hb <;> rename_i e1 e2 <;> first | (cases e1; done) | (cases e2; done) | skip
          all_goals try (cases hb; done)
          rename_i k x
          simp only [Option.some.injEq] at e1
          rw [e1, AVV_int] at hv
          cases hd : decide (0 ≤ (x : Int) ∧ (x : Int) ≤ n) with
          | false => simp [hd] at hb
          | true =>
            rw [hd] at hb
            have hd := of_decide_eq_true hd
            simp only [cond_true] at hb
            refine ⟨(x : Int).toNat, n, Int.toNat_le.2 hd.2, Nat.le_refl _, hb, fun isS cap w hc => ?_⟩
            simp only [Option.map_none, Option.map_some, hv, Instr.sliceBounds, Sem.run_bind, Sem.run_pure, Result.andThen_ok, run_sliceBound hd]
      | some hi =>
        cases h with
        | none => simp [moo] at hh
        | some h =>
          simp only [moo] at hh
          have hv' := mo_ok hG hE hh
          simp only [Option.map_some, bnds] at hb
          split at hb <;> rename_i e1 e2 <;> first | (cases e1; done) | (cases e2; done) | skip
          all_goals try (cases hb; done)
          rename_i k x k' y
          simp only [Option.some.injEq] at e1 e2
          rw [e1, AVV_int] at hv
          rw [e2, AVV_int] at hv'
          cases hd : decide (0 ≤ (x : Int) ∧ (x : Int) ≤ y ∧ (y : Int) ≤ n) with
          | false => simp [hd] at hb
          | true =>
            rw [hd] at hb
            have hd := of_decide_eq_true hd
            obtain ⟨d1, d2, d3⟩ := hd
            have d4 : 0 ≤ (y : Int) := Int.le_trans d1 d2
            simp only [cond_true] at hb
            refine ⟨(x : Int).toNat, (y : Int).toNat, Int.toNat_le_toNat d2, Int.toNat_le.2 d3, hb, fun isS cap w hc => ?_⟩
            have h1 : 0 ≤ (y : Int) ∧ (y : Int) ≤ (cap : Int) := ⟨d4, Int.le_trans d3 (by omega)⟩
            have h2 : 0 ≤ (x : Int) ∧ (x : Int) ≤ (((y : Int).toNat : Nat) : Int) := ⟨d1, by rw [Int.toNat_of_nonneg d4]; exact d2⟩
            simp only [Option.map_some, hv, hv', Instr.sliceBounds, Sem.run_bind, Sem.run_pure, Result.andThen_ok, run_sliceBound h1, run_sliceBound h2]

theorem extract_arr (s : List UInt8) (l h : Nat) : (ByteArray.mk s.toArray).extract l h = ⟨((s.take h).drop l).toArray⟩ := by
  apply ByteArray.ext
  rw [ByteArray.data_extract]
  apply Array.ext'
  simp [List.drop_take]

theorem sound_slis (x : Opd) (lo hi : Option Opd) : Sound P (.slis x lo hi) := by
  intro c M μ G S a w nid o v u hp hm hr _
  generalize hq : o.op = q at hm
  cases q <;> simp only [mop, Bool.false_eq_true, Bool.and_eq_true] at hm
  rename_i t x' l h m
  obtain ⟨⟨⟨⟨ht, hmx⟩, h2⟩, h3⟩, h4⟩ := hm
  have hmx : m = none := by cases m <;> simp_all
  subst hmx
  have hx := mo_ok hp.glob hp.env h2
  have hu := isStr_ty ht
  simp only [aopO, aop] at hr
  split at hr
  case h_2 => cases hr
  rename_i s he
  rw [he, AVV_str] at hx
  obtain ⟨i, j, hij, hjn, hK, hrun⟩ := bnds_ok (P := P) hp.glob hp.env h3 h4 hr
  simp only [Option.some.injEq, Prod.mk.injEq] at hK
  obtain ⟨rfl, rfl⟩ := hK
  refine OpOk.same hp.hold (v' := .string ⟨((s.take j).drop i).toArray⟩) ?_ (AVV_str.2 rfl)
  have := hrun false (ByteArray.mk s.toArray).size w (by rw [size_arr]; exact Nat.le_refl _)
  simp only [execOp, hq, hx, Instr.sliceAt, Instr.slice, Sem.run_bind, run_underlying hu, Result.andThen_ok, Option.map_none, Option.isSome_none, Bool.false_eq_true, if_false, Sem.run_pure]
  rw [← size_arr s] at this
  simp only [this, Result.andThen_ok, extract_arr]

theorem RowC_take {α : Type} {R : α → List Value → Prop} {k : Nat} (hR : ∀ x c, R x c → c.length = k) : ∀ (xs : List α) (cs : List Value) (n : Nat), RowC R xs cs → RowC R (xs.take n) (cs.take (n * k))
  | [], cs, n, h => by
    simp only [RowC] at h
    subst h
    simp [RowC]
  | x :: xs, cs, 0, _ => by simp [RowC]
  | x :: xs, cs, n + 1, ⟨c1, c2, e, h1, h2⟩ => by
    subst e
    rw [List.take_succ_cons]
    refine ⟨c1, c2.take (n * k), ?_, h1, RowC_take hR xs c2 n h2⟩
    rw [Nat.succ_mul, List.take_append, hR _ _ h1, Nat.add_sub_cancel]
    rw [List.take_of_length_le (by rw [hR _ _ h1]; omega)]

theorem RowC_drop {α : Type} {R : α → List Value → Prop} {k : Nat} (hR : ∀ x c, R x c → c.length = k) : ∀ (xs : List α) (cs : List Value) (n : Nat), RowC R xs cs → RowC R (xs.drop n) (cs.drop (n * k))
  | [], cs, n, h => by
    simp only [RowC] at h
    subst h
    simp [RowC]
  | x :: xs, cs, 0, h => by simpa using h
  | x :: xs, cs, n + 1, ⟨c1, c2, e, h1, h2⟩ => by
    subst e
    have hd : c1.drop (n * k + k) = [] := List.drop_eq_nil_of_le (by rw [hR _ _ h1]; omega)
    rw [List.drop_succ_cons, Nat.succ_mul, List.drop_append, hR _ _ h1, Nat.add_sub_cancel, hd, List.nil_append]
    exact RowC_drop hR xs c2 n h2

theorem sound_slia (e : Ty) (x : Opd) (lo hi : Option Opd) : Sound P (.slia e x lo hi) := by
  intro c M μ G S a w nid o v u hp hm hr _
  generalize hq : o.op = q at hm
  cases q <;> simp only [mop, Bool.false_eq_true, Bool.and_eq_true] at hm
  rename_i t x' l h m
  obtain ⟨⟨⟨⟨ht, hmx⟩, h2⟩, h3⟩, h4⟩ := hm
  have hmx : m = none := by cases m <;> simp_all
  subst hmx
  have hx := mo_ok hp.glob hp.env h2
  split at ht
  case h_2 => cases ht
  rename_i et hsl
  have hu := slOf_ty hsl
  obtain ⟨inf, z, hinf, hsz, hpos, hby, hz, hzc⟩ := elOk_ty ht
  simp only [aopO, aop] at hr
  split at hr
  case h_2 => cases hr
  rename_i xs d hxs
  obtain ⟨i, j, hij, hjn, hK, hrun⟩ := bnds_ok (P := P) hp.glob hp.env h3 h4 hr
  simp only [Option.some.injEq, Prod.mk.injEq] at hK
  obtain ⟨rfl, rfl⟩ := hK
  obtain ⟨M', l1, H1, cs, ⟨ad, cap, rfl, es, hrow, hM, hcap⟩, hv⟩ := toTF_AVV hxs hp.hold hx
  have hv : a.eval x' = .slice ad xs.length cap := by simpa [VofC, Ty.isAgg] using hv.symm
  have hlen : ((xs.take j).drop i).length = j - i := by simp; omega
  have hE' : ∀ cap', xs.length ≤ cap' → (Instr.sliceBounds true xs.length cap' (l.map a.eval) (h.map a.eval) none).run P w = .ok (i, j, cap') w := fun cap' hc => hrun true cap' w hc
  have hrow' : RowC (TC M' e) ((xs.take j).drop i) ((es.take (j * e.n)).drop (i * e.n)) := RowC_drop (fun _ _ h => TC.length h) _ _ _ (RowC_take (fun _ _ h => TC.length h) _ _ _ hrow)
  have fin : ∀ (ad' : Option Addr) (cap' : Nat), j - i ≤ cap' → (((xs.take j).drop i) = [] ∨ ∃ b o1, ad' = some ⟨b, o1, none⟩ ∧ ∀ q v, ((es.take (j * e.n)).drop (i * e.n))[q]? = some v → M' b (o1 + q) = some v) →
      (execOp a.eval o).run P w = .ok (.value (.slice ad' (j - i) cap')) w → OpOk c M μ S.H nid ((execOp a.eval o).run P w) (.tv (.sl e) ((xs.take j).drop i)) ⟨d, 0⟩ := by
    intro ad' cap' hc' hM' hr'
    refine ⟨M', μ, _, w, .inl hr', l1, Map.le.refl _, H1, AVV_tv.2 ⟨_, ⟨ad', cap', rfl, _, hrow', hM', by rw [hlen]; exact hc'⟩, ?_⟩, fun _ h => .inl h⟩
    simp only [VofC, Ty.isAgg, cond_false, hlen]
  have hrun' : (execOp a.eval o).run P w = .ok (.value (.slice (if cap = i then ad else ad.map (·.add (i * e.n))) (j - i) (cap - i))) w := by
    simp only [execOp, hq, hv, Instr.sliceAt, Instr.slice, Sem.run_bind, run_underlying hu, Result.andThen_ok, Option.map_none, hE' cap hcap, run_sizeOf hinf, hsz, Sem.run_pure]
  by_cases hci : cap = i
  · rw [if_pos hci] at hrun'
    refine fin _ _ (by omega) (.inl ?_) hrun'
    apply List.eq_nil_of_length_eq_zero
    rw [hlen]; omega
  · rw [if_neg hci] at hrun'
    refine fin _ _ (by omega) ?_ hrun'
    rcases hM with rfl | ⟨b, o1, rfl, hM⟩
    · left; simp
    · right
      refine ⟨b, o1 + i * e.n, by simp [Addr.add_mid], ?_⟩
      intro q v hqv
      have hk : q < ((es.take (j * e.n)).drop (i * e.n)).length := (List.getElem?_eq_some_iff.1 hqv).1
      rw [List.getElem?_drop, List.getElem?_take] at hqv
      split at hqv
      · have := hM _ _ hqv
        rwa [← Nat.add_assoc] at this
      · cases hqv

theorem setCells_heap (b : Nat) : ∀ (new : List Value) (w : World) (pre old post : List Value) (T : TypeId) (fr : Nat × Nat), w.heap[b]? = some (.cells (pre ++ old ++ post).toArray T fr) → old.length = new.length →
    (w.setCells b pre.length new).heap[b]? = some (.cells (pre ++ new ++ post).toArray T fr)
  | [], w, pre, old, post, T, fr, h, hl => by
    have : old = [] := List.eq_nil_of_length_eq_zero (by simpa using hl)
    subst this
    exact h
  | v :: new, w, pre, old, post, T, fr, h, hl => by
    match old, hl with
    | x :: old, hl =>
      have hset : (w.setCell ⟨b, pre.length, none⟩ v).heap[b]? = some (.cells ((pre ++ [v]) ++ old ++ post).toArray T fr) := by
        simp only [World.setCell, Array.getElem?_modify, if_true, h, Option.map_some]
        simp
      have := setCells_heap b new _ (pre ++ [v]) old post T fr hset (by simpa using hl)
      rw [World.setCells]
      simp only [List.length_append, List.length_cons, List.length_nil, Nat.zero_add] at this
      rw [this]
      simp

theorem setCells_writes (b : Nat) : ∀ (new : List Value) (o : Nat) (w : World), Writes w (w.setCells b o new) b
  | [], _, w => ⟨rfl, rfl, rfl, rfl, fun _ _ => rfl, fun _ => rfl⟩
  | v :: new, o, w => by
    have h := setCells_writes b new (o + 1) (w.setCell ⟨b, o, none⟩ v)
    exact ⟨h.os, h.tape, h.output, h.size.trans (by simp), fun k hk => (h.other k hk).trans (Go.RowKit.Below.heap_setCell w ⟨b, o, none⟩ v k hk), fun a => (h.fz a).trans (by simp)⟩

theorem run_storeVar_any {t : TypeId} {i : TypeInfo} (hi : P.info? t = some i) {w : World} {b o : Nat} {v : Value} {cs : List Value} (hv : v.cells.toList = cs) (hs : cs.length = i.size) (h1 : oneC cs) (hc : ∀ j, j < cs.length → (w.cell? ⟨b, o + j, none⟩).isSome = true) (hf : ∀ j, j < cs.length → w.frozen? ⟨b, o + j, none⟩ = false) :
    (Instr.storeAt t (.pointer (some ⟨b, o, none⟩)) v).run P w = .ok () (w.setCells b o cs) := by
  have := run_storeCells_cells (P := P) b o cs 0 w (by simpa using hc) (by simpa using hf) h1
  simp only [Nat.add_zero] at this
  have hsz : v.cells.size = i.size := by rw [← Array.length_toList, hv, hs]
  have hne : ¬ (v.cells.size ≠ i.size) := by simp [hsz]
  simp only [Instr.storeAt, Instr.sureAddr, storeVar, Sem.run_bind, Sem.run_pure, Result.andThen_ok, run_sizeOf hi, hne, if_false, hv, this]

/-- A write into a block of cells that is known: it is there, it is free. -/
theorem block_there {w : World} {b : Nat} {cs : List Value} {T : TypeId} (h : w.heap[b]? = some (.cells cs.toArray T (0, 0))) {o n : Nat} (hn : o + n ≤ cs.length) : (∀ j, j < n → (w.cell? ⟨b, o + j, none⟩).isSome = true) ∧ ∀ j, j < n → w.frozen? ⟨b, o + j, none⟩ = false := by
  refine ⟨fun j hj => ?_, fun j hj => ?_⟩
  · rw [cell_of_heap h]
    rw [List.getElem?_toArray, List.getElem?_eq_getElem (by omega)]
    rfl
  · simp [World.frozen?, h]

theorem writeAt_ok {c : Ctx} {M : Mem} {μ : Map} {H : Hp} {w : World} (hH : Hold c M μ H w) {a v : AV} {va : Value} (ha : AVV M μ a va) {id : Nat} {k : Blk} (hw : writeAt H a v = some (id, k)) {cs : List Value} (hv : AVC M μ v cs) :
    ∃ b o, va = .pointer (some ⟨b, o, none⟩) ∧ (∀ j, j < cs.length → (w.cell? ⟨b, o + j, none⟩).isSome = true) ∧ (∀ j, j < cs.length → w.frozen? ⟨b, o + j, none⟩ = false) ∧ Hold c M μ ((id, some k) :: H) (w.setCells b o cs) := by
  unfold writeAt at hw
  split at hw
  case h_2 => cases hw
  rename_i i p
  rw [AVV_ptr] at ha
  obtain ⟨l, b, hl, hb, hva, hs, hh⟩ := ha
  split at hw
  · rename_i u hu
    obtain ⟨l', hl', hbr⟩ := hH.blks i _ hu
    rw [hl] at hl'
    cases hl'
    cases l with
    | row b' len cap => cases b' <;> exact hbr.elim
    | obj b' => exact hbr.elim
    | box b' =>
      simp only [Loc.blk, Option.some.injEq] at hb
      subst hb
      obtain ⟨cells, T, hc, hav⟩ := hbr
      split at hw
      case h_2 => cases hw
      rename_i old u' hold hu'
      cases hn : Nat.beq v.nsz old.nsz with
      | false => rw [hn] at hw; simp at hw
      | true =>
        rw [hn] at hw
        have hn := Nat.eq_of_beq_eq_true hn
        simp only [cond_true, Option.some.injEq, Prod.mk.injEq] at hw
        obtain ⟨rfl, rfl⟩ := hw
        obtain ⟨pre, mid, post, e, hpl, hmid, hset⟩ := (pathGet_focus p u old cells.toList hs hold hav).split
        have hml : mid.length = cs.length := by rw [hmid.length, hv.length, hn]
        have hc' : w.heap[b']? = some (.cells (pre ++ mid ++ post).toArray T (0, 0)) := by
          rw [hc]; congr 2; apply Array.ext'; rw [e]
        have hth := block_there hc' (o := pre.length) (n := cs.length) (by simp [hml])
        rw [hpl] at hth
        refine ⟨b', pathOff p, hva, hth.1, hth.2, ?_⟩
        refine hH.write hu hl rfl (setCells_writes b' cs (pathOff p) w) ?_ ?_
        · have := setCells_heap b' cs w pre mid post T (0, 0) hc' hml
          rw [hpl] at this
          exact ⟨_, T, this, by simpa using hset v cs hv hn u' hu'⟩
        · intro o1 v1 hv1
          obtain ⟨_, _, h1, _⟩ := hH.exc i _ _ b' o1 v1 hu hl rfl hv1
          cases h1
  · rename_i e xs hu
    split at hw
    case h_2 => cases hw
    rename_i i1 n sz r
    cases hsz : Nat.beq e.n sz with
    | false => rw [hsz] at hw; simp at hw
    | true =>
      rw [hsz] at hw
      have hsz := Nat.eq_of_beq_eq_true hsz
      simp only [cond_true] at hw
      split at hw
      case h_2 => cases hw
      rename_i old e' y hold hset'
      cases hn : Nat.beq v.nsz old.nsz with
      | false => rw [hn] at hw; simp at hw
      | true =>
        rw [hn] at hw
        have hn := Nat.eq_of_beq_eq_true hn
        simp only [cond_true] at hw
        split at hw
        case isFalse => cases hw
        rename_i he
        subst he
        simp only [Option.some.injEq, Prod.mk.injEq] at hw
        obtain ⟨rfl, rfl⟩ := hw
        obtain ⟨l', hl', hbr⟩ := hH.blks i _ hu
        rw [hl] at hl'
        cases hl'
        cases l with
        | box b' => exact hbr.elim
        | obj b' => exact hbr.elim
        | row b' len cap =>
          simp only [Loc.blk] at hb
          subst hb
          obtain ⟨cells, T, hc, hlen, hle, hcap, hcs, hone, hrow⟩ := hbr
          have hi : i1 < n := hs (Step.idx i1 n sz) (by simp)
          have hn' : n ≤ len := hh
          obtain ⟨pre, mid, post, e3, hp, hmid, hset⟩ := RowC.focus (fun _ _ h => TC.length h) e'.zero xs _ i1 hrow (by omega)
          obtain ⟨pre2, mid2, post2, e4, hp2, hmid2, hset2⟩ := (pathGet_focus (M := M) (μ := μ) r _ old mid (fun s hs' => hs s (by simp [hs'])) hold (by simpa only [AVC] using hmid)).split
          have hml : mid2.length = cs.length := by rw [hmid2.length, hv.length, hn]
          have hall : cells.toList = (pre ++ pre2) ++ mid2 ++ (post2 ++ post ++ cells.toList.drop (len * e'.n)) := by
            have h0 := (List.take_append_drop (len * e'.n) cells.toList).symm
            rw [e3] at h0
            exact h0.trans (by rw [e4]; simp)
          have hc' : w.heap[b]? = some (.cells ((pre ++ pre2) ++ mid2 ++ (post2 ++ post ++ cells.toList.drop (len * e'.n))).toArray T (0, 0)) := by
            rw [hc]; congr 2; apply Array.ext'; simpa using hall
          have hoff : (pre ++ pre2).length = pathOff (Step.idx i1 n sz :: r) := by
            simp only [pathOff, Step.off, List.length_append]
            rw [hp, hp2, hsz]
          have hth := block_there hc' (o := (pre ++ pre2).length) (n := cs.length) (by simp [hml]; omega)
          rw [hoff] at hth
          refine ⟨b, _, hva, hth.1, hth.2, ?_⟩
          refine hH.write hu hl rfl (setCells_writes b cs _ w) ?_ ?_
          · have hnew := setCells_heap b cs w (pre ++ pre2) mid2 _ T (0, 0) hc' hml
            rw [hoff] at hnew
            have hy : TC M e' y (pre2 ++ cs ++ post2) := by simpa only [AVC] using hset2 v cs hv hn _ hset'
            have hxs := hset y _ hy
            have htl : (pre ++ (pre2 ++ cs ++ post2) ++ post).length = len * e'.n := by
              rw [RowC.length (fun _ _ h => TC.length h) hxs, List.length_set, hlen]
            have hsz1 : cells.size = (pre ++ pre2 ++ mid2 ++ (post2 ++ post ++ cells.toList.drop (len * e'.n))).length := by rw [← hall]; simp
            refine ⟨_, T, hnew, by simpa using hlen, hle, hcap, ?_, ?_, ?_⟩
            · rw [← hcs, hsz1]
              simp [hml]
            · have hone' : oneC (cells.toList.drop (len * e'.n)) := fun v hv => hone v (List.mem_of_mem_drop hv)
              have := (RowC.one (fun _ _ h => TC.one h) hxs).append hone'
              simpa [List.append_assoc] using this
            · have : ((pre ++ pre2 ++ cs ++ (post2 ++ post ++ cells.toList.drop (len * e'.n))).toArray.toList).take (len * e'.n) = pre ++ (pre2 ++ cs ++ post2) ++ post := by
                have h1 : pre ++ pre2 ++ cs ++ (post2 ++ post ++ cells.toList.drop (len * e'.n)) = (pre ++ (pre2 ++ cs ++ post2) ++ post) ++ cells.toList.drop (len * e'.n) := by simp
                rw [List.toList_toArray, h1, ← htl]
                exact List.take_left
              rw [this]
              exact hxs
          · intro o1 v1 hv1
            obtain ⟨_, _, h1, _⟩ := hH.exc i _ _ b o1 v1 hu hl rfl hv1
            cases h1
  · cases hw

theorem sound_store (n : Nat) (cv : Option Ty) (x y : Opd) : Sound P (.store n cv x y) := by
  intro c M μ G S a w nid o v u hp hm hr _
  generalize hq : o.op = q at hm
  cases q <;> simp only [mop, Bool.false_eq_true, Bool.and_eq_true] at hm
  rename_i t x' y'
  obtain ⟨⟨⟨ht, hn⟩, h2⟩, h3⟩ := hm
  have hx := mo_ok hp.glob hp.env h2
  have hy := mo_ok hp.glob hp.env h3
  obtain ⟨_, inf, _, hinf⟩ := hasTy_ty ht
  have hsz : inf.size = n := by
    have := Nat.eq_of_beq_eq_true hn
    simpa [Program.cellsOf, hinf] using this
  simp only [aopO, aop] at hr
  cases cv with
  | none =>
    simp only at hr
    cases hb : ((ev G S y).live && Nat.beq (ev G S y).nsz n) with
    | false => rw [hb] at hr; simp at hr
    | true =>
      rw [hb] at hr
      simp only [Bool.and_eq_true] at hb
      have hnn := Nat.eq_of_beq_eq_true hb.2
      simp only [cond_true] at hr
      split at hr
      case h_2 => cases hr
      rename_i id k hw
      simp only [Option.some.injEq, Prod.mk.injEq] at hr
      obtain ⟨rfl, rfl⟩ := hr
      obtain ⟨cs, hc, hvc⟩ := AVV_live hy hb.1
      obtain ⟨b, o1, hva, hth, hfz, hH⟩ := writeAt_ok hp.hold hx hw hc
      refine ⟨M, μ, undef, _, .inr ⟨?_, rfl⟩, Mem.le.refl _, Map.le.refl _, hH, trivial, fun _ h => .inl h⟩
      simp only [execOp, hq, hva, Sem.run_bind, run_storeVar_any hinf (hvc.cells hc.one) (by rw [hc.length, hnn, hsz]) hc.one hth hfz, Result.andThen_ok, Sem.run_pure]
  | some τ =>
    simp only at hr
    split at hr
    case h_2 => cases hr
    rename_i y1 d hy1
    cases hb : Nat.beq τ.n n with
    | false => rw [hb] at hr; simp at hr
    | true =>
      rw [hb] at hr
      have hnn := Nat.eq_of_beq_eq_true hb
      simp only [cond_true] at hr
      split at hr
      case h_2 => cases hr
      rename_i id k hw
      simp only [Option.some.injEq, Prod.mk.injEq] at hr
      obtain ⟨rfl, rfl⟩ := hr
      obtain ⟨M1, l1, H1, cs, hc, hvc⟩ := toTF_AVV hy1 hp.hold hy
      obtain ⟨b, o1, hva, hth, hfz, hH⟩ := writeAt_ok H1 (hx.mono l1 (Map.le.refl _)) hw (v := .tv τ y1) (by simpa only [AVC] using hc)
      refine ⟨M1, μ, undef, _, .inr ⟨?_, rfl⟩, l1, Map.le.refl _, hH, trivial, fun _ h => .inl h⟩
      simp only [execOp, hq, hva, Sem.run_bind, run_storeVar_any hinf (hvc.cells hc.one) (by rw [hc.length, hnn, hsz]) hc.one hth hfz, Result.andThen_ok, Sem.run_pure]

end
end Go.Av
