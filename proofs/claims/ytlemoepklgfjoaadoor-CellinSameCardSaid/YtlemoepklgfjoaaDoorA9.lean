/-
  Each operation of the abstract machine is the machine's: parts of values, addresses, loads.
-/
import Derived.Test.YtlemoepklgfjoaaDoorA8
namespace Go.Av
section
variable {P : Program}

theorem VofC_true {cs : List Value} {v : Value} : VofC true cs v ↔ v = .agg cs.toArray := Iff.rfl
theorem VofC_false {cs : List Value} {v : Value} : VofC false cs v ↔ cs = [v] := Iff.rfl

theorem isSz_ty {t : TypeId} {n : Nat} {agg : Bool} (h : isSz P t n agg = true) :
    ∃ d i, P.underlying t = some d ∧ P.info? t = some i ∧ i.size = n ∧ TypeDesc.agg d = agg ∧ (agg = false → n = 1) := by
  unfold isSz hasTy aggOf at h
  simp only [Bool.and_eq_true, beq_iff_eq, Bool.or_eq_true] at h
  obtain ⟨⟨⟨⟨h1, h2⟩, h3⟩, h4⟩, h5⟩ := h
  obtain ⟨d, hd⟩ := Option.isSome_iff_exists.1 h1
  obtain ⟨i, hi⟩ := Option.isSome_iff_exists.1 h2
  rw [hd] at h4
  refine ⟨d, i, hd, hi, ?_, h4, ?_⟩
  · have := Nat.eq_of_beq_eq_true h3
    simpa [Program.cellsOf, hi] using this
  · intro hf
    rcases h5 with h5 | h5
    · rw [hf] at h5; cases h5
    · exact Nat.eq_of_beq_eq_true h5

theorem run_isAgg {t : TypeId} {d : TypeDesc} (h : P.underlying t = some d) (w : World) : (isAgg t).run P w = .ok (TypeDesc.agg d) w := by
  unfold isAgg
  rw [Sem.run_bind, run_underlying h w, Result.andThen_ok]
  cases d <;> rfl

theorem run_sizeOf {t : TypeId} {i : TypeInfo} (h : P.info? t = some i) (w : World) : (sizeOf t).run P w = .ok i.size w := by
  simp [sizeOf, typeInfo, h]

/-- A part of an aggregate's cells, as a value. -/
theorem run_part {t : TypeId} {d : TypeDesc} {i : TypeInfo} (hd : P.underlying t = some d) (hi : P.info? t = some i) (w : World) {pre mid post : List Value} {cs : Array Value} (hcs : cs.toList = pre ++ mid ++ post) (hl : mid.length = i.size)
    {agg : Bool} (ha : TypeDesc.agg d = agg) {v : Value} (hv : VofC agg mid v) : (part t cs pre.length).run P w = .ok v w := by
  unfold part
  rw [Sem.run_bind, run_isAgg hd, Result.andThen_ok, ha]
  cases agg with
  | true =>
    rw [VofC_true] at hv
    subst hv
    simp only [if_true, Sem.run_bind, run_sizeOf hi, Result.andThen_ok, Sem.run_pure]
    congr 2
    apply Array.ext'
    rw [← hl]
    simp [hcs]
  | false =>
    rw [VofC_false] at hv
    subst hv
    have : cs[pre.length]? = some v := by
      rw [← Array.getElem?_toList, hcs]
      simp
    simp [this]

theorem sound_fld (i off n : Nat) (agg : Bool) (x : Opd) : Sound P (.fld i off n agg x) := by
  intro c M μ G S a w nid o v u hp hm hr _
  generalize hq : o.op = q at hm
  cases q <;> simp only [mop, Bool.false_eq_true, Bool.and_eq_true] at hm
  rename_i T x' f'
  obtain ⟨⟨h1, h2⟩, h3⟩ := hm
  obtain rfl := Nat.eq_of_beq_eq_true h1
  have hx := mo_ok hp.glob hp.env h3
  split at h2
  case h_2 => cases h2
  rename_i fd hfd
  simp only [Bool.and_eq_true] at h2
  obtain ⟨ho, hs⟩ := h2
  obtain rfl := Nat.eq_of_beq_eq_true ho
  obtain ⟨d, inf, hd, hi, hsz, hag, hone⟩ := isSz_ty hs
  obtain ⟨fs, hfs, hf⟩ := fieldOf_ty hfd
  simp only [aopO, aop] at hr
  split at hr
  case h_2 => cases hr
  rename_i v1 hv1
  cases hb : (Nat.beq v1.nsz n && (v1.isAgg == agg)) with
  | false => simp [hb] at hr
  | true =>
    rw [hb] at hr
    simp only [Bool.and_eq_true, beq_iff_eq] at hb
    have hn := Nat.eq_of_beq_eq_true hb.1
    simp only [cond_true, Option.some.injEq, Prod.mk.injEq] at hr
    obtain ⟨rfl, rfl⟩ := hr
    have hlive : (ev G S x).live = true := by
      cases he : ev G S x <;> simp [he, fldGet] at hv1 <;> first | rfl | (cases i <;> simp [fldGet] at hv1)
    obtain ⟨cs, hc, hvc⟩ := AVV_live hx hlive
    have hagg : (ev G S x).isAgg = true := by
      cases he : ev G S x with
      | tv τ y => cases τ <;> first | rfl | (rw [he] at hv1; cases i <;> simp [fldGet] at hv1)
      | cons => rfl
      | nil => rfl
      | _ => rw [he] at hv1; cases i <;> simp [fldGet] at hv1
    rw [hagg, VofC_true] at hvc
    obtain ⟨pre, mid, post, e, hl, hmid, _⟩ := (fldGet_focus i fd.offset _ v1 cs hv1 hc).split
    have hml : mid.length = inf.size := by rw [hmid.length, hn, hsz]
    obtain ⟨v', hv'⟩ : ∃ v', VofC agg mid v' := by
      cases agg with
      | true => exact ⟨_, rfl⟩
      | false =>
        have := hone rfl
        rw [hsz, this] at hml
        match mid, hml with
        | [z], _ => exact ⟨z, rfl⟩
    refine OpOk.same hp.hold (v' := v') ?_ (AVV_of hmid (by rw [hb.2]; exact hv'))
    simp only [execOp, hq, Instr.field, Sem.run_bind, run_underlying hfs, Result.andThen_ok, hf, hvc, asAgg, Sem.run_pure]
    have := run_part (P := P) hd hi w (cs := cs.toArray) (by simpa using e) hml hag hv'
    rw [hl] at this
    rw [this]
    rfl

theorem fieldPlace_plain {b o : Nat} {f : Field} {i : TypeInfo} (hi : P.info? f.type = some i) (hz : i.size ≠ 0) (w : World) : (fieldPlace ⟨b, o, none⟩ f).run P w = .ok ⟨b, o + f.offset, none⟩ w := by
  unfold fieldPlace
  rw [Sem.run_bind, run_sizeOf hi, Result.andThen_ok, if_neg hz, Sem.run_pure, Addr.add_mid]

theorem pathOff_append (p q : List Step) : pathOff (p ++ q) = pathOff p + pathOff q := by
  induction p with
  | nil => simp [pathOff]
  | cons s r ih => simp [pathOff, ih]; omega

theorem Loc.head_append {l : Loc} {p : List Step} (h : l.head p) (s : Step) : l.head (p ++ [s]) := by
  cases l with
  | row b len cap =>
    cases p with
    | nil => exact h.elim
    | cons t r => cases t <;> exact h
  | _ => trivial

/-- The field of an address of still memory. -/
theorem fp_focus {M : Mem} {b o : Nat} {es mid pre post : List Value} (h : ∀ j v, es[j]? = some v → M b (o + j) = some v) (e : es = pre ++ mid ++ post) : ∀ j v, mid[j]? = some v → M b (o + pre.length + j) = some v := by
  intro j v hv
  have hj := (List.getElem?_eq_some_iff.1 hv).1
  have := h (pre.length + j) v (by
    subst e
    rw [List.append_assoc, List.getElem?_append_right (by omega)]
    simp only [Nat.add_sub_cancel_left]
    rw [List.getElem?_append_left hj]; exact hv)
  rwa [← Nat.add_assoc] at this

theorem sound_fad (i off : Nat) (x : Opd) : Sound P (.fad i off x) := by
  intro c M μ G S a w nid o v u hp hm hr _
  generalize hq : o.op = q at hm
  cases q <;> simp only [mop, Bool.false_eq_true, Bool.and_eq_true] at hm
  rename_i T x' f'
  obtain ⟨⟨h1, h2⟩, h3⟩ := hm
  obtain rfl := Nat.eq_of_beq_eq_true h1
  have hx := mo_ok hp.glob hp.env h3
  split at h2
  case h_2 => cases h2
  rename_i fd hfd
  simp only [Bool.and_eq_true, hasTy, Bool.not_eq_true'] at h2
  obtain ⟨⟨ho, _, hi0⟩, hz⟩ := h2
  obtain rfl := Nat.eq_of_beq_eq_true ho
  obtain ⟨inf, hi⟩ := Option.isSome_iff_exists.1 hi0
  have hz' : inf.size ≠ 0 := by
    intro e
    have : P.cellsOf fd.type = 0 := by simp [Program.cellsOf, hi, e]
    rw [this] at hz
    cases hz
  obtain ⟨fs, hfs, hf⟩ := fieldOf_ty hfd
  simp only [aopO, aop] at hr
  split at hr
  · rename_i id p he
    simp only [Option.some.injEq, Prod.mk.injEq] at hr
    obtain ⟨rfl, rfl⟩ := hr
    rw [he, AVV_ptr] at hx
    obtain ⟨l, b, hl, hb, hv, hs, hh⟩ := hx
    refine OpOk.same hp.hold (v' := .pointer (some ⟨b, pathOff p + fd.offset, none⟩)) ?_ (AVV_ptr.2 ⟨l, b, hl, hb, by simp [pathOff_append, pathOff, Step.off], ?_, Loc.head_append hh _⟩)
    · simp only [execOp, hq, hv, Instr.fieldAt, Sem.run_bind, run_underlying hfs, Result.andThen_ok, hf, Instr.sureAddr, Sem.run_pure, fieldPlace_plain hi hz']
    · intro s hs'
      rcases List.mem_append.1 hs' with h | h
      · exact hs s h
      · simp only [List.mem_singleton] at h; subst h; trivial
  · rename_i τ y he
    split at hr
    case h_2 => cases hr
    rename_i σ z hz1
    simp only [Option.some.injEq, Prod.mk.injEq] at hr
    obtain ⟨rfl, rfl⟩ := hr
    rw [he, AVV_fp] at hx
    obtain ⟨b, o1, es, hv, ht, hM⟩ := hx
    obtain ⟨pre, mid, post, e, hl, hmid, _⟩ := (fldGet_focus (M := M) (μ := μ) i fd.offset _ _ es hz1 (by simpa only [AVC] using ht)).split
    refine OpOk.same hp.hold (v' := .pointer (some ⟨b, o1 + fd.offset, none⟩)) ?_ (AVV_fp.2 ⟨b, o1 + fd.offset, mid, rfl, by simpa only [AVC] using hmid, ?_⟩)
    · simp only [execOp, hq, hv, Instr.fieldAt, Sem.run_bind, run_underlying hfs, Result.andThen_ok, hf, Instr.sureAddr, Sem.run_pure, fieldPlace_plain hi hz']
    · have := fp_focus hM e
      rwa [hl] at this
  · cases hr

theorem inR_iff {i : Int} {n : Nat} : inR i n = true ↔ 0 ≤ i ∧ i < n := by simp [inR]

theorem sound_iad (n sz : Nat) (x i : Opd) : Sound P (.iad n sz x i) := by
  intro c M μ G S a w nid o v u hp hm hr _
  generalize hq : o.op = q at hm
  cases q <;> simp only [mop, Bool.false_eq_true, Bool.and_eq_true] at hm
  rename_i T x' i'
  obtain ⟨⟨h1, h2⟩, h3⟩ := hm
  have hx := mo_ok hp.glob hp.env h2
  have hi := mo_ok hp.glob hp.env h3
  split at h1
  case h_2 => cases h1
  rename_i m e harr
  simp only [Bool.and_eq_true, hasTy] at h1
  obtain ⟨⟨hn, _, hi0⟩, hsz⟩ := h1
  obtain rfl := Nat.eq_of_beq_eq_true hn
  obtain ⟨inf, hinf⟩ := Option.isSome_iff_exists.1 hi0
  have hsz' : inf.size = sz := by
    have := Nat.eq_of_beq_eq_true hsz
    simpa [Program.cellsOf, hinf] using this
  have ht := arrOf_ty harr
  simp only [aopO, aop] at hr
  split at hr
  case h_2 => cases hr
  rename_i k j hj
  rw [hj, AVV_int] at hi
  cases hb : inR j n with
  | false => simp [hb] at hr
  | true =>
    have hj' := inR_iff.1 hb
    rw [hb] at hr
    simp only [cond_true] at hr
    have run : ∀ b o1, a.eval x' = .pointer (some ⟨b, o1, none⟩) → (execOp a.eval o).run P w = .ok (.value (.pointer (some ⟨b, o1 + (j : Int).toNat * sz, none⟩))) w := by
      intro b o1 hv
      simp only [execOp, hq, hv, hi, Instr.indexAt, asIntOf, Sem.run_bind, Sem.run_pure, run_underlying ht, Result.andThen_ok, Instr.sureAddr, if_pos hj', run_sizeOf hinf, hsz', Addr.add_mid]
    split at hr
    · rename_i id p he
      simp only [Option.some.injEq, Prod.mk.injEq] at hr
      obtain ⟨rfl, rfl⟩ := hr
      rw [he, AVV_ptr] at hx
      obtain ⟨l, b, hl, hbl, hv, hs, hh⟩ := hx
      refine OpOk.same hp.hold (run _ _ hv) (AVV_ptr.2 ⟨l, b, hl, hbl, by simp [pathOff_append, pathOff, Step.off], ?_, Loc.head_append hh _⟩)
      intro s hs'
      rcases List.mem_append.1 hs' with h | h
      · exact hs s h
      · simp only [List.mem_singleton] at h; subst h
        show (j : Int).toNat < n
        omega
    · rename_i m' e' xs he
      cases hb2 : (Nat.beq m' n && Nat.beq e'.n sz) with
      | false => simp [hb2] at hr
      | true =>
        rw [hb2] at hr
        simp only [Bool.and_eq_true] at hb2
        obtain rfl := Nat.eq_of_beq_eq_true hb2.1
        have hes := Nat.eq_of_beq_eq_true hb2.2
        simp only [cond_true, Option.some.injEq, Prod.mk.injEq] at hr
        obtain ⟨rfl, rfl⟩ := hr
        rw [he, AVV_fp] at hx
        obtain ⟨b, o1, es, hv, ⟨hlen, hrow⟩, hM⟩ := hx
        obtain ⟨pre, mid, post, e3, hl, hmid, _⟩ := RowC.focus (fun _ _ h => TC.length h) e'.zero xs es (j : Int).toNat hrow (by omega)
        refine OpOk.same hp.hold (run _ _ hv) (AVV_fp.2 ⟨b, _, mid, rfl, hmid, ?_⟩)
        have := fp_focus hM e3
        rw [hl, hes] at this
        exact this
    · cases hr

theorem elOk_ty {t : TypeId} {e : Ty} (h : elOk P t e = true) : ∃ i z, P.info? t = some i ∧ i.size = e.n ∧ 1 ≤ e.n ∧ i.bytes ≤ 16384 ∧ i.zero = some z ∧ z.cells.toList = zc e := by
  unfold elOk at h
  split at h
  case h_2 => cases h
  rename_i i hi
  simp only [Bool.and_eq_true] at h
  obtain ⟨⟨⟨h1, h2⟩, h3⟩, h4⟩ := h
  split at h4
  case h_2 => cases h4
  rename_i z hz
  split at h4
  case h_2 => cases h4
  rename_i hq
  have h5 := Nat.eq_of_beq_eq_true h1
  have h6 := Nat.le_of_ble_eq_true h2
  refine ⟨i, z, hi, h5, by omega, Nat.le_of_ble_eq_true h3, hz, ?_⟩
  simpa using takeEq_eq hq

theorem sound_iads (e : Ty) (x i : Opd) : Sound P (.iads e x i) := by
  intro c M μ G S a w nid o v u hp hm hr _
  generalize hq : o.op = q at hm
  cases q <;> simp only [mop, Bool.false_eq_true, Bool.and_eq_true] at hm
  rename_i T x' i'
  obtain ⟨⟨h1, h2⟩, h3⟩ := hm
  have hx := mo_ok hp.glob hp.env h2
  have hi := mo_ok hp.glob hp.env h3
  split at h1
  case h_2 => cases h1
  rename_i et hsl
  obtain ⟨inf, z, hinf, hsz, _, _, _, _⟩ := elOk_ty h1
  have ht := slOf_ty hsl
  simp only [aopO, aop] at hr
  split at hr
  case h_2 => cases hr
  rename_i k j hj
  rw [hj, AVV_int] at hi
  have run : ∀ b o1 len cap, a.eval x' = .slice (some ⟨b, o1, none⟩) len cap → 0 ≤ (j : Int) ∧ (j : Int) < len → (execOp a.eval o).run P w = .ok (.value (.pointer (some ⟨b, o1 + (j : Int).toNat * e.n, none⟩))) w := by
    intro b o1 len cap hv hj'
    simp only [execOp, hq, hv, hi, Instr.indexAt, asIntOf, Sem.run_bind, Sem.run_pure, run_underlying ht, Result.andThen_ok, if_pos hj', run_sizeOf hinf, hsz, Addr.add_mid]
  split at hr
  · rename_i e' xs he
    cases hb2 : Nat.beq e'.n e.n with
    | false => simp [hb2] at hr
    | true =>
      rw [hb2] at hr
      have hes := Nat.eq_of_beq_eq_true hb2
      simp only [cond_true] at hr
      cases hb : inR j xs.length with
      | false => simp [hb] at hr
      | true =>
        have hj' := inR_iff.1 hb
        rw [hb] at hr
        simp only [cond_true, Option.some.injEq, Prod.mk.injEq] at hr
        obtain ⟨rfl, rfl⟩ := hr
        rw [he, AVV_tv] at hx
        obtain ⟨cs, ⟨ad, cap, rfl, es, hrow, hM, hcap⟩, hv⟩ := hx
        have hv : a.eval x' = .slice ad xs.length cap := by simpa [VofC, Ty.isAgg] using hv.symm
        rcases hM with rfl | ⟨b, o1, rfl, hM⟩
        · simp at hj'; omega
        · obtain ⟨pre, mid, post, e3, hl, hmid, _⟩ := RowC.focus (fun _ _ h => TC.length h) e'.zero xs es (j : Int).toNat hrow (by omega)
          refine OpOk.same hp.hold (run _ _ _ _ hv hj') (AVV_fp.2 ⟨b, _, mid, rfl, hmid, ?_⟩)
          have := fp_focus hM e3
          rw [hl, hes] at this
          exact this
  · rename_i id he
    split at hr
    case h_2 => cases hr
    rename_i e' xs fz hH
    cases hb2 : Nat.beq e'.n e.n with
    | false => simp [hb2] at hr
    | true =>
      rw [hb2] at hr
      have hes := Nat.eq_of_beq_eq_true hb2
      simp only [cond_true] at hr
      cases hb : inR j xs.length with
      | false => simp [hb] at hr
      | true =>
        have hj' := inR_iff.1 hb
        rw [hb] at hr
        simp only [cond_true, Option.some.injEq, Prod.mk.injEq] at hr
        obtain ⟨rfl, rfl⟩ := hr
        rw [he, AVV_row] at hx
        obtain ⟨bo, len, cap, hl, hv⟩ := hx
        obtain ⟨l, hl', hbr⟩ := hp.hold.blks id _ hH
        rw [hl] at hl'
        cases hl'
        cases bo with
        | none =>
          obtain ⟨rfl, _⟩ := hbr
          simp at hj'; omega
        | some b =>
          obtain ⟨cs, T', hc, hlen, _⟩ := hbr
          rw [← hlen] at hv
          have hr := run b 0 _ _ hv hj'
          refine OpOk.same hp.hold hr (AVV_ptr.2 ⟨_, b, hl, rfl, by simp [pathOff, Step.off], ?_, ?_⟩)
          · intro s hs
            simp only [List.mem_singleton] at hs
            subst hs
            show (j : Int).toNat < xs.length
            omega
          · show xs.length ≤ len
            omega
  · cases hr

end
end Go.Av
