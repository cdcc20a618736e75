/-
  Each operation of the abstract machine is the machine's: loads, elements of values, lengths.
-/
import Derived.Test.YtlemoepklgfjoaaDoorA9
namespace Go.Av
section
variable {P : Program}

theorem run_load_at {t : TypeId} {n : Nat} {agg : Bool} (hs : isSz P t n agg = true) {w : World} {b o : Nat} {mid : List Value} (hr : w.rangeAt b o mid) (hl : mid.length = n) {v : Value} (hv : VofC agg mid v) :
    (Instr.loadAt t (.pointer (some ⟨b, o, none⟩))).run P w = .ok v w := by
  obtain ⟨d, i, hd, hi, hsz, hag, hone⟩ := isSz_ty hs
  cases agg with
  | true =>
    rw [VofC_true] at hv
    subst hv
    have hrow : d.isRow = true := by cases d <;> simp_all [TypeDesc.agg, TypeDesc.isRow]
    exact run_loadAt_mid w b o t mid d hr hd hrow (by rw [hi]; simp [hsz, hl])
  | false =>
    rw [VofC_false] at hv
    subst hv
    have hc := hr 0 v rfl
    simp only [Nat.add_zero] at hc
    simp only [Instr.loadAt, Instr.sureAddr, Sem.run_bind, Sem.run_pure, Result.andThen_ok, loadVar, run_isAgg hd, hag, Bool.false_eq_true, if_false, run_load, hc]

theorem rangeAt_sub {w : World} {b : Nat} {cs : Array Value} {T : TypeId} {fr : Nat × Nat} (hb : w.heap[b]? = some (.cells cs T fr)) {pre mid post : List Value} {k : Nat} (e : cs.toList.take k = pre ++ mid ++ post) : w.rangeAt b pre.length mid := by
  intro j v hv
  have hj := (List.getElem?_eq_some_iff.1 hv).1
  rw [cell_of_heap hb, ← Array.getElem?_toList]
  have hk : pre.length + j < k := by
    have := congrArg List.length e
    simp only [List.length_take, List.length_append] at this
    omega
  have : (cs.toList.take k)[pre.length + j]? = some v := by
    rw [e, List.append_assoc, List.getElem?_append_right (by omega)]
    simp only [Nat.add_sub_cancel_left]
    rw [List.getElem?_append_left hj]; exact hv
  rwa [List.getElem?_take, if_pos hk] at this

theorem rangeAt_all {w : World} {b : Nat} {cs : Array Value} {T : TypeId} {fr : Nat × Nat} (hb : w.heap[b]? = some (.cells cs T fr)) {pre mid post : List Value} (e : cs.toList = pre ++ mid ++ post) : w.rangeAt b pre.length mid :=
  rangeAt_sub hb (k := cs.size) (by rw [← e]; exact List.take_of_length_le (by simp))

theorem rangeAt_mid {w : World} {b o : Nat} {cs pre mid post : List Value} (h : w.rangeAt b o cs) (e : cs = pre ++ mid ++ post) : w.rangeAt b (o + pre.length) mid := by
  intro j v hv
  have hj := (List.getElem?_eq_some_iff.1 hv).1
  have := h (pre.length + j) v (by
    subst e
    rw [List.append_assoc, List.getElem?_append_right (by omega)]
    simp only [Nat.add_sub_cancel_left]
    rw [List.getElem?_append_left hj]; exact hv)
  rwa [← Nat.add_assoc] at this

theorem readAt_ok {c : Ctx} {M : Mem} {μ : Map} {H : Hp} {w : World} (hH : Hold c M μ H w) {a v : AV} {va : Value} (ha : AVV M μ a va) (hr : readAt H a = some v) :
    ∃ b o mid, va = .pointer (some ⟨b, o, none⟩) ∧ w.rangeAt b o mid ∧ AVC M μ v mid := by
  unfold readAt at hr
  split at hr
  · rename_i id p
    rw [AVV_ptr] at ha
    obtain ⟨l, b, hl, hb, hva, hs, hh⟩ := ha
    split at hr
    · rename_i u hu
      obtain ⟨l', hl', hbr⟩ := hH.blks id _ hu
      rw [hl] at hl'
      cases hl'
      cases l with
      | row b' len cap => cases b' <;> exact hbr.elim
      | obj b' => exact hbr.elim
      | box b' =>
        simp only [Loc.blk, Option.some.injEq] at hb
        subst hb
        obtain ⟨cs, T, hc, hav⟩ := hbr
        obtain ⟨pre, mid, post, e, hlen, hmid, _⟩ := (pathGet_focus p u v cs.toList hs hr hav).split
        refine ⟨b', pathOff p, mid, hva, ?_, hmid⟩
        rw [← hlen]
        exact rangeAt_all hc e
    · rename_i e xs fz hu
      obtain ⟨l', hl', hbr⟩ := hH.blks id _ hu
      rw [hl] at hl'
      cases hl'
      split at hr
      case h_2 => cases hr
      rename_i i n sz r
      cases hsz : Nat.beq e.n sz with
      | false => simp [hsz] at hr
      | true =>
        rw [hsz] at hr
        have hsz := Nat.eq_of_beq_eq_true hsz
        simp only [cond_true] at hr
        cases l with
        | box b' => exact hbr.elim
        | obj b' => exact hbr.elim
        | row b' len cap =>
          simp only [Loc.blk] at hb
          subst hb
          obtain ⟨cs, T, hc, hlen, hle, hcap, hcs, hone, hrow⟩ := hbr
          have hi : i < n := hs (Step.idx i n sz) (by simp)
          have hn : n ≤ len := hh
          obtain ⟨pre, mid, post, e3, hp, hmid, _⟩ := RowC.focus (fun _ _ h => TC.length h) e.zero xs _ i hrow (by omega)
          obtain ⟨pre2, mid2, post2, e4, hp2, hmid2, _⟩ := (pathGet_focus r _ v mid (fun s hs' => hs s (by simp [hs'])) hr (by simpa only [AVC] using hmid)).split
          refine ⟨b, _, mid2, hva, ?_, hmid2⟩
          have h1 := rangeAt_sub hc e3
          have h2 := rangeAt_mid h1 e4
          have : pathOff (Step.idx i n sz :: r) = pre.length + pre2.length := by
            simp only [pathOff, Step.off]
            rw [hp, hp2, hsz]
          rw [this]
          exact h2
    · cases hr
  · rename_i τ x
    simp only [Option.some.injEq] at hr
    subst hr
    rw [AVV_fp] at ha
    obtain ⟨b, o, es, hva, ht, hM⟩ := ha
    exact ⟨b, o, es, hva, fun j v hv => hH.mem _ _ _ (hM j v hv), by simpa only [AVC] using ht⟩
  · cases hr

theorem VofC_ex {agg : Bool} {cs : List Value} (h : agg = false → cs.length = 1) : ∃ v, VofC agg cs v := by
  cases agg with
  | true => exact ⟨_, rfl⟩
  | false =>
    have := h rfl
    match cs, this with
    | [z], _ => exact ⟨z, rfl⟩

theorem sound_load (agg : Bool) (n : Nat) (x : Opd) : Sound P (.load agg n x) := by
  intro c M μ G S a w nid o v u hp hm hr _
  generalize hq : o.op = q at hm
  cases q <;> simp only [mop, Bool.false_eq_true, Bool.and_eq_true] at hm
  rename_i T x'
  obtain ⟨h1, h2⟩ := hm
  have hx := mo_ok hp.glob hp.env h2
  simp only [aopO, aop] at hr
  split at hr
  case h_2 => cases hr
  rename_i v1 hv1
  cases hb : (Nat.beq v1.nsz n && (v1.isAgg == agg)) with
  | false => simp [hb] at hr
  | true =>
    rw [hb] at hr
    simp only [Bool.and_eq_true, beq_iff_eq] at hb
    have hn := Nat.eq_of_beq_eq_true hb.1
    simp only [cond_true, Option.some.injEq, Prod.mk.injEq] at hr
    obtain ⟨rfl, rfl⟩ := hr
    obtain ⟨b, o1, mid, hva, hrng, hmid⟩ := readAt_ok hp.hold hx hv1
    obtain ⟨d, inf, hd, hi, hsz, hag, hone⟩ := isSz_ty h1
    obtain ⟨v', hv'⟩ := VofC_ex (agg := agg) (cs := mid) (fun h => by rw [hmid.length, hn, hone h])
    refine OpOk.same hp.hold (v' := v') ?_ (AVV_of hmid (by rw [hb.2]; exact hv'))
    simp only [execOp, hq, hva, Sem.run_bind, Sem.run_pure, run_load_at h1 hrng (by rw [hmid.length, hn]) hv', Result.andThen_ok]

theorem sound_ix (n sz : Nat) (agg : Bool) (x i : Opd) : Sound P (.ix n sz agg x i) := by
  intro c M μ G S a w nid o v u hp hm hr _
  generalize hq : o.op = q at hm
  cases q <;> simp only [mop, Bool.false_eq_true, Bool.and_eq_true] at hm
  rename_i T x' i'
  obtain ⟨⟨h1, h2⟩, h3⟩ := hm
  have hx := mo_ok hp.glob hp.env h2
  have hi := mo_ok hp.glob hp.env h3
  split at h1
  case h_2 => cases h1
  rename_i m e harr
  simp only [Bool.and_eq_true] at h1
  obtain ⟨hn, hs⟩ := h1
  obtain rfl := Nat.eq_of_beq_eq_true hn
  have ht := arrOf_ty harr
  obtain ⟨d, inf, hd, hinf, hsz, hag, hone⟩ := isSz_ty hs
  simp only [aopO, aop] at hr
  split at hr
  case h_2 => cases hr
  rename_i k j hj
  rw [hj, AVV_int] at hi
  have run : ∀ {cs pre mid post : List Value} {v' : Value}, a.eval x' = .agg cs.toArray → inR j n = true → cs = pre ++ mid ++ post → pre.length = (j : Int).toNat * sz → mid.length = sz → VofC agg mid v' → (execOp a.eval o).run P w = .ok (.value v') w := by
    intro cs pre mid post v' hv hb e hl hml hvc
    have hpart := run_part (P := P) hd hinf w (cs := cs.toArray) (by simpa using e) (by rw [hml, hsz]) hag hvc
    rw [hl] at hpart
    simp only [execOp, hq, hv, hi, Instr.index, asIntOf, Sem.run_bind, Sem.run_pure, run_underlying ht, Result.andThen_ok, if_pos (inR_iff.1 hb), run_sizeOf hinf, hsz, hpart]
  split at hr
  · rename_i m' e' xs he
    cases hb2 : (Nat.beq m' n && Nat.beq e'.n sz && (e'.isAgg == agg)) with
    | false => simp [hb2] at hr
    | true =>
      rw [hb2] at hr
      simp only [Bool.and_eq_true, beq_iff_eq] at hb2
      obtain ⟨⟨hb3, hb4⟩, hb5⟩ := hb2
      obtain rfl := Nat.eq_of_beq_eq_true hb3
      have hes := Nat.eq_of_beq_eq_true hb4
      simp only [cond_true] at hr
      cases hb : inR j m' with
      | false => simp [hb] at hr
      | true =>
        rw [hb] at hr
        simp only [cond_true, Option.some.injEq, Prod.mk.injEq] at hr
        obtain ⟨rfl, rfl⟩ := hr
        rw [he, AVV_tv] at hx
        obtain ⟨cs, ⟨hlen, hrow⟩, hv⟩ := hx
        have hj' := inR_iff.1 hb
        obtain ⟨pre, mid, post, e3, hl, hmid, _⟩ := RowC.focus (fun _ _ h => TC.length h) e'.zero xs cs (j : Int).toNat hrow (by omega)
        rw [hes] at hl
        obtain ⟨v', hv'⟩ := VofC_ex (agg := agg) (cs := mid) (fun h => by rw [hmid.length, hes, hone h])
        exact OpOk.same hp.hold (run hv hb e3 hl (by rw [hmid.length, hes]) hv') (AVV_tv.2 ⟨mid, hmid, by rw [hb5]; exact hv'⟩)
  · rename_i y z he
    cases hb : inR j n with
    | false => simp [hb] at hr
    | true =>
      rw [hb] at hr
      simp only [cond_true] at hr
      split at hr
      case h_2 => cases hr
      rename_i v1 hv1
      cases hag1 : (v1.isAgg == agg) with
      | false => simp [hag1] at hr
      | true =>
        rw [hag1] at hr
        simp only [beq_iff_eq] at hag1
        simp only [cond_true, Option.some.injEq, Prod.mk.injEq] at hr
        obtain ⟨rfl, rfl⟩ := hr
        rw [he] at hx
        obtain ⟨cs, hc, hvc⟩ := hx
        obtain ⟨hns, hf⟩ := chainGet_focus _ sz _ v1 cs hv1 hc
        obtain ⟨pre, mid, post, e3, hl, hmid, _⟩ := hf.split
        obtain ⟨v', hv'⟩ := VofC_ex (agg := agg) (cs := mid) (fun h => by rw [hmid.length, hns, hone h])
        exact OpOk.same hp.hold (run hvc hb e3 hl (by rw [hmid.length, hns]) hv') (AVV_of hmid (by rw [hag1]; exact hv'))
  · cases hr

theorem get_arr (s : List UInt8) (i : Nat) (h : i < s.length) : (ByteArray.mk s.toArray)[i]? = some (s.getD i 0) := by
  have h' : i < (ByteArray.mk s.toArray).size := by rw [size_arr]; exact h
  rw [getElem?_pos _ i h']
  congr 1
  show s.toArray[i] = _
  simp [List.getD, h]

theorem sound_ixs (x i : Opd) : Sound P (.ixs x i) := by
  intro c M μ G S a w nid o v u hp hm hr _
  generalize hq : o.op = q at hm
  cases q <;> simp only [mop, Bool.false_eq_true, Bool.and_eq_true] at hm
  rename_i T x' i'
  obtain ⟨⟨h1, h2⟩, h3⟩ := hm
  have hx := mo_ok hp.glob hp.env h2
  have hi := mo_ok hp.glob hp.env h3
  have ht := isStr_ty h1
  simp only [aopO, aop] at hr
  split at hr
  · rename_i k j s hj hs
    rw [hj, AVV_int] at hi
    rw [hs, AVV_str] at hx
    cases hb : inR j s.length with
    | false => simp [hb] at hr
    | true =>
      rw [hb] at hr
      have hj' := inR_iff.1 hb
      simp only [cond_true, Option.some.injEq, Prod.mk.injEq] at hr
      obtain ⟨rfl, rfl⟩ := hr
      refine OpOk.same hp.hold (v' := .int .u8 ((s.getD (j : Int).toNat 0).toNat : Int)) ?_ (AVV_int.2 rfl)
      have := get_arr s (j : Int).toNat (by omega)
      simp only [execOp, hq, hx, hi, Instr.index, asIntOf, Sem.run_bind, Sem.run_pure, run_underlying ht, Result.andThen_ok, if_pos hj'.1, this]
  · cases hr

theorem chainAt_ok {M : Mem} {μ : Map} : ∀ {i : Nat} {l a : AV} {vs : List Value}, chainAt i l = some a → AVL M μ l vs → ∃ v, vs[i]? = some v ∧ AVV M μ a v
  | 0, .cons a b, a', vs, h, hl => by
    simp only [chainAt, Option.some.injEq] at h
    subst h
    simp only [AVL] at hl
    obtain ⟨v, r, c, rfl, h1, h2, _⟩ := hl
    exact ⟨v, rfl, AVV_of h1 h2⟩
  | i + 1, .cons a b, a', vs, h, hl => by
    simp only [chainAt] at h
    simp only [AVL] at hl
    obtain ⟨v, r, c, rfl, _, _, h3⟩ := hl
    obtain ⟨v', h4, h5⟩ := chainAt_ok h h3
    exact ⟨v', by simpa using h4, h5⟩
  | 0, .tv _ _, _, _, h, _ | 0, .ptr _ _, _, _, h, _ | 0, .row _, _, _, h, _ | 0, .fp _ _, _, _, h, _ | 0, .obj _, _, _, h, _ | 0, .mp _, _, _, h, _ | 0, .sln _ _ _, _, _, h, _ | 0, .nilp, _, _, h, _ | 0, .nilf, _, _, h, _ | 0, .nil, _, _, h, _ | 0, .fn _ _ _, _, _, h, _ | 0, .tup _, _, _, h, _ | 0, .junk, _, _, h, _ | 0, .dead, _, _, h, _
  | _ + 1, .tv _ _, _, _, h, _ | _ + 1, .ptr _ _, _, _, h, _ | _ + 1, .row _, _, _, h, _ | _ + 1, .fp _ _, _, _, h, _ | _ + 1, .obj _, _, _, h, _ | _ + 1, .mp _, _, _, h, _ | _ + 1, .sln _ _ _, _, _, h, _ | _ + 1, .nilp, _, _, h, _ | _ + 1, .nilf, _, _, h, _ | _ + 1, .nil, _, _, h, _ | _ + 1, .fn _ _ _, _, _, h, _ | _ + 1, .tup _, _, _, h, _ | _ + 1, .junk, _, _, h, _ | _ + 1, .dead, _, _, h, _ => by
    simp [chainAt] at h

theorem sound_ext (x : Opd) (i : Nat) : Sound P (.ext x i) := by
  intro c M μ G S a w nid o v u hp hm hr _
  generalize hq : o.op = q at hm
  cases q <;> simp only [mop, Bool.false_eq_true, Bool.and_eq_true] at hm
  rename_i x' i'
  obtain ⟨h1, h2⟩ := hm
  obtain rfl := Nat.eq_of_beq_eq_true h1
  have hx := mo_ok hp.glob hp.env h2
  simp only [aopO, aop] at hr
  split at hr
  case h_2 => cases hr
  rename_i l he
  split at hr
  case h_2 => cases hr
  rename_i a1 ha1
  simp only [Option.some.injEq, Prod.mk.injEq] at hr
  obtain ⟨rfl, rfl⟩ := hr
  rw [he] at hx
  obtain ⟨vs, hv, hl⟩ := hx
  obtain ⟨v', h4, h5⟩ := chainAt_ok ha1 hl
  refine OpOk.same hp.hold (v' := v') ?_ h5
  have : vs.toArray[i]? = some v' := by simpa using h4
  simp only [execOp, hq, hv, Instr.extract, this, Sem.run_bind, Sem.run_pure, Result.andThen_ok]

theorem call_builtin {o : Oper} {a : Act} {cl : Call} {b : Builtin} (hq : o.op = .call cl) (hb : cl.callee = .builtin b) : ∃ cs, ∀ w, (execOp a.eval o).run P w = (builtin b cl.argTypes o.type cs (cl.args.map a.eval)).run P w := by
  obtain ⟨callee, args, argTypes⟩ := cl
  simp only at hb
  subst hb
  obtain ⟨d, cs, h1, h2, h3⟩ : ∃ (d : Deferred) (cs : Array Bool), (∀ w, (resolve a.eval { callee := .builtin b, args, argTypes } o.type).run P w = .ok d w) ∧ d.args = args.map a.eval ∧ d.target = .builtin b argTypes o.type cs := ⟨_, _, fun _ => rfl, rfl, rfl⟩
  refine ⟨cs, fun w => ?_⟩
  simp only [execOp, hq, Sem.run_bind, h1, Result.andThen_ok, h2, h3, invoke]

theorem arr1 {α : Type} {xs : Array α} {a : α} (h : xs.toList = [a]) : xs = #[a] := by
  apply Array.ext'; simpa using h
theorem arr2 {α : Type} {xs : Array α} {a b : α} (h : xs.toList = [a, b]) : xs = #[a, b] := by
  apply Array.ext'; simpa using h

theorem sound_lens (x : Opd) : Sound P (.lens x) := by
  intro c M μ G S a w nid o v u hp hm hr _
  generalize hq : o.op = q at hm
  cases q <;> simp only [mop, Bool.false_eq_true] at hm
  rename_i cl
  split at hm
  case h_2 => cases hm
  rename_i y t hc1 hc2 hc3
  simp only [Bool.and_eq_true] at hm
  obtain ⟨ht, h2⟩ := hm
  have hx := mo_ok hp.glob hp.env h2
  have hargs := arr1 hc2
  have htys := arr1 hc3
  obtain ⟨cs, hcall⟩ := call_builtin (P := P) (a := a) hq hc1
  simp only [aopO, aop] at hr
  split at hr
  · rename_i s he
    rw [he, AVV_str] at hx
    simp only [Option.some.injEq, Prod.mk.injEq] at hr
    obtain ⟨rfl, rfl⟩ := hr
    refine OpOk.same hp.hold (v' := .int .i64 (s.length : Int)) ?_ (AVV_int.2 rfl)
    rw [hcall]
    simp [builtin, Builtin.len_, hargs, htys, hx, run_underlying (isStr_ty ht), goInt, size_arr]
  · cases hr

theorem sound_len (x : Opd) : Sound P (.len x) := by
  intro c M μ G S a w nid o v u hp hm hr _
  generalize hq : o.op = q at hm
  cases q <;> simp only [mop, Bool.false_eq_true] at hm
  rename_i cl
  split at hm
  case h_2 => cases hm
  rename_i y t hc1 hc2 hc3
  simp only [Bool.and_eq_true] at hm
  obtain ⟨ht, h2⟩ := hm
  obtain ⟨e, ht⟩ := Option.isSome_iff_exists.1 ht
  have hx := mo_ok hp.glob hp.env h2
  have hargs := arr1 hc2
  have htys := arr1 hc3
  obtain ⟨cs, hcall⟩ := call_builtin (P := P) (a := a) hq hc1
  have run : ∀ {ad : Option Addr} {n cap : Nat}, a.eval y = .slice ad n cap → (execOp a.eval o).run P w = .ok (.value (.int .i64 (n : Int))) w := by
    intro ad n cap hv
    rw [hcall]
    simp [builtin, Builtin.len_, hargs, htys, hv, run_underlying (slOf_ty ht), goInt]
  simp only [aopO, aop] at hr
  split at hr
  · rename_i e' xs he
    rw [he, AVV_tv] at hx
    obtain ⟨cs', ⟨ad, cap, rfl, _⟩, hv⟩ := hx
    have hv : a.eval y = .slice ad xs.length cap := by simpa [VofC, Ty.isAgg] using hv.symm
    simp only [Option.some.injEq, Prod.mk.injEq] at hr
    obtain ⟨rfl, rfl⟩ := hr
    exact OpOk.same hp.hold (run hv) (AVV_int.2 rfl)
  · rename_i id he
    split at hr
    case h_2 => cases hr
    rename_i e' xs fz hH
    simp only [Option.some.injEq, Prod.mk.injEq] at hr
    obtain ⟨rfl, rfl⟩ := hr
    rw [he, AVV_row] at hx
    obtain ⟨bo, len, cap, hl, hv⟩ := hx
    obtain ⟨l, hl', hbr⟩ := hp.hold.blks id _ hH
    rw [hl] at hl'
    cases hl'
    have hlen : xs.length = len := by
      cases bo with
      | none => obtain ⟨rfl, rfl, _⟩ := hbr; rfl
      | some b => obtain ⟨_, _, _, h, _⟩ := hbr; exact h
    rw [← hlen] at hv
    exact OpOk.same hp.hold (run hv) (AVV_int.2 rfl)
  · cases hr

theorem sound_lenc (n : Nat) (x : Opd) : Sound P (.lenc n x) := by
  intro c M μ G S a w nid o v u hp hm hr _
  generalize hq : o.op = q at hm
  cases q <;> simp only [mop, Bool.false_eq_true] at hm
  rename_i cl
  split at hm
  case h_2 => cases hm
  rename_i y t hc1 hc2 hc3
  simp only [Bool.and_eq_true] at hm
  obtain ⟨ht, h2⟩ := hm
  have hargs := arr1 hc2
  have htys := arr1 hc3
  split at ht
  case h_2 => cases ht
  rename_i m e harr
  obtain rfl := Nat.eq_of_beq_eq_true ht
  obtain ⟨cs, hcall⟩ := call_builtin (P := P) (a := a) hq hc1
  simp only [aopO, aop, Option.some.injEq, Prod.mk.injEq] at hr
  obtain ⟨rfl, rfl⟩ := hr
  refine OpOk.same hp.hold (v' := .int .i64 (n : Int)) ?_ (AVV_int.2 rfl)
  rw [hcall]
  have hu := arrOf_ty harr
  simp only [builtin, Builtin.len_, hargs, htys, List.map_toArray, List.map_cons, List.map_nil, Sem.run_bind, Sem.run_pure, List.getElem?_toArray, List.getElem?_cons_zero, run_underlying hu, Result.andThen_ok, goInt]

theorem sound_mx (x y : Opd) : Sound P (.mx x y) := by
  intro c M μ G S a w nid o v u hp hm hr _
  generalize hq : o.op = q at hm
  cases q <;> simp only [mop, Bool.false_eq_true] at hm
  rename_i cl
  split at hm
  case h_2 => cases hm
  rename_i x' y' hc1 hc2
  simp only [Bool.and_eq_true] at hm
  have hx := mo_ok hp.glob hp.env hm.1
  have hy := mo_ok hp.glob hp.env hm.2
  have hargs := arr2 hc2
  obtain ⟨cs, hcall⟩ := call_builtin (P := P) (a := a) hq hc1
  simp only [aopO, aop] at hr
  split at hr
  case h_2 => cases hr
  rename_i k m k' n e1 e2
  rw [e1, AVV_int] at hx
  rw [e2, AVV_int] at hy
  cases hk : kEq k k' with
  | false => simp [hk] at hr
  | true =>
    rw [hk] at hr
    simp only [cond_true, Option.some.injEq, Prod.mk.injEq] at hr
    obtain ⟨rfl, rfl⟩ := hr
    refine OpOk.same hp.hold (v' := .int k (mxI m n)) ?_ (AVV_int.2 rfl)
    rw [hcall]
    have : (if n > m then n else m) = mxI m n := by unfold mxI; by_cases h : m < n <;> simp [h]
    simp [builtin, Builtin.max_, hargs, hx, hy, Builtin.max2, this]

theorem sound_mn (x y : Opd) : Sound P (.mn x y) := by
  intro c M μ G S a w nid o v u hp hm hr _
  generalize hq : o.op = q at hm
  cases q <;> simp only [mop, Bool.false_eq_true] at hm
  rename_i cl
  split at hm
  case h_2 => cases hm
  rename_i x' y' hc1 hc2
  simp only [Bool.and_eq_true] at hm
  have hx := mo_ok hp.glob hp.env hm.1
  have hy := mo_ok hp.glob hp.env hm.2
  have hargs := arr2 hc2
  obtain ⟨cs, hcall⟩ := call_builtin (P := P) (a := a) hq hc1
  simp only [aopO, aop] at hr
  split at hr
  case h_2 => cases hr
  rename_i k m k' n e1 e2
  rw [e1, AVV_int] at hx
  rw [e2, AVV_int] at hy
  cases hk : kEq k k' with
  | false => simp [hk] at hr
  | true =>
    rw [hk] at hr
    simp only [cond_true, Option.some.injEq, Prod.mk.injEq] at hr
    obtain ⟨rfl, rfl⟩ := hr
    refine OpOk.same hp.hold (v' := .int k (mnI m n)) ?_ (AVV_int.2 rfl)
    rw [hcall]
    have : (if n < m then n else m) = mnI m n := by unfold mnI; by_cases h : n < m <;> simp [h]
    simp [builtin, Builtin.min_, hargs, hx, hy, Builtin.min2, this]

end
end Go.Av
