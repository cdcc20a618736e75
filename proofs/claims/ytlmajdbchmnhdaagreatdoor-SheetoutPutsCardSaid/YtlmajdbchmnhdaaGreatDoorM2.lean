/-
  Each operation of the abstract machine is the machine's: loads, elements of values, lengths.
-/
import Derived.Test.YtlmajdbchmnhdaaGreatDoorM1
import Derived.Deep.Upon
import Derived.Deep.DeepAppendWide
namespace Go.Av
section
variable {P : Program}

theorem run_load_at {t : TypeId} {n : Nat} {agg : Bool} (hs : isSz P t n agg = true) {w : World} {b o : Nat} {mid : List Value} (hr : w.rangeAt b o mid) (hl : mid.length = n) {v : Value} (hv : VofC agg mid v) :
    (Instr.loadAt t (.pointer (some ⟨b, o, none⟩))).run P w = .ok v w := by
  obtain ⟨d, i, hd, hi, hsz, hag, hone⟩ := isSz_ty hs
  cases agg with
  | true =>
    rw [VofC_true] at hv
    subst hv
    have hrow : d.isRow = true := by cases d <;> simp_all [TypeDesc.agg, TypeDesc.isRow]
    exact run_loadAt_mid w b o t mid d hr hd hrow (by rw [hi]; simp [hsz, hl])
  | false =>
    rw [VofC_false] at hv
    subst hv
    have hc := hr 0 v rfl
    simp only [Nat.add_zero] at hc
    simp only [Instr.loadAt, Instr.sureAddr, Sem.run_bind, Sem.run_pure, Result.andThen_ok, loadVar, run_isAgg hd, hag, Bool.false_eq_true, if_false, run_load, hc]

theorem rangeAt_sub {w : World} {b : Nat} {cs : Array Value} {T : TypeId} {fr : Nat × Nat} (hb : w.heap[b]? = some (.cells cs T fr)) {pre mid post : List Value} {k : Nat} (e : cs.toList.take k = pre ++ mid ++ post) : w.rangeAt b pre.length mid := by
  intro j v hv
  have hj := (List.getElem?_eq_some_iff.1 hv).1
  rw [cell_of_heap hb, ← Array.getElem?_toList]
  have hk : pre.length + j < k := by
    have := congrArg List.length e
    simp only [List.length_take, List.length_append] at this
    omega
  have : (cs.toList.take k)[pre.length + j]? = some v := by
    rw [e, List.append_assoc, List.getElem?_append_right (by omega)]
    simp only [Nat.add_sub_cancel_left]
    rw [List.getElem?_append_left hj]; exact hv
  rwa [List.getElem?_take, if_pos hk] at this

theorem rangeAt_all {w : World} {b : Nat} {cs : Array Value} {T : TypeId} {fr : Nat × Nat} (hb : w.heap[b]? = some (.cells cs T fr)) {pre mid post : List Value} (e : cs.toList = pre ++ mid ++ post) : w.rangeAt b pre.length mid :=
  rangeAt_sub hb (k := cs.size) (by rw [← e]; exact List.take_of_length_le (by simp))

theorem rangeAt_mid {w : World} {b o : Nat} {cs pre mid post : List Value} (h : w.rangeAt b o cs) (e : cs = pre ++ mid ++ post) : w.rangeAt b (o + pre.length) mid := by
  intro j v hv
  have hj := (List.getElem?_eq_some_iff.1 hv).1
  have := h (pre.length + j) v (by
    subst e
    rw [List.append_assoc, List.getElem?_append_right (by omega)]
    simp only [Nat.add_sub_cancel_left]
    rw [List.getElem?_append_left hj]; exact hv)
  rwa [← Nat.add_assoc] at this

theorem readAt_ok {c : Ctx} {M : Mem} {μ : Map} {H : Hp} {w : World} (hH : Hold c M μ H w) {a v : AV} {va : Value} (ha : AVV M μ a va) (hr : readAt H a = some v) :
    ∃ b o mid, va = .pointer (some ⟨b, o, none⟩) ∧ w.rangeAt b o mid ∧ AVC M μ v mid := by
  unfold readAt at hr
  split at hr
  · rename_i id p
    rw [AVV_ptr] at ha
    obtain ⟨l, b, hl, hb, hva, hs, hh⟩ := ha
    split at hr
    · rename_i u hu
      obtain ⟨l', hl', hbr⟩ := hH.blks id _ hu
      rw [hl] at hl'
      cases hl'
      cases l with
      | row b' len cap => cases b' <;> exact hbr.elim
      | obj b' => exact hbr.elim
      | box b' =>
        simp only [Loc.blk, Option.some.injEq] at hb
        subst hb
        obtain ⟨cs, T, hc, hav⟩ := hbr
        obtain ⟨pre, mid, post, e, hlen, hmid, _⟩ := (pathGet_focus p u v cs.toList hs hr hav).split
        refine ⟨b', pathOff p, mid, hva, ?_, hmid⟩
        rw [← hlen]
        exact rangeAt_all hc e
    · rename_i e xs fz hu
      obtain ⟨l', hl', hbr⟩ := hH.blks id _ hu
      rw [hl] at hl'
      cases hl'
      split at hr
      case h_2 => cases hr
      rename_i i n sz r
      cases hsz : Nat.beq e.n sz with
      | false => simp [hsz] at hr
      | true =>
        rw [hsz] at hr
        have hsz := Nat.eq_of_beq_eq_true hsz
        simp only [cond_true] at hr
        cases l with
        | box b' => exact hbr.elim
        | obj b' => exact hbr.elim
        | row b' len cap =>
          simp only [Loc.blk] at hb
          subst hb
          obtain ⟨cs, T, hc, hlen, hle, hcap, hcs, hone, hrow⟩ := hbr
          have hi : i < n := hs (Step.idx i n sz) (by simp)
          have hn : n ≤ len := hh
          obtain ⟨pre, mid, post, e3, hp, hmid, _⟩ := RowC.focus (fun _ _ h => TC.length h) e.zero xs _ i hrow (by omega)
          obtain ⟨pre2, mid2, post2, e4, hp2, hmid2, _⟩ := (pathGet_focus r _ v mid (fun s hs' => hs s (by simp [hs'])) hr (by simpa only [AVC] using hmid)).split
          refine ⟨b, _, mid2, hva, ?_, hmid2⟩
          have h1 := rangeAt_sub hc e3
          have h2 := rangeAt_mid h1 e4
          have : pathOff (Step.idx i n sz :: r) = pre.length + pre2.length := by
            simp only [pathOff, Step.off]
            rw [hp, hp2, hsz]
          rw [this]
          exact h2
    · cases hr
  · rename_i τ x
    simp only [Option.some.injEq] at hr
    subst hr
    rw [AVV_fp] at ha
    obtain ⟨b, o, es, hva, ht, hM⟩ := ha
    exact ⟨b, o, es, hva, fun j v hv => hH.mem _ _ _ (hM j v hv), by simpa only [AVC] using ht⟩
  · cases hr

theorem VofC_ex {agg : Bool} {cs : List Value} (h : agg = false → cs.length = 1) : ∃ v, VofC agg cs v := by
  cases agg with
  | true => exact ⟨_, rfl⟩
  | false =>
    have := h rfl
    match cs, this with
    | [z], _ => exact ⟨z, rfl⟩

theorem sound_load (agg : Bool) (n : Nat) (x : Opd) : Sound P (.load agg n x) := by
  intro c M μ G S a w nid o v u hp hm hr _
  generalize hq : o.op = q at hm
  cases q <;> simp only [mop, Bool.false_eq_true, Bool.and_eq_true] at hm
  rename_i T x'
  obtain ⟨h1, h2⟩ := hm
  have hx := mo_ok hp.glob hp.env h2
  simp only [aopO, aop] at hr
  split at hr
  case h_2 => cases hr
  rename_i v1 hv1
  cases hb : (Nat.beq v1.nsz n && (v1.isAgg == agg)) with
  | false => simp [hb] at hr
  | true =>
    rw [hb] at hr
    simp only [Bool.and_eq_true, beq_iff_eq] at hb
    have hn := Nat.eq_of_beq_eq_true hb.1
    simp only [cond_true, Option.some.injEq, Prod.mk.injEq] at hr
    obtain ⟨rfl, rfl⟩ := hr
    obtain ⟨b, o1, mid, hva, hrng, hmid⟩ := readAt_ok hp.hold hx hv1
    obtain ⟨d, inf, hd, hi, hsz, hag, hone⟩ := isSz_ty h1
    obtain ⟨v', hv'⟩ := VofC_ex (agg := agg) (cs := mid) (fun h => by rw [hmid.length, hn, hone h])
    refine OpOk.same hp.hold (v' := v') ?_ (AVV_of hmid (by rw [hb.2]; exact hv'))
    simp only [execOp, hq, hva, Sem.run_bind, Sem.run_pure, run_load_at h1 hrng (by rw [hmid.length, hn]) hv', Result.andThen_ok]

theorem sound_ix (n sz : Nat) (agg : Bool) (x i : Opd) : Sound P (.ix n sz agg x i) := by
  intro c M μ G S a w nid o v u hp hm hr _
  generalize hq : o.op = q at hm
  cases q <;> simp only [mop, Bool.false_eq_true, Bool.and_eq_true] at hm
  rename_i T x' i'
  obtain ⟨⟨h1, h2⟩, h3⟩ := hm
  have hx := mo_ok hp.glob hp.env h2
  have hi := mo_ok hp.glob hp.env h3
  split at h1
  case h_2 => cases h1
  rename_i m e harr
  simp only [Bool.and_eq_true] at h1
  obtain ⟨hn, hs⟩ := h1
  obtain rfl := Nat.eq_of_beq_eq_true hn
  have ht := arrOf_ty harr
  obtain ⟨d, inf, hd, hinf, hsz, hag, hone⟩ := isSz_ty hs
  simp only [aopO, aop] at hr
  split at hr
  case h_2 => cases hr
  rename_i k j hj
  rw [hj, AVV_int] at hi
  have run : ∀ {cs pre mid post : List Value} {v' : Value}, a.eval x' = .agg cs.toArray → inR j n = true → cs = pre ++ mid ++ post → pre.length = (j : Int).toNat * sz → mid.length = sz → VofC agg mid v' → (execOp a.eval o).run P w = .ok (.value v') w := by
    intro cs pre mid post v' hv hb e hl hml hvc
    have hpart := run_part (P := P) hd hinf w (cs := cs.toArray) (by simpa using e) (by rw [hml, hsz]) hag hvc
    rw [hl] at hpart
    simp only [execOp, hq, hv, hi, Instr.index, asIntOf, Sem.run_bind, Sem.run_pure, run_underlying ht, Result.andThen_ok, if_pos (inR_iff.1 hb), run_sizeOf hinf, hsz, hpart]
  split at hr
  · rename_i m' e' xs he
    cases hb2 : (Nat.beq m' n && Nat.beq e'.n sz && (e'.isAgg == agg)) with
    | false => simp [hb2] at hr
    | true =>
      rw [hb2] at hr
      simp only [Bool.and_eq_true, beq_iff_eq] at hb2
      obtain ⟨⟨hb3, hb4⟩, hb5⟩ := hb2
      obtain rfl := Nat.eq_of_beq_eq_true hb3
      have hes := Nat.eq_of_beq_eq_true hb4
      simp only [cond_true] at hr
      cases hb : inR j m' with
      | false => simp [hb] at hr
      | true =>
        rw [hb] at hr
        simp only [cond_true, Option.some.injEq, Prod.mk.injEq] at hr
        obtain ⟨rfl, rfl⟩ := hr
        rw [he, AVV_tv] at hx
        obtain ⟨cs, ⟨hlen, hrow⟩, hv⟩ := hx
        have hj' := inR_iff.1 hb
        obtain ⟨pre, mid, post, e3, hl, hmid, _⟩ := RowC.focus (fun _ _ h => TC.length h) e'.zero xs cs (j : Int).toNat hrow (by omega)
        rw [hes] at hl
        obtain ⟨v', hv'⟩ := VofC_ex (agg := agg) (cs := mid) (fun h => by rw [hmid.length, hes, hone h])
        exact OpOk.same hp.hold (run hv hb e3 hl (by rw [hmid.length, hes]) hv') (AVV_tv.2 ⟨mid, hmid, by rw [hb5]; exact hv'⟩)
  · rename_i y z he
    cases hb : inR j n with
    | false => simp [hb] at hr
    | true =>
      rw [hb] at hr
      simp only [cond_true] at hr
      split at hr
      case h_2 => cases hr
      rename_i v1 hv1
      cases hag1 : (v1.isAgg == agg) with
      | false => simp [hag1] at hr
      | true =>
        rw [hag1] at hr
        simp only [beq_iff_eq] at hag1
        simp only [cond_true, Option.some.injEq, Prod.mk.injEq] at hr
        obtain ⟨rfl, rfl⟩ := hr
        rw [he] at hx
        obtain ⟨cs, hc, hvc⟩ := hx
        obtain ⟨hns, hf⟩ := chainGet_focus _ sz _ v1 cs hv1 hc
        obtain ⟨pre, mid, post, e3, hl, hmid, _⟩ := hf.split
        obtain ⟨v', hv'⟩ := VofC_ex (agg := agg) (cs := mid) (fun h => by rw [hmid.length, hns, hone h])
        exact OpOk.same hp.hold (run hvc hb e3 hl (by rw [hmid.length, hns]) hv') (AVV_of hmid (by rw [hag1]; exact hv'))
  · cases hr

theorem get_arr (s : List UInt8) (i : Nat) (h : i < s.length) : (ByteArray.mk s.toArray)[i]? = some (s.getD i 0) := by
  have h' : i < (ByteArray.mk s.toArray).size := by rw [size_arr]; exact h
  rw [getElem?_pos _ i h']
  congr 1
  show s.toArray[i] = _
  simp [List.getD, h]

theorem sound_ixs (x i : Opd) : Sound P (.ixs x i) := by
  intro c M μ G S a w nid o v u hp hm hr _
  generalize hq : o.op = q at hm
  cases q <;> simp only [mop, Bool.false_eq_true, Bool.and_eq_true] at hm
  rename_i T x' i'
  obtain ⟨⟨h1, h2⟩, h3⟩ := hm
  have hx := mo_ok hp.glob hp.env h2
  have hi := mo_ok hp.glob hp.env h3
  have ht := isStr_ty h1
  simp only [aopO, aop] at hr
  split at hr
  · rename_i k j s hj hs
    rw [hj, AVV_int] at hi
    rw [hs, AVV_str] at hx
    cases hb : inR j s.length with
    | false => simp [hb] at hr
    | true =>
      rw [hb] at hr
      have hj' := inR_iff.1 hb
      simp only [cond_true, Option.some.injEq, Prod.mk.injEq] at hr
      obtain ⟨rfl, rfl⟩ := hr
      refine OpOk.same hp.hold (v' := .int .u8 ((s.getD (j : Int).toNat 0).toNat : Int)) ?_ (AVV_int.2 rfl)
      have := get_arr s (j : Int).toNat (by omega)
      simp only [execOp, hq, hx, hi, Instr.index, asIntOf, Sem.run_bind, Sem.run_pure, run_underlying ht, Result.andThen_ok, if_pos hj'.1, this]
  · cases hr

theorem chainAt_ok {M : Mem} {μ : Map} : ∀ {i : Nat} {l a : AV} {vs : List Value}, chainAt i l = some a → AVL M μ l vs → ∃ v, vs[i]? = some v ∧ AVV M μ a v
  | 0, .cons a b, a', vs, h, hl => by
    simp only [chainAt, Option.some.injEq] at h
    subst h
    simp only [AVL] at hl
    obtain ⟨v, r, c, rfl, h1, h2, _⟩ := hl
    exact ⟨v, rfl, AVV_of h1 h2⟩
  | i + 1, .cons a b, a', vs, h, hl => by
    simp only [chainAt] at h
    simp only [AVL] at hl
    obtain ⟨v, r, c, rfl, _, _, h3⟩ := hl
    obtain ⟨v', h4, h5⟩ := chainAt_ok h h3
    exact ⟨v', by simpa using h4, h5⟩
  | 0, .tv _ _, _, _, h, _ | 0, .ptr _ _, _, _, h, _ | 0, .row _, _, _, h, _ | 0, .fp _ _, _, _, h, _ | 0, .obj _, _, _, h, _ | 0, .mp _, _, _, h, _ | 0, .sln _ _ _, _, _, h, _ | 0, .nilp, _, _, h, _ | 0, .nilf, _, _, h, _ | 0, .nil, _, _, h, _ | 0, .fn _ _ _, _, _, h, _ | 0, .tup _, _, _, h, _ | 0, .junk, _, _, h, _ | 0, .dead, _, _, h, _
  | _ + 1, .tv _ _, _, _, h, _ | _ + 1, .ptr _ _, _, _, h, _ | _ + 1, .row _, _, _, h, _ | _ + 1, .fp _ _, _, _, h, _ | _ + 1, .obj _, _, _, h, _ | _ + 1, .mp _, _, _, h, _ | _ + 1, .sln _ _ _, _, _, h, _ | _ + 1, .nilp, _, _, h, _ | _ + 1, .nilf, _, _, h, _ | _ + 1, .nil, _, _, h, _ | _ + 1, .fn _ _ _, _, _, h, _ | _ + 1, .tup _, _, _, h, _ | _ + 1, .junk, _, _, h, _ | _ + 1, .dead, _, _, h, _ => by
    simp [chainAt] at h

theorem sound_ext (x : Opd) (i : Nat) : Sound P (.ext x i) := by
  intro c M μ G S a w nid o v u hp hm hr _
  generalize hq : o.op = q at hm
  cases q <;> simp only [mop, Bool.false_eq_true, Bool.and_eq_true] at hm
  rename_i x' i'
  obtain ⟨h1, h2⟩ := hm
  obtain rfl := Nat.eq_of_beq_eq_true h1
  have hx := mo_ok hp.glob hp.env h2
  simp only [aopO, aop] at hr
  split at hr
  case h_2 => cases hr
  rename_i l he
  split at hr
  case h_2 => cases hr
  rename_i a1 ha1
  simp only [Option.some.injEq, Prod.mk.injEq] at hr
  obtain ⟨rfl, rfl⟩ := hr
  rw [he] at hx
  obtain ⟨vs, hv, hl⟩ := hx
  obtain ⟨v', h4, h5⟩ := chainAt_ok ha1 hl
  refine OpOk.same hp.hold (v' := v') ?_ h5
  have : vs.toArray[i]? = some v' := by simpa using h4
  simp only [execOp, hq, hv, Instr.extract, this, Sem.run_bind, Sem.run_pure, Result.andThen_ok]

theorem call_builtin {o : Oper} {a : Act} {cl : Call} {b : Builtin} (hq : o.op = .call cl) (hb : cl.callee = .builtin b) : ∃ cs, ∀ w, (execOp a.eval o).run P w = (builtin b cl.argTypes o.type cs (cl.args.map a.eval)).run P w := by
  obtain ⟨callee, args, argTypes⟩ := cl
  simp only at hb
  subst hb
  obtain ⟨d, cs, h1, h2, h3⟩ : ∃ (d : Deferred) (cs : Array Bool), (∀ w, (resolve a.eval { callee := .builtin b, args, argTypes } o.type).run P w = .ok d w) ∧ d.args = args.map a.eval ∧ d.target = .builtin b argTypes o.type cs := ⟨_, _, fun _ => rfl, rfl, rfl⟩
  refine ⟨cs, fun w => ?_⟩
  simp only [execOp, hq, Sem.run_bind, h1, Result.andThen_ok, h2, h3, invoke]

theorem arr1 {α : Type} {xs : Array α} {a : α} (h : xs.toList = [a]) : xs = #[a] := by
  apply Array.ext'; simpa using h
theorem arr2 {α : Type} {xs : Array α} {a b : α} (h : xs.toList = [a, b]) : xs = #[a, b] := by
  apply Array.ext'; simpa using h

theorem sound_lens (x : Opd) : Sound P (.lens x) := by
  intro c M μ G S a w nid o v u hp hm hr _
  generalize hq : o.op = q at hm
  cases q <;> simp only [mop, Bool.false_eq_true] at hm
  rename_i cl
  split at hm
  case h_2 => cases hm
  rename_i y t hc1 hc2 hc3
  simp only [Bool.and_eq_true] at hm
  obtain ⟨ht, h2⟩ := hm
  have hx := mo_ok hp.glob hp.env h2
  have hargs := arr1 hc2
  have htys := arr1 hc3
  obtain ⟨cs, hcall⟩ := call_builtin (P := P) (a := a) hq hc1
  simp only [aopO, aop] at hr
  split at hr
  · rename_i s he
    rw [he, AVV_str] at hx
    simp only [Option.some.injEq, Prod.mk.injEq] at hr
    obtain ⟨rfl, rfl⟩ := hr
    refine OpOk.same hp.hold (v' := .int .i64 (s.length : Int)) ?_ (AVV_int.2 rfl)
    rw [hcall]
    simp [builtin, Builtin.len_, hargs, htys, hx, run_underlying (isStr_ty ht), goInt, size_arr]
  · cases hr

theorem sound_len (x : Opd) : Sound P (.len x) := by
  intro c M μ G S a w nid o v u hp hm hr _
  generalize hq : o.op = q at hm
  cases q <;> simp only [mop, Bool.false_eq_true] at hm
  rename_i cl
  split at hm
  case h_2 => cases hm
  rename_i y t hc1 hc2 hc3
  simp only [Bool.and_eq_true] at hm
  obtain ⟨ht, h2⟩ := hm
  obtain ⟨e, ht⟩ := Option.isSome_iff_exists.1 ht
  have hx := mo_ok hp.glob hp.env h2
  have hargs := arr1 hc2
  have htys := arr1 hc3
  obtain ⟨cs, hcall⟩ := call_builtin (P := P) (a := a) hq hc1
  have run : ∀ {ad : Option Addr} {n cap : Nat}, a.eval y = .slice ad n cap → (execOp a.eval o).run P w = .ok (.value (.int .i64 (n : Int))) w := by
    intro ad n cap hv
    rw [hcall]
    simp [builtin, Builtin.len_, hargs, htys, hv, run_underlying (slOf_ty ht), goInt]
  simp only [aopO, aop] at hr
  split at hr
  · rename_i e' xs he
    rw [he, AVV_tv] at hx
    obtain ⟨cs', ⟨ad, cap, rfl, _⟩, hv⟩ := hx
    have hv : a.eval y = .slice ad xs.length cap := by simpa [VofC, Ty.isAgg] using hv.symm
    simp only [Option.some.injEq, Prod.mk.injEq] at hr
    obtain ⟨rfl, rfl⟩ := hr
    exact OpOk.same hp.hold (run hv) (AVV_int.2 rfl)
  · rename_i id he
    split at hr
    case h_2 => cases hr
    rename_i e' xs fz hH
    simp only [Option.some.injEq, Prod.mk.injEq] at hr
    obtain ⟨rfl, rfl⟩ := hr
    rw [he, AVV_row] at hx
    obtain ⟨bo, len, cap, hl, hv⟩ := hx
    obtain ⟨l, hl', hbr⟩ := hp.hold.blks id _ hH
    rw [hl] at hl'
    cases hl'
    have hlen : xs.length = len := by
      cases bo with
      | none => obtain ⟨rfl, rfl, _⟩ := hbr; rfl
      | some b => obtain ⟨_, _, _, h, _⟩ := hbr; exact h
    rw [← hlen] at hv
    exact OpOk.same hp.hold (run hv) (AVV_int.2 rfl)
  · cases hr

theorem sound_lenc (n : Nat) (x : Opd) : Sound P (.lenc n x) := by
  intro c M μ G S a w nid o v u hp hm hr _
  generalize hq : o.op = q at hm
  cases q <;> simp only [mop, Bool.false_eq_true] at hm
  rename_i cl
  split at hm
  case h_2 => cases hm
  rename_i y t hc1 hc2 hc3
  simp only [Bool.and_eq_true] at hm
  obtain ⟨ht, h2⟩ := hm
  have hargs := arr1 hc2
  have htys := arr1 hc3
  split at ht
  case h_2 => cases ht
  rename_i m e harr
  obtain rfl := Nat.eq_of_beq_eq_true ht
  obtain ⟨cs, hcall⟩ := call_builtin (P := P) (a := a) hq hc1
  simp only [aopO, aop, Option.some.injEq, Prod.mk.injEq] at hr
  obtain ⟨rfl, rfl⟩ := hr
  refine OpOk.same hp.hold (v' := .int .i64 (n : Int)) ?_ (AVV_int.2 rfl)
  rw [hcall]
  have hu := arrOf_ty harr
  simp only [builtin, Builtin.len_, hargs, htys, List.map_toArray, List.map_cons, List.map_nil, Sem.run_bind, Sem.run_pure, List.getElem?_toArray, List.getElem?_cons_zero, run_underlying hu, Result.andThen_ok, goInt]

theorem sound_mx (x y : Opd) : Sound P (.mx x y) := by
  intro c M μ G S a w nid o v u hp hm hr _
  generalize hq : o.op = q at hm
  cases q <;> simp only [mop, Bool.false_eq_true] at hm
  rename_i cl
  split at hm
  case h_2 => cases hm
  rename_i x' y' hc1 hc2
  simp only [Bool.and_eq_true] at hm
  have hx := mo_ok hp.glob hp.env hm.1
  have hy := mo_ok hp.glob hp.env hm.2
  have hargs := arr2 hc2
  obtain ⟨cs, hcall⟩ := call_builtin (P := P) (a := a) hq hc1
  simp only [aopO, aop] at hr
  split at hr
  case h_2 => cases hr
  rename_i k m k' n e1 e2
  rw [e1, AVV_int] at hx
  rw [e2, AVV_int] at hy
  cases hk : kEq k k' with
  | false => simp [hk] at hr
  | true =>
    rw [hk] at hr
    simp only [cond_true, Option.some.injEq, Prod.mk.injEq] at hr
    obtain ⟨rfl, rfl⟩ := hr
    refine OpOk.same hp.hold (v' := .int k (mxI m n)) ?_ (AVV_int.2 rfl)
    rw [hcall]
    have : (if n > m then n else m) = mxI m n := by unfold mxI; by_cases h : m < n <;> simp [h]
    simp [builtin, Builtin.max_, hargs, hx, hy, Builtin.max2, this]

theorem sound_mn (x y : Opd) : Sound P (.mn x y) := by
  intro c M μ G S a w nid o v u hp hm hr _
  generalize hq : o.op = q at hm
  cases q <;> simp only [mop, Bool.false_eq_true] at hm
  rename_i cl
  split at hm
  case h_2 => cases hm
  rename_i x' y' hc1 hc2
  simp only [Bool.and_eq_true] at hm
  have hx := mo_ok hp.glob hp.env hm.1
  have hy := mo_ok hp.glob hp.env hm.2
  have hargs := arr2 hc2
  obtain ⟨cs, hcall⟩ := call_builtin (P := P) (a := a) hq hc1
  simp only [aopO, aop] at hr
  split at hr
  case h_2 => cases hr
  rename_i k m k' n e1 e2
  rw [e1, AVV_int] at hx
  rw [e2, AVV_int] at hy
  cases hk : kEq k k' with
  | false => simp [hk] at hr
  | true =>
    rw [hk] at hr
    simp only [cond_true, Option.some.injEq, Prod.mk.injEq] at hr
    obtain ⟨rfl, rfl⟩ := hr
    refine OpOk.same hp.hold (v' := .int k (mnI m n)) ?_ (AVV_int.2 rfl)
    rw [hcall]
    have : (if n < m then n else m) = mnI m n := by unfold mnI; by_cases h : n < m <;> simp [h]
    simp [builtin, Builtin.min_, hargs, hx, hy, Builtin.min2, this]

end
end Go.Av

/-
  Each operation of the abstract machine is the machine's: equality of structs and arrays; bytes to text.
-/
namespace Go.Av
section
variable {P : Program}

/-- What '==' asks of two values of a type, at this depth. -/
def EqIn (P : Program) (d : Nat) (T : TypeId) (τ : Ty) : Prop :=
  ∀ (D : Nat), d ≤ D → ∀ {M : Mem} {x y : τ.T} {cx cy : List Value} {vx vy : Value} (w : World), TC M τ x cx → TC M τ y cy → VofC τ.isAgg cx vx → VofC τ.isAgg cy vy → (Op.equalIn D T vx vy).run P w = .ok (τ.eqB x y) w

theorem hasTy_ty {t : TypeId} (h : hasTy P t = true) : ∃ d i, P.underlying t = some d ∧ P.info? t = some i := by
  unfold hasTy at h
  simp only [Bool.and_eq_true] at h
  obtain ⟨d, hd⟩ := Option.isSome_iff_exists.1 h.1
  obtain ⟨i, hi⟩ := Option.isSome_iff_exists.1 h.2
  exact ⟨d, i, hd, hi⟩

theorem aggOf_ty {t : TypeId} {d : TypeDesc} (h : P.underlying t = some d) : aggOf P t = TypeDesc.agg d := by
  unfold aggOf; rw [h]

theorem TC_single {M : Mem} {τ : Ty} {x : τ.T} {c : List Value} (h : TC M τ x c) (ha : τ.isAgg = false) : ∃ v, c = [v] := by
  have := h.length
  cases τ <;> simp [Ty.isAgg] at ha <;> (simp only [Ty.n] at this; match c, this with | [v], _ => exact ⟨v, rfl⟩)

theorem eqItems_ok {d : Nat} {e : TypeId} {σ : Ty} (he : EqIn P d e σ) (hs : hasTy P e = true) (hc : P.cellsOf e = σ.n) (hag : aggOf P e = σ.isAgg) {D : Nat} (hD : d ≤ D) {M : Mem} (xa ya : Array Value) (w : World) :
    ∀ (xs ys : List σ.T) (px py cx cy : List Value) (k : Nat), xs.length = ys.length → xa.toList = px ++ cx → ya.toList = py ++ cy → px.length = k * σ.n → py.length = k * σ.n → RowC (TC M σ) xs cx → RowC (TC M σ) ys cy →
      (Op.eqItems D e (P.cellsOf e) xa ya (List.range' k xs.length)).run P w = .ok (allEq σ.eqB xs ys) w
  | [], [], _, _, _, _, _, _, _, _, _, _, _, _ => by simp [Op.eqItems, allEq]
  | x :: xs, [], _, _, _, _, _, hl, _, _, _, _, _, _ => by simp at hl
  | [], y :: ys, _, _, _, _, _, hl, _, _, _, _, _, _ => by simp at hl
  | x :: xs, y :: ys, px, py, cx, cy, k, hl, ex, ey, lx, ly, ⟨a1, a2, e1, h1, h2⟩, ⟨b1, b2, e2, g1, g2⟩ => by
    subst e1; subst e2
    obtain ⟨ds, inf, hd, hi⟩ := hasTy_ty hs
    have hag' : TypeDesc.agg ds = σ.isAgg := by rw [← aggOf_ty hd]; exact hag
    have hsz : inf.size = σ.n := by rw [← hc]; simp [Program.cellsOf, hi]
    obtain ⟨vx, hvx⟩ := VofC_ex (agg := σ.isAgg) (cs := a1) (fun h => by obtain ⟨v, rfl⟩ := TC_single h1 h; rfl)
    obtain ⟨vy, hvy⟩ := VofC_ex (agg := σ.isAgg) (cs := b1) (fun h => by obtain ⟨v, rfl⟩ := TC_single g1 h; rfl)
    have p1 := run_part (P := P) hd hi w (cs := xa) (pre := px) (mid := a1) (post := a2) (by rw [ex]; simp) (by rw [h1.length, hsz]) hag' hvx
    have p2 := run_part (P := P) hd hi w (cs := ya) (pre := py) (mid := b1) (post := b2) (by rw [ey]; simp) (by rw [g1.length, hsz]) hag' hvy
    rw [lx] at p1
    rw [ly] at p2
    have p3 := he D hD w h1 g1 hvx hvy
    have ih := eqItems_ok he hs hc hag hD xa ya w xs ys (px ++ a1) (py ++ b1) a2 b2 (k + 1) (by simpa using hl) (by rw [ex]; simp) (by rw [ey]; simp) (by rw [List.length_append, lx, h1.length, Nat.succ_mul]) (by rw [List.length_append, ly, g1.length, Nat.succ_mul]) h2 g2
    rw [List.length_cons, List.range'_succ]
    simp only [Op.eqItems, Sem.run_bind, hc, p1, p2, p3, Result.andThen_ok, allEq]
    rw [hc] at ih
    cases hb : σ.eqB x y with
    | false => simp
    | true => simpa using ih

theorem eqFields_ok {d : Nat} (hrec : ∀ T τ, teq P d T τ = true → τ.eqs = true → EqIn P d T τ) {D : Nat} (hD : d ≤ D) {M : Mem} (xa ya : Array Value) (w : World) :
    ∀ (fs : List Field) (off : Nat) (τ : Ty) (x y : τ.T) (px py cx cy : List Value), teqs P (teq P d) off fs τ = true → τ.eqs = true → xa.toList = px ++ cx → ya.toList = py ++ cy → px.length = off → py.length = off → TC M τ x cx → TC M τ y cy →
      (Op.eqFields D xa ya fs).run P w = .ok (τ.eqB x y) w
  | [], off, .nil, x, y, _, _, _, _, _, _, _, _, _, _, _, _ => by simp [Op.eqFields, Ty.eqB]
  | f :: fs, off, .pr a b, x, y, px, py, cx, cy, ht, hs, ex, ey, lx, ly, ⟨a1, a2, e1, h1, h2⟩, ⟨b1, b2, e2, g1, g2⟩ => by
    subst e1; subst e2
    simp only [teqs, Bool.and_eq_true, bne_iff_ne, beq_iff_eq] at ht
    obtain ⟨⟨⟨⟨⟨⟨hn, ho⟩, hc⟩, hty⟩, hag⟩, ht1⟩, ht2⟩ := ht
    have ho := Nat.eq_of_beq_eq_true ho
    have hc := Nat.eq_of_beq_eq_true hc
    simp only [Ty.eqs, Bool.and_eq_true] at hs
    obtain ⟨ds, inf, hd, hi⟩ := hasTy_ty hty
    have hag' : TypeDesc.agg ds = a.isAgg := by rw [← aggOf_ty hd]; exact hag
    have hsz : inf.size = a.n := by rw [← hc]; simp [Program.cellsOf, hi]
    obtain ⟨vx, hvx⟩ := VofC_ex (agg := a.isAgg) (cs := a1) (fun h => by obtain ⟨v, rfl⟩ := TC_single h1 h; rfl)
    obtain ⟨vy, hvy⟩ := VofC_ex (agg := a.isAgg) (cs := b1) (fun h => by obtain ⟨v, rfl⟩ := TC_single g1 h; rfl)
    have p1 := run_part (P := P) hd hi w (cs := xa) (pre := px) (mid := a1) (post := a2) (by rw [ex]; simp) (by rw [h1.length, hsz]) hag' hvx
    have p2 := run_part (P := P) hd hi w (cs := ya) (pre := py) (mid := b1) (post := b2) (by rw [ey]; simp) (by rw [g1.length, hsz]) hag' hvy
    rw [lx, ← ho] at p1
    rw [ly, ← ho] at p2
    have p3 := hrec f.type a ht1 hs.1 D hD w h1 g1 hvx hvy
    have ih := eqFields_ok hrec hD xa ya w fs (off + a.n) b x.2 y.2 (px ++ a1) (py ++ b1) a2 b2 ht2 hs.2 (by rw [ex]; simp) (by rw [ey]; simp) (by rw [List.length_append, lx, h1.length]) (by rw [List.length_append, ly, g1.length]) h2 g2
    simp only [Op.eqFields, ne_eq, hn, not_false_eq_true, if_true, Sem.run_bind, p1, p2, p3, Result.andThen_ok, Ty.eqB]
    cases hb : a.eqB x.1 y.1 with
    | false => simp
    | true => simpa using ih
  | [], _, .int _, _, _, _, _, _, _, ht, _, _, _, _, _, _, _ | [], _, .bool, _, _, _, _, _, _, ht, _, _, _, _, _, _, _ | [], _, .str, _, _, _, _, _, _, ht, _, _, _, _, _, _, _ | [], _, .sl _, _, _, _, _, _, _, ht, _, _, _, _, _, _, _ | [], _, .arr _ _, _, _, _, _, _, _, ht, _, _, _, _, _, _, _ | [], _, .pr _ _, _, _, _, _, _, _, ht, _, _, _, _, _, _, _
  | _ :: _, _, .int _, _, _, _, _, _, _, ht, _, _, _, _, _, _, _ | _ :: _, _, .bool, _, _, _, _, _, _, ht, _, _, _, _, _, _, _ | _ :: _, _, .str, _, _, _, _, _, _, ht, _, _, _, _, _, _, _ | _ :: _, _, .sl _, _, _, _, _, _, _, ht, _, _, _, _, _, _, _ | _ :: _, _, .arr _ _, _, _, _, _, _, _, ht, _, _, _, _, _, _, _ | _ :: _, _, .nil, _, _, _, _, _, _, ht, _, _, _, _, _, _, _ => by
    simp [teqs] at ht

theorem teq_ok : ∀ (d : Nat) (T : TypeId) (τ : Ty), teq P d T τ = true → τ.eqs = true → EqIn P d T τ
  | 0, _, _, h, _ => by simp [teq] at h
  | d + 1, T, τ, h, hs => by
    intro D hD M x y cx cy vx vy w hx hy hvx hvy
    obtain ⟨D, rfl⟩ : ∃ D', D = D' + 1 := ⟨D - 1, by omega⟩
    simp only [teq] at h
    split at h
    · rename_i k k' hu
      have : k = k' := of_decide_eq_true h
      subst this
      simp only [TC] at hx hy
      subst hx; subst hy
      simp only [VofC, Ty.isAgg, cond_false, List.cons.injEq, and_true] at hvx hvy
      subst hvx; subst hvy
      simpa [Ty.eqB] using run_equalIn_int (P := P) w D T k k x y hu
    · rename_i hu
      simp only [TC] at hx hy
      subst hx; subst hy
      simp only [VofC, Ty.isAgg, cond_false, List.cons.injEq, and_true] at hvx hvy
      subst hvx; subst hvy
      simpa [Ty.eqB] using run_equalIn_bool' (P := P) w D T x y hu
    · rename_i hu
      simp only [TC] at hx hy
      subst hx; subst hy
      simp only [VofC, Ty.isAgg, cond_false, List.cons.injEq, and_true] at hvx hvy
      subst hvx; subst hvy
      have := run_equalIn_string (P := P) w D T ⟨List.toArray x⟩ ⟨List.toArray y⟩ hu
      rw [toList_arr, toList_arr] at this
      simpa [Ty.eqB] using this
    · rename_i n e m σ hu
      simp only [Bool.and_eq_true, beq_iff_eq] at h
      obtain ⟨⟨⟨⟨h1, h2⟩, h3⟩, h4⟩, h5⟩ := h
      obtain rfl := Nat.eq_of_beq_eq_true h1
      have h2 := Nat.eq_of_beq_eq_true h2
      obtain ⟨hlx, hrx⟩ := hx
      obtain ⟨hly, hry⟩ := hy
      rw [Ty.isAgg, VofC_true] at hvx hvy
      subst hvx; subst hvy
      obtain ⟨_, inf, _, hi⟩ := hasTy_ty h3
      rw [run_equalIn_array w D _ _ hu hi]
      have := eqItems_ok (teq_ok d e σ h5 (by simpa [Ty.eqs] using hs)) h3 h2 h4 (by omega : d ≤ D) cx.toArray cy.toArray w x y [] [] cx cy 0 (by rw [hlx, hly]) (by simp) (by simp) (by simp) (by simp) hrx hry
      rw [hlx] at this
      rw [List.range_eq_range', this]
      rfl
    · rename_i τ _ _ fs hu
      simp only [Bool.and_eq_true, Bool.not_eq_true'] at h
      obtain ⟨h1, h2⟩ := h
      have hag : τ.isAgg = true := by
        cases τ <;> first | rfl | (cases hfs : fs.toList <;> simp [hfs, teqs] at h2)
      rw [hag, VofC_true] at hvx hvy
      subst hvx; subst hvy
      have hu' : P.underlying T = some (.struct (P.fieldsOf T)) := by simp [Program.fieldsOf, hu]
      rw [run_equalIn_struct w D T _ _ hu' h1]
      have hf : P.fieldsOf T = fs := by simp [Program.fieldsOf, hu]
      rw [hf]
      exact eqFields_ok (fun T τ => teq_ok d T τ) (by omega : d ≤ D) cx.toArray cy.toArray w fs.toList 0 τ x y [] [] cx cy h2 hs (by simp) (by simp) rfl rfl hx hy
    · cases h

theorem sound_eqa (neg : Bool) (τ : Ty) (x y : Opd) : Sound P (.eqa neg τ x y) := by
  intro c M μ G S a w nid o v u hp hm hr _
  generalize hq : o.op = q at hm
  cases q <;> simp only [mop, Bool.false_eq_true, Bool.and_eq_true, Bool.not_eq_true'] at hm
  rename_i op' T x' y' T'
  obtain ⟨⟨⟨⟨⟨⟨hn, hag⟩, hs⟩, ht⟩, hg⟩, h2⟩, h3⟩ := hm
  have hx := mo_ok hp.glob hp.env h2
  have hy := mo_ok hp.glob hp.env h3
  simp only [aopO, aop, eqaV] at hr
  split at hr
  case h_2 => cases hr
  rename_i σ x1 ρ y1 e1 e2
  split at hr
  case isFalse => cases hr
  rename_i h; subst h
  split at hr
  case isFalse => cases hr
  rename_i h; subst h
  simp only [Option.some.injEq, Prod.mk.injEq] at hr
  obtain ⟨rfl, rfl⟩ := hr
  rw [e1, AVV_tv] at hx
  rw [e2, AVV_tv] at hy
  obtain ⟨cx, htx, hvx⟩ := hx
  obtain ⟨cy, hty, hvy⟩ := hy
  have hrun := teq_ok 100 T _ ht hs 10000 (by omega) w htx hty hvx hvy
  rw [hag, VofC_true] at hvx hvy
  rw [hvx, hvy] at hrun
  refine OpOk.same hp.hold (v' := .bool (neg ^^ Ty.eqB _ x1 y1)) ?_ (AVV_bool.2 rfl)
  simp only [execOp, hq, hvx, hvy, Sem.run_bind, Sem.run_pure, run_eqGuard_agg w op' T x' y' _ _ hg, Result.andThen_ok]
  rcases negOf_eq hn with ⟨rfl, rfl⟩ | ⟨rfl, rfl⟩
  · rw [run_eql_struct, hrun]; simp
  · rw [run_neq_struct, hrun]; simp

end
end Go.Av

/-
  Each operation of the abstract machine is the machine's: new memory.
-/
namespace Go.Av
section
variable {P : Program}

theorem Hold.alloc {c : Ctx} {M : Mem} {μ : Map} {H : Hp} {w : World} (h : Hold c M μ H w) {i : Nat} {l : Loc} {k : Blk} {ob : Obj} (hi : μ i = none) (hl : l.blk = some w.heap.size) (hb : BR M (μ.ins i l) (w.alloc ob) l k) :
    Hold c M (μ.ins i l) ((i, some k) :: H) (w.alloc ob) := by
  have hnew : (w.alloc ob).heap[w.heap.size]? = some ob := by
    show (w.heap.push ob)[w.heap.size]? = _
    simp
  have h' := h.grow ((Grows.refl w).alloc ob (by
    intro cs T fr e
    subst e
    cases l with
    | box b =>
      simp only [Loc.blk, Option.some.injEq] at hl
      subst hl
      cases k with
      | box v =>
        obtain ⟨cs', T', h1, _⟩ := hb
        rw [hnew] at h1
        cases h1; rfl
      | _ => exact hb.elim
    | row bo len cap =>
      simp only [Loc.blk] at hl
      subst hl
      cases k with
      | row e xs fz =>
        obtain ⟨cs', T', h1, _⟩ := hb
        rw [hnew] at h1
        cases h1; rfl
      | _ => exact hb.elim
    | obj b =>
      simp only [Loc.blk, Option.some.injEq] at hl
      subst hl
      cases k with
      | mp κ l =>
        have h1 : (w.alloc (.cells cs T fr)).heap[w.heap.size]? = _ := hb
        rw [hnew] at h1
        cases h1
      | iter s pos =>
        have h1 : (w.alloc (.cells cs T fr)).heap[w.heap.size]? = _ := hb
        rw [hnew] at h1
        cases h1
      | _ => exact hb.elim))
  refine h'.add hi hb ?_
  intro b hbb
  rw [hl] at hbb
  obtain rfl := Option.some.inj hbb
  refine ⟨?_, .inr h.size, ?_⟩
  · intro j k' l' hj hl' e
    obtain ⟨l1, h1, h2⟩ := h.blks j k' hj
    rw [hl'] at h1
    cases h1
    have := h2.lt e
    omega
  · intro o v hv
    have := World.block_lt_of_cell? w _ (h.mem _ o v hv)
    simp at this

theorem heap_alloc_new' (w : World) (o : Obj) : (w.alloc o).heap[w.heap.size]? = some o := by
  show (w.heap.push o)[w.heap.size]? = _
  simp

theorem Sh_mk_ok {c : Ctx} {M : Mem} {w : World} : ∀ (sh : Sh) (n : Nat) {μ : Map} {H : Hp}, Hold c M μ H w → (∀ i, n ≤ i → i < (sh.mk n).2.2 → μ i = none) → ∀ {cs r : List Value}, sh.fits cs = some r →
    ∃ μ' pre, cs = pre ++ r ∧ μ.le μ' ∧ Hold c M μ' ((sh.mk n).2.1 ++ H) w ∧ AVC M μ' (sh.mk n).1 pre ∧ (∀ i, μ' i ≠ none → μ i ≠ none ∨ (n ≤ i ∧ i < (sh.mk n).2.2)) ∧ n ≤ (sh.mk n).2.2
  | .tv τ, n, μ, H, h, _, cs, r, hf => by
    simp only [Sh.fits] at hf
    have := takeEq_eq hf
    exact ⟨μ, zc τ, this, Map.le.refl _, h, by simpa only [AVC, Sh.mk] using TC_zero M τ, fun i hi => .inl hi, Nat.le_refl _⟩
  | .row e, n, μ, H, h, hfr, cs, r, hf => by
    cases cs with
    | nil => simp [Sh.fits] at hf
    | cons v cs =>
      simp only [Sh.fits] at hf
      cases hv : veq (.slice none 0 0) v with
      | false => simp [hv] at hf
      | true =>
        rw [hv] at hf
        simp only [cond_true, Option.some.injEq] at hf
        subst hf
        have hv := veq_eq hv
        subst hv
        have hn : μ n = none := hfr n (Nat.le_refl _) (by simp [Sh.mk])
        refine ⟨μ.ins n (.row none 0 0), [.slice none 0 0], rfl, Map.le_ins hn, ?_, ?_, ?_, by simp [Sh.mk]⟩
        · exact h.add hn ⟨rfl, rfl, rfl⟩ (by intro b hb; cases hb)
        · simp only [AVC, Sh.mk]
          exact ⟨none, 0, 0, Map.ins_same _ _ _, rfl⟩
        · intro i hi
          by_cases e : i = n
          · subst e; right; simp [Sh.mk]
          · rw [Map.ins_other _ _ _ e] at hi; exact .inl hi
  | .cons a b, n, μ, H, h, hfr, cs, r, hf => by
    simp only [Sh.fits] at hf
    split at hf
    case h_2 => cases hf
    rename_i r1 hr1
    have hmono : ∀ (sh : Sh) (m : Nat), m ≤ (sh.mk m).2.2 := by
      intro sh
      induction sh with
      | cons a b iha ihb => intro m; exact Nat.le_trans (iha m) (ihb _)
      | row e => intro m; simp [Sh.mk]
      | _ => intro m; exact Nat.le_refl _
    obtain ⟨μ1, p1, e1, l1, H1, A1, f1, m1⟩ := Sh_mk_ok a n h (fun i hi hj => hfr i hi (Nat.lt_of_lt_of_le hj (hmono b _))) hr1
    obtain ⟨μ2, p2, e2, l2, H2, A2, f2, m2⟩ := Sh_mk_ok b (a.mk n).2.2 H1 (fun i hi hj => by
      cases hq : μ1 i with
      | none => rfl
      | some l =>
        rcases f1 i (by rw [hq]; simp) with h3 | h3
        · exact absurd (hfr i (by omega) hj) h3
        · omega) hf
    refine ⟨μ2, p1 ++ p2, by rw [e1, e2]; simp, l1.trans l2, ?_, ?_, ?_, Nat.le_trans m1 m2⟩
    · simpa only [Sh.mk, List.append_assoc] using H2
    · simp only [AVC, Sh.mk]
      exact ⟨p1, p2, rfl, A1.mono (Mem.le.refl _) l2, A2⟩
    · intro i hi
      rcases f2 i hi with h3 | h3
      · rcases f1 i h3 with h4 | h4
        · exact .inl h4
        · exact .inr ⟨h4.1, Nat.lt_of_lt_of_le h4.2 m2⟩
      · exact .inr ⟨by omega, h3.2⟩
  | .nil, n, μ, H, h, _, cs, r, hf => by
    simp only [Sh.fits, Option.some.injEq] at hf
    subst hf
    exact ⟨μ, [], rfl, Map.le.refl _, h, by simp only [AVC, Sh.mk], fun i hi => .inl hi, Nat.le_refl _⟩
  | .nilp, n, μ, H, h, _, cs, r, hf => by
    cases cs with
    | nil => simp [Sh.fits] at hf
    | cons v cs =>
      simp only [Sh.fits] at hf
      cases hv : veq (.pointer none) v with
      | false => simp [hv] at hf
      | true =>
        rw [hv] at hf
        simp only [cond_true, Option.some.injEq] at hf
        subst hf
        have hv := veq_eq hv
        subst hv
        exact ⟨μ, [.pointer none], rfl, Map.le.refl _, h, by simp only [AVC, Sh.mk], fun i hi => .inl hi, Nat.le_refl _⟩
  | .junk, n, μ, H, h, _, cs, r, hf => by
    cases cs with
    | nil => simp [Sh.fits] at hf
    | cons v cs =>
      simp only [Sh.fits] at hf
      cases hv : v.oneCell' with
      | false => simp [hv] at hf
      | true =>
        rw [hv] at hf
        simp only [cond_true, Option.some.injEq] at hf
        subst hf
        exact ⟨μ, [v], rfl, Map.le.refl _, h, by simp only [AVC, Sh.mk]; exact ⟨v, rfl, hv⟩, fun i hi => .inl hi, Nat.le_refl _⟩

theorem zeroIs_ty {t : TypeId} {sh : Sh} (h : zeroIs P t sh = true) : ∃ i z, P.info? t = some i ∧ i.zero = some z ∧ sh.fits z.cells.toList = some [] := by
  unfold zeroIs at h
  split at h
  case h_2 => cases h
  rename_i i hi
  split at h
  case h_2 => cases h
  rename_i z hz
  split at h
  case h_2 => cases h
  rename_i hf
  exact ⟨i, z, hi, hz, hf⟩

theorem run_zeroValue {t : TypeId} {i : TypeInfo} {z : Value} (hi : P.info? t = some i) (hz : i.zero = some z) (w : World) : (zeroValue t).run P w = .ok z w := by
  simp [zeroValue, typeInfo, hi, hz]

theorem sound_alloc (T : TypeId) (sh : Sh) : Sound P (.alloc T sh) := by
  intro c M μ G S a w nid o v u hp hm hr hfr
  generalize hq : o.op = q at hm
  cases q <;> simp only [mop, Bool.false_eq_true, Bool.and_eq_true] at hm
  rename_i t
  obtain ⟨_, hzi⟩ := hm
  obtain ⟨i, z, hi, hz, hf⟩ := zeroIs_ty hzi
  simp only [aopO, aop, Option.some.injEq, Prod.mk.injEq] at hr
  obtain ⟨rfl, rfl⟩ := hr
  simp only at hfr
  have hmono : ∀ (sh : Sh) (m : Nat), m ≤ (sh.mk m).2.2 := by
    intro sh
    induction sh with
    | cons a b iha ihb => intro m; exact Nat.le_trans (iha m) (ihb _)
    | row e => intro m; simp [Sh.mk]
    | _ => intro m; exact Nat.le_refl _
  have hm1 := hmono sh (nid + 1)
  obtain ⟨μ1, pre, e1, l1, H1, A1, f1, _⟩ := Sh_mk_ok sh (nid + 1) hp.hold (fun j h1 h2 => hfr j (by omega) (by omega)) hf
  have hn : μ1 nid = none := by
    cases hq : μ1 nid with
    | none => rfl
    | some l =>
      rcases f1 nid (by rw [hq]; simp) with h | h
      · exact absurd (hfr nid (Nat.le_refl _) (by omega)) h
      · omega
  rw [List.append_nil] at e1
  have hb : BR M (μ1.ins nid (.box w.heap.size)) (w.alloc (.cells z.cells t)) (.box w.heap.size) (.box (sh.mk (nid + 1)).1) :=
    ⟨z.cells, t, heap_alloc_new' w _, by rw [e1]; exact A1.mono (Mem.le.refl _) (Map.le_ins hn)⟩
  refine ⟨M, μ1.ins nid (.box w.heap.size), .pointer (some ⟨w.heap.size, 0, none⟩), w.alloc (.cells z.cells t), .inl ?_, Mem.le.refl _, l1.trans (Map.le_ins hn), ?_, ?_, ?_⟩
  · simp [execOp, hq, Instr.alloc, run_zeroValue hi hz, newVar, newRow]
  · exact H1.alloc hn rfl hb
  · exact AVV_ptr.2 ⟨.box w.heap.size, w.heap.size, Map.ins_same _ _ _, rfl, rfl, by simp, trivial⟩
  · intro j hj
    by_cases e : j = nid
    · subst e; right; simp only; omega
    · rw [Map.ins_other _ _ _ e] at hj
      rcases f1 j hj with h | h
      · exact .inl h
      · right; simp only; omega

theorem sound_box (x : Opd) : Sound P (.box x) := by
  intro c M μ G S a w nid o v u hp hm hr hfr
  generalize hq : o.op = q at hm
  cases q <;> simp only [mop, Bool.false_eq_true] at hm
  rename_i t x'
  have hx := mo_ok hp.glob hp.env hm
  simp only [aopO, aop] at hr
  cases hl : (ev G S x).live with
  | false => simp [hl] at hr
  | true =>
    rw [hl] at hr
    simp only [cond_true, Option.some.injEq, Prod.mk.injEq] at hr
    obtain ⟨rfl, rfl⟩ := hr
    obtain ⟨cs, hc, hv⟩ := AVV_live hx hl
    have hcells := hv.cells hc.one
    have hn : μ nid = none := hfr nid (Nat.le_refl _) (by simp)
    have hb : BR M (μ.ins nid (.box w.heap.size)) (w.alloc (.cells (a.eval x').cells t)) (.box w.heap.size) (.box (ev G S x)) :=
      ⟨_, t, heap_alloc_new' w _, by rw [hcells]; exact hc.mono (Mem.le.refl _) (Map.le_ins hn)⟩
    refine ⟨M, μ.ins nid (.box w.heap.size), .pointer (some ⟨w.heap.size, 0, none⟩), w.alloc (.cells (a.eval x').cells t), .inl ?_, Mem.le.refl _, Map.le_ins hn, ?_, ?_, ?_⟩
    · simp [execOp, hq, Instr.box, newVar, newRow]
    · exact hp.hold.alloc hn rfl hb
    · exact AVV_ptr.2 ⟨.box w.heap.size, w.heap.size, Map.ins_same _ _ _, rfl, rfl, by simp, trivial⟩
    · intro j hj
      by_cases e : j = nid
      · subst e; right; simp
      · rw [Map.ins_other _ _ _ e] at hj; exact .inl hj

theorem sound_rng (x : Opd) : Sound P (.rng x) := by
  intro c M μ G S a w nid o v u hp hm hr hfr
  generalize hq : o.op = q at hm
  cases q <;> simp only [mop, Bool.false_eq_true, Bool.and_eq_true] at hm
  rename_i t x'
  obtain ⟨ht, h2⟩ := hm
  have hx := mo_ok hp.glob hp.env h2
  simp only [aopO, aop] at hr
  split at hr
  case h_2 => cases hr
  rename_i s he
  rw [he, AVV_str] at hx
  simp only [Option.some.injEq, Prod.mk.injEq] at hr
  obtain ⟨rfl, rfl⟩ := hr
  have hn : μ nid = none := hfr nid (Nat.le_refl _) (by simp)
  have hb : BR M (μ.ins nid (.obj w.heap.size)) (w.alloc (.stringIter ⟨s.toArray⟩ 0)) (.obj w.heap.size) (.iter s 0) := heap_alloc_new' w _
  refine ⟨M, μ.ins nid (.obj w.heap.size), .pointer (some ⟨w.heap.size, 0, none⟩), w.alloc (.stringIter ⟨s.toArray⟩ 0), .inl ?_, Mem.le.refl _, Map.le_ins hn, hp.hold.alloc hn rfl hb, ?_, ?_⟩
  · simp [execOp, hq, hx, Instr.range, run_underlying (isStr_ty ht)]
  · refine AVV_of (a := .obj nid) (c := [.pointer (some ⟨w.heap.size, 0, none⟩)]) ?_ rfl
    simp only [AVC]
    exact ⟨w.heap.size, Map.ins_same _ _ _, rfl⟩
  · intro j hj
    by_cases e : j = nid
    · subst e; right; simp
    · rw [Map.ins_other _ _ _ e] at hj; exact .inl hj

theorem zc_length : ∀ τ : Ty, (zc τ).length = τ.n := fun τ => (TC_zero (fun _ _ => none) τ).length
theorem zc_one : ∀ τ : Ty, oneC (zc τ) := fun τ => (TC_zero (fun _ _ => none) τ).one

theorem madeCells_list (z : Array Value) (k : Nat) (hk : 0 < k) (hz : z.size = k) : ∀ c : Nat, (madeCells z (c * k)).toList = (List.replicate c z.toList).flatten
  | 0 => by simp [madeCells]
  | c + 1 => by
    have ih := madeCells_list z k hk hz c
    unfold madeCells at ih ⊢
    rw [Nat.succ_mul]
    simp only [Array.toList_map, Array.toList_range] at ih ⊢
    rw [List.range_add, List.map_append, ih, List.replicate_succ', List.flatten_append]
    congr 1
    simp only [List.map_map, List.flatten_cons, List.flatten_nil, List.append_nil]
    apply List.ext_getElem
    · simp [hz]
    · intro i h1 h2
      simp only [List.getElem_map, List.getElem_range, Function.comp_apply, hz]
      have hi : i < k := by simpa using h1
      have : (c * k + i) % k = i := by
        rw [Nat.mul_comm, Nat.mul_add_mod, Nat.mod_eq_of_lt hi]
      rw [this]
      simp [hz, hi]

theorem flatten_replicate_length (c : Nat) (l : List Value) : (List.replicate c l).flatten.length = c * l.length := by simp

theorem flatten_take (c l : Nat) (xs : List Value) (h : l ≤ c) : ((List.replicate c xs).flatten).take (l * xs.length) = (List.replicate l xs).flatten := by
  obtain ⟨d, rfl⟩ : ∃ d, c = l + d := ⟨c - l, by omega⟩
  rw [← List.replicate_append_replicate, List.flatten_append]
  exact List.take_left' (by simp)

theorem oneC_flatten {c : Nat} {xs : List Value} (h : oneC xs) : oneC (List.replicate c xs).flatten := by
  intro v hv
  simp only [List.mem_flatten, List.mem_replicate] at hv
  obtain ⟨l, ⟨_, rfl⟩, hv⟩ := hv
  exact h v hv

theorem mk_nums {nn cc : Int} {k : Nat} (b1 : 0 ≤ nn) (b2 : nn ≤ cc) (b3 : cc ≤ (rowMax : Int)) (hk : k ≤ 16384) : (k : Int) * cc ≤ 281474976710656 ∧ cc ≤ 9223372036854775807 ∧ nn.toNat ≤ cc.toNat ∧ cc.toNat ≤ maxLen := by
  have hrm : (rowMax : Int) = 1073741824 := rfl
  rw [hrm] at b3
  have : (k : Int) * cc ≤ 16384 * 1073741824 := Int.mul_le_mul (by omega) (by omega) (by omega) (by omega)
  refine ⟨by omega, by omega, by omega, ?_⟩
  simp [maxLen]; omega

theorem sound_nrow (e : Ty) : Sound P (.nrow e) := by
  intro c M μ G S a w nid o v u hp hm hr hf
  simp only [aopO, aop, Option.some.injEq, Prod.mk.injEq] at hr
  obtain ⟨rfl, rfl⟩ := hr
  have hn : μ nid = none := hf nid (Nat.le_refl _) (Nat.lt_succ_self _)
  have key : (execOp a.eval o).run P w = .ok (.value (.slice none 0 0)) w := by
    generalize hq : o.op = q at hm
    unfold mop at hm
    split at hm <;> first | (cases hm; done) | skip
    all_goals first | (rename_i heq; cases heq; done) | skip
    all_goals simp_all [execOp, Act.eval]
  refine ⟨M, μ.ins nid (.row none 0 0), _, w, .inl key, Mem.le.refl _, Map.le_ins hn, ?_, AVV_row.2 ⟨none, 0, 0, Map.ins_same _ _ _, rfl⟩, fun i hi => ?_⟩
  · exact hp.hold.add hn ⟨rfl, rfl, rfl⟩ (by intro b hb; cases hb)
  · by_cases e : i = nid
    · subst e; exact .inr ⟨Nat.le_refl _, Nat.lt_succ_self _⟩
    · rw [Map.ins_other _ _ _ e] at hi; exact .inl hi

theorem sound_mkslice (e : Ty) (n k : Opd) : Sound P (.mkslice e n k) := by
  intro c M μ G S a w nid o v u hp hm hr hfr
  generalize hq : o.op = q at hm
  cases q <;> simp only [mop, Bool.false_eq_true, Bool.and_eq_true] at hm
  rename_i t x' y'
  obtain ⟨⟨ht, h2⟩, h3⟩ := hm
  have hx := mo_ok hp.glob hp.env h2
  have hy := mo_ok hp.glob hp.env h3
  split at ht
  case h_2 => cases ht
  rename_i et hsl
  obtain ⟨inf, z, hinf, hsz, hpos, hby, hz, hzc⟩ := elOk_ty ht
  simp only [aopO, aop] at hr
  split at hr
  case h_2 => cases hr
  rename_i kn nn kc cc e1 e2
  rw [e1, AVV_int] at hx
  rw [e2, AVV_int] at hy
  cases hb : decide (0 ≤ (nn : Int) ∧ (nn : Int) ≤ cc ∧ (cc : Int) ≤ rowMax) with
  | false => simp [hb] at hr
  | true =>
    have hb' := of_decide_eq_true hb
    obtain ⟨b1, b2, b3⟩ := hb'
    obtain ⟨n1, n2, n3, n4⟩ := mk_nums b1 b2 b3 hby
    rw [hb] at hr
    simp only [cond_true, Option.some.injEq, Prod.mk.injEq] at hr
    obtain ⟨rfl, rfl⟩ := hr
    have hn : μ nid = none := hfr nid (Nat.le_refl _) (by simp)
    have hrun := run_make (P := P) w t et inf z (slOf_ty hsl) hinf hz kn kc nn cc b1 b2 n1 n2
    have hzs : z.cells.size = e.n := by rw [← Array.length_toList, hzc, zc_length]
    have hml := madeCells_list z.cells e.n (by omega) hzs (cc : Int).toNat
    rw [hzc] at hml
    rw [hsz] at hrun
    have hb : BR M (μ.ins nid (.row (some w.heap.size) (nn : Int).toNat (cc : Int).toNat)) (w.alloc (.cells (madeCells z.cells ((cc : Int).toNat * e.n)) et)) (.row (some w.heap.size) (nn : Int).toNat (cc : Int).toNat) (.row e (List.replicate (nn : Int).toNat e.zero) false) := by
      refine ⟨_, et, heap_alloc_new' w _, by simp, n3, n4, by simp [madeCells], ?_, ?_⟩
      · rw [hml]; exact oneC_flatten (zc_one e)
      · rw [hml]
        have := flatten_take (cc : Int).toNat (nn : Int).toNat (zc e) n3
        rw [zc_length] at this
        rw [this]
        exact RowC_replicate (TC_zero M e) _
    refine ⟨M, _, .slice (some ⟨w.heap.size, 0, none⟩) (nn : Int).toNat (cc : Int).toNat, _, .inl ?_, Mem.le.refl _, Map.le_ins hn, hp.hold.alloc hn rfl hb, ?_, ?_⟩
    · simp only [execOp, hq, hx, hy, Sem.run_bind, Sem.run_pure, hrun, Result.andThen_ok]
    · exact AVV_row.2 ⟨some w.heap.size, _, _, Map.ins_same _ _ _, rfl⟩
    · intro j hj
      by_cases e : j = nid
      · subst e; right; simp
      · rw [Map.ins_other _ _ _ e] at hj; exact .inl hj

end
end Go.Av

/-
  Each operation of the abstract machine is the machine's: literals; rows that become still; slices of slices and of texts.
-/
namespace Go.Av
section
variable {P : Program}

theorem splice_foldl : ∀ (vs : List Value) (k off : Nat) (cells : Array Value) (pre mid post : List Value), cells.toList = pre ++ mid ++ post → pre.length = off + k → mid.length = vs.length →
    ((vs.zipIdx k).foldl (fun cs (c, j) => cs.setIfInBounds (off + j) c) cells).toList = pre ++ vs ++ post
  | [], k, off, cells, pre, mid, post, e, hl, hm => by
    have : mid = [] := List.eq_nil_of_length_eq_zero (by simpa using hm)
    subst this
    simpa using e
  | v :: vs, k, off, cells, pre, mid, post, e, hl, hm => by
    match mid, hm with
    | m :: mid, hm =>
      rw [List.zipIdx_cons, List.foldl_cons]
      have := splice_foldl vs (k + 1) off (cells.setIfInBounds (off + k) v) (pre ++ [v]) mid post (by
        rw [Array.toList_setIfInBounds, e, ← hl]
        simp) (by simp; omega) (by simpa using hm)
      rw [this]
      simp

theorem fill_one {place : Nat → Option (Nat × Nat)} {i off n : Nat} (hp : place i = some (off, n)) {v : Value} {cells : Array Value} {pre mid post : List Value} (e : cells.toList = pre ++ mid ++ post) (hl : pre.length = off) (hm : mid.length = n) (hv : v.cells.size = n) (rest : List (Nat × Value)) :
    ∃ cells', cells'.toList = pre ++ v.cells.toList ++ post ∧ Instr.fill place cells ((i, v) :: rest) = Instr.fill place cells' rest := by
  refine ⟨_, splice_foldl v.cells.toList 0 off cells pre mid post e (by simpa using hl) (by simp [hm, hv]), ?_⟩
  rw [Instr.fill, hp]
  have hsz : off + v.cells.size ≤ cells.size := by
    have := congrArg List.length e
    simp only [Array.length_toList, List.length_append] at this
    omega
  have h1 : ¬ (v.cells.size ≠ n || off + v.cells.size > cells.size) = true := by
    simp [hv]; omega
  simp only [h1, Bool.false_eq_true, if_false]
  rw [← Array.foldl_toList, Array.toList_zipIdx]

/-- A literal, part by part. -/
theorem lay_ok {M : Mem} {μ : Map} {G : Nat → AV} {S : St} {a : Act} (hG : GlobOk M G) (hE : EnvOk M μ S a) {place : Nat → Option (Nat × Nat)} :
    ∀ (parts : List (Nat × Step × Nat × Opd)) (ps : List (Nat × Operand)) (z z' : AV) (cells : Array Value), mparts place parts ps = true → allLive (parts.map fun p => ev G S p.2.2.2) = true →
      lay z (parts.map fun p => (p.2.1, p.2.2.1, ev G S p.2.2.2)) = some z' → AVC M μ z cells.toList →
      ∃ cells', Instr.fill place cells (ps.map fun p => (p.1, a.eval p.2)) = some cells' ∧ AVC M μ z' cells'.toList
  | [], [], z, z', cells, _, _, h, hc => by
    simp only [List.map_nil, lay, Option.some.injEq] at h
    subst h
    exact ⟨cells, rfl, hc⟩
  | (i, s, n, x) :: parts, (i', y) :: ps, z, z', cells, hm, hl, h, hc => by
    simp only [mparts, Bool.and_eq_true] at hm
    obtain ⟨⟨⟨⟨h1, h2⟩, h3⟩, h4⟩, h5⟩ := hm
    obtain rfl := Nat.eq_of_beq_eq_true h1
    simp only [List.map_cons, allLive, Bool.and_eq_true] at hl
    simp only [List.map_cons, lay] at h
    split at h
    case h_2 => cases h
    rename_i o ho
    cases hb : (Nat.beq (ev G S x).nsz n && Nat.beq o.nsz n) with
    | false => simp [hb] at h
    | true =>
      rw [hb] at h
      simp only [Bool.and_eq_true] at hb
      have hn1 := Nat.eq_of_beq_eq_true hb.1
      have hn2 := Nat.eq_of_beq_eq_true hb.2
      simp only [cond_true] at h
      split at h
      case h_2 => cases h
      rename_i z1 hz1
      have hs : s.okS := by
        cases s with
        | fld => trivial
        | idx j m sz => show j < m; simpa [Nat.blt_eq] using h4
      split at h3
      case h_2 => cases h3
      rename_i off m hpl
      simp only [Bool.and_eq_true] at h3
      have hoff := Nat.eq_of_beq_eq_true h3.1
      obtain rfl := Nat.eq_of_beq_eq_true h3.2
      obtain ⟨pre, mid, post, e, hpl1, hmid, hset⟩ := (stepGet_focus hs ho hc).split
      obtain ⟨cv, hcv, hvv⟩ := AVV_live (mo_ok hG hE h2) hl.1
      have hcells := hvv.cells hcv.one
      have hvs : (a.eval y).cells.size = n := by rw [← Array.length_toList, hcells, hcv.length, hn1]
      obtain ⟨cells1, e1, hfill⟩ := fill_one (place := place) hpl e (by rw [hpl1, hoff]) (by rw [hmid.length, hn2]) hvs (ps.map fun p => (p.1, a.eval p.2))
      have hz1' := hset (ev G S x) cv hcv (by rw [hn1, hn2]) z1 hz1
      rw [← hcells, ← e1] at hz1'
      obtain ⟨cells', hf, hz'⟩ := lay_ok hG hE parts ps z1 z' cells1 h5 hl.2 h hz1'
      exact ⟨cells', by rw [List.map_cons, hfill]; exact hf, hz'⟩
  | [], _ :: _, _, _, _, hm, _, _, _ => by simp [mparts] at hm
  | _ :: _, [], _, _, _, hm, _, _, _ => by simp [mparts] at hm

theorem mapM_places {ts : List Field} (h : ts.all (fun f => hasTy P f.type) = true) (w : World) : (ts.mapM fun (f : Field) => (do pure (f.offset, ← sizeOf f.type) : Sem (Nat × Nat))).run P w = .ok (ts.map fun f => (f.offset, P.cellsOf f.type)) w := by
  induction ts with
  | nil => rfl
  | cons f ts ih =>
    simp only [List.all_cons, Bool.and_eq_true] at h
    obtain ⟨_, i, _, hi⟩ := hasTy_ty h.1
    rw [List.mapM_cons]
    have : P.cellsOf f.type = i.size := by simp [Program.cellsOf, hi]
    simp only [Sem.run_bind, run_sizeOf hi, Result.andThen_ok, Sem.run_pure, ih h.2, List.map_cons, this]

theorem Sh_agg : ∀ (sh : Sh) (n : Nat), sh.agg = (sh.mk n).1.isAgg := by
  intro sh n
  cases sh <;> rfl

theorem lay_agg : ∀ (l : List (Step × Nat × AV)) (z z' : AV), lay z l = some z' → z.isAgg = true → z'.isAgg = true
  | [], z, z', h, hz => by simp only [lay, Option.some.injEq] at h; subst h; exact hz
  | (s, n, v) :: r, z, z', h, hz => by
    simp only [lay] at h
    split at h
    case h_2 => cases h
    rename_i o ho
    cases hb : (Nat.beq v.nsz n && Nat.beq o.nsz n) with
    | false => simp [hb] at h
    | true =>
      rw [hb] at h
      simp only [cond_true] at h
      split at h
      case h_2 => cases h
      rename_i z1 hz1
      refine lay_agg r z1 z' h ?_
      have hj : ∀ a b u v, (joinPr a b u v).isAgg = true := by
        intro a b u v
        unfold joinPr
        split
        · split
          · split <;> rfl
          · rfl
        · rfl
      have hf : ∀ (i off : Nat) (a v a' : AV), fldSet i off a v = some a' → a'.isAgg = true := by
        intro i
        induction i with
        | zero =>
          intro off a v a' h
          cases a with
          | tv τ x =>
            cases τ with
            | pr a b =>
              simp only [fldSet] at h
              cases hc : (Nat.beq off 0 && Nat.beq v.nsz a.n) with
              | false => simp [hc] at h
              | true => rw [hc] at h; simp only [cond_true, Option.some.injEq] at h; subst h; exact hj _ _ _ _
            | _ => simp [fldSet] at h
          | cons a b =>
            simp only [fldSet] at h
            cases hc : (Nat.beq off 0 && Nat.beq v.nsz a.nsz) with
            | false => simp [hc] at h
            | true => rw [hc] at h; simp only [cond_true, Option.some.injEq] at h; subst h; rfl
          | _ => simp [fldSet] at h
        | succ i ih =>
          intro off a v a' h
          cases a with
          | tv τ x =>
            cases τ with
            | pr a b =>
              simp only [fldSet] at h
              cases hc : Nat.ble a.n off with
              | false => simp [hc] at h
              | true =>
                rw [hc] at h
                simp only [cond_true] at h
                split at h
                · simp only [Option.some.injEq] at h; subst h; exact hj _ _ _ _
                · cases h
            | _ => simp [fldSet] at h
          | cons a b =>
            simp only [fldSet] at h
            cases hc : Nat.ble a.nsz off with
            | false => simp [hc] at h
            | true =>
              rw [hc] at h
              simp only [cond_true] at h
              split at h
              · simp only [Option.some.injEq] at h; subst h; rfl
              · cases h
          | _ => simp [fldSet] at h
      cases s with
      | fld i off => exact hf i off z v z1 hz1
      | idx i m sz =>
        simp only [stepSet] at hz1
        split at hz1
        · cases hc : (Nat.beq _ m && Nat.beq _ sz) with
          | false => rw [hc] at hz1; simp at hz1
          | true =>
            rw [hc] at hz1
            simp only [cond_true] at hz1
            split at hz1
            · simp only [Option.some.injEq] at hz1; subst hz1; rfl
            · cases hz1
        · rename_i u w'
          have : ∀ (i : Nat) (u w v a' : AV), chainSet i sz (.cons u w) v = some a' → a'.isAgg = true := by
            intro i u w v a' h
            cases i with
            | zero =>
              simp only [chainSet] at h
              cases hc : (Nat.beq u.nsz sz && Nat.beq v.nsz sz) with
              | false => simp [hc] at h
              | true => rw [hc] at h; simp only [cond_true, Option.some.injEq] at h; subst h; rfl
            | succ i =>
              simp only [chainSet] at h
              cases hc : Nat.beq u.nsz sz with
              | false => simp [hc] at h
              | true =>
                rw [hc] at h
                simp only [cond_true] at h
                split at h
                · simp only [Option.some.injEq] at h; subst h; rfl
                · cases h
          exact this i u w' v z1 hz1
        · cases hz1

theorem sound_build (T : TypeId) (sh : Sh) (parts : List (Nat × Step × Nat × Opd)) : Sound P (.build T sh parts) := by
  intro c M μ G S a w nid o v u hp hm hr hfr
  generalize hq : o.op = q at hm
  cases q <;> simp only [mop, Bool.false_eq_true, Bool.and_eq_true] at hm
  rename_i t ps
  obtain ⟨⟨⟨hT, hzi⟩, hag⟩, hm⟩ := hm
  obtain ⟨i, z, hi, hz, hf⟩ := zeroIs_ty hzi
  simp only [aopO, aop] at hr
  cases hl : allLive (parts.map fun p => ev G S p.2.2.2) with
  | false => simp [hl] at hr
  | true =>
    rw [hl] at hr
    simp only [cond_true] at hr
    split at hr
    case h_2 => cases hr
    rename_i v1 hv1
    simp only [Option.some.injEq, Prod.mk.injEq] at hr
    obtain ⟨rfl, rfl⟩ := hr
    simp only at hfr
    have hmono : ∀ (sh : Sh) (m : Nat), m ≤ (sh.mk m).2.2 := by
      intro sh
      induction sh with
      | cons a b iha ihb => intro m; exact Nat.le_trans (iha m) (ihb _)
      | row e => intro m; simp [Sh.mk]
      | _ => intro m; exact Nat.le_refl _
    have hm1 := hmono sh nid
    obtain ⟨μ1, pre, e1, l1, H1, A1, f1, _⟩ := Sh_mk_ok sh nid hp.hold (fun j h1 h2 => hfr j (by omega) (by omega)) hf
    rw [List.append_nil] at e1
    have hE1 : EnvOk M μ1 S a := fun t => (hp.env t).mono (Mem.le.refl _) l1
    have hagg : v1.isAgg = true := lay_agg _ _ _ hv1 (by rw [← Sh_agg]; exact hag)
    have key : ∀ place, mparts place parts ps.toList = true → ∃ cells', Instr.fill place z.cells (ps.toList.map fun p => (p.1, a.eval p.2)) = some cells' ∧ AVC M μ1 v1 cells'.toList := fun place h =>
      lay_ok hp.glob hE1 parts ps.toList _ _ z.cells h hl hv1 (by rw [e1]; exact A1)
    have fin : ∀ cells' : Array Value, AVC M μ1 v1 cells'.toList → (execOp a.eval o).run P w = .ok (.value (.agg cells')) w → OpOk c M μ S.H nid ((execOp a.eval o).run P w) v1 ⟨(sh.mk nid).2.1, (sh.mk nid).2.2 - nid⟩ := by
      intro cells' hc hrun
      refine ⟨M, μ1, _, w, .inl hrun, Mem.le.refl _, l1, H1, AVV_of hc (by rw [hagg]; simp [VofC]), ?_⟩
      intro j hj
      rcases f1 j hj with h | h
      · exact .inl h
      · right; simp only; omega
    have hmap : (Array.map (fun (x : Nat × Operand) => (x.1, a.eval x.2)) ps).toList = ps.toList.map fun p => (p.1, a.eval p.2) := by simp
    split at hm
    · rename_i fs hu
      simp only [Bool.and_eq_true] at hm
      obtain ⟨cells', hfill, hc⟩ := key _ hm.2
      refine fin cells' hc ?_
      have hpl : (fs.mapM fun (f : Field) => (do pure (f.offset, ← sizeOf f.type) : Sem (Nat × Nat))).run P w = .ok (fs.map fun f => (f.offset, P.cellsOf f.type)) w := by
        rw [Array.mapM_eq_mapM_toList]
        rw [Sem.run_map, mapM_places hm.1]
        simp only [Result.andThen_ok]
        congr 1
        apply Array.ext'
        simp
      have hplace : (fun (i : Nat) => (fs.map fun (f : Field) => (f.offset, P.cellsOf f.type))[i]?) = fun (i : Nat) => (fs[i]?).map fun (f : Field) => (f.offset, P.cellsOf f.type) := by
        funext i; simp
      simp only [execOp, hq, Instr.build, Sem.run_bind, run_zeroValue hi hz, run_underlying hu, Result.andThen_ok, hpl, hmap, hplace, hfill, Sem.run_pure]
    · rename_i n e hu
      simp only [Bool.and_eq_true] at hm
      obtain ⟨cells', hfill, hc⟩ := key _ hm.2
      refine fin cells' hc ?_
      obtain ⟨_, ie, _, hie⟩ := hasTy_ty hm.1
      have : P.cellsOf e = ie.size := by simp [Program.cellsOf, hie]
      rw [this] at hfill
      simp only [execOp, hq, Instr.build, Sem.run_bind, run_zeroValue hi hz, run_underlying hu, Result.andThen_ok, run_sizeOf hie, hmap, hfill, Sem.run_pure]
    · cases hm

end
end Go.Av

/-
  Each operation of the abstract machine is the machine's: rows that become still; slices of slices and of texts.
-/
namespace Go.Av
section
variable {P : Program}

theorem toTF_ok {c : Ctx} {μ : Map} {w : World} : ∀ (a : AV) (τ : Ty) {M : Mem} {H : Hp} {x : τ.T} {d : Hp} {cs : List Value}, toTF τ a H = some (x, d) → Hold c M μ H w → AVC M μ a cs →
    ∃ M', M.le M' ∧ Hold c M' μ (d ++ H) w ∧ TC M' τ x cs ∧ a.isAgg = τ.isAgg
  | .tv σ y, τ, M, H, x, d, cs, h, hH, hc => by
    unfold toTF at h
    split at h
    · rename_i e
      subst e
      simp only [Option.some.injEq, Prod.mk.injEq] at h
      obtain ⟨rfl, rfl⟩ := h
      exact ⟨M, Mem.le.refl _, hH, by simpa only [AVC] using hc, rfl⟩
    · cases h
  | .row i, τ, M, H, x, d, cs, h, hH, hc => by
    unfold toTF at h
    cases τ with
    | sl e =>
      simp only at h
      split at h
      case h_2 => cases h
      rename_i e' xs fz hi
      split at h
      case isFalse => cases h
      rename_i he
      subst he
      simp only [Option.some.injEq, Prod.mk.injEq] at h
      obtain ⟨rfl, rfl⟩ := h
      obtain ⟨M', h1, h2, h3⟩ := hH.freeze hi
      refine ⟨M', h1, h2, ?_, rfl⟩
      have := h3 cs hc
      simpa only [AVC] using this
    | _ => cases h
  | .cons u v, τ, M, H, x, d, cs, h, hH, hc => by
    unfold toTF at h
    simp only [AVC] at hc
    obtain ⟨c1, c2, rfl, hc1, hc2⟩ := hc
    cases τ with
    | pr a b =>
      simp only at h
      split at h
      case h_2 => cases h
      rename_i y1 d1 h1
      split at h
      case h_2 => cases h
      rename_i y2 d2 h2
      simp only [Option.some.injEq, Prod.mk.injEq] at h
      obtain ⟨rfl, rfl⟩ := h
      obtain ⟨M1, l1, H1, t1, _⟩ := toTF_ok u a h1 hH hc1
      obtain ⟨M2, l2, H2, t2, _⟩ := toTF_ok v b h2 H1 (hc2.mono l1 (Map.le.refl _))
      exact ⟨M2, l1.trans l2, by simpa only [List.append_assoc] using H2, ⟨c1, c2, rfl, t1.mono l2, t2⟩, rfl⟩
    | arr n e =>
      cases n with
      | zero => cases h
      | succ n =>
        simp only at h
        split at h
        case h_2 => cases h
        rename_i y1 d1 h1
        split at h
        case h_2 => cases h
        rename_i y2 d2 h2
        simp only [Option.some.injEq, Prod.mk.injEq] at h
        obtain ⟨rfl, rfl⟩ := h
        obtain ⟨M1, l1, H1, t1, _⟩ := toTF_ok u e h1 hH hc1
        obtain ⟨M2, l2, H2, ⟨hl, t2⟩, _⟩ := toTF_ok v (.arr n e) h2 H1 (hc2.mono l1 (Map.le.refl _))
        exact ⟨M2, l1.trans l2, by simpa only [List.append_assoc] using H2, ⟨by simpa using hl, ⟨c1, c2, rfl, t1.mono l2, t2⟩⟩, rfl⟩
    | _ => cases h
  | .sln b e' xs, τ, M, H, x, d, cs, h, hH, hc => by
    unfold toTF at h
    simp only [AVC] at hc
    cases τ with
    | sl e =>
      simp only at h
      split at h
      case isFalse => cases h
      rename_i he
      subst he
      simp only [Option.some.injEq, Prod.mk.injEq] at h
      obtain ⟨rfl, rfl⟩ := h
      exact ⟨M, Mem.le.refl _, hH, hc.1, rfl⟩
    | _ => cases h
  | .nil, τ, M, H, x, d, cs, h, hH, hc => by
    unfold toTF at h
    simp only [AVC] at hc
    subst hc
    cases τ with
    | nil =>
      simp only [Option.some.injEq, Prod.mk.injEq] at h
      obtain ⟨_, rfl⟩ := h
      exact ⟨M, Mem.le.refl _, hH, rfl, rfl⟩
    | arr n e =>
      cases n with
      | zero =>
        simp only [Option.some.injEq, Prod.mk.injEq] at h
        obtain ⟨rfl, rfl⟩ := h
        exact ⟨M, Mem.le.refl _, hH, ⟨rfl, rfl⟩, rfl⟩
      | succ n => cases h
    | _ => cases h
  | .ptr _ _, _, _, _, _, _, _, h, _, _ | .fp _ _, _, _, _, _, _, _, h, _, _ | .obj _, _, _, _, _, _, _, h, _, _ | .mp _, _, _, _, _, _, _, h, _, _ | .nilp, _, _, _, _, _, _, h, _, _ | .nilf, _, _, _, _, _, _, h, _, _ | .fn _ _ _, _, _, _, _, _, _, h, _, _ | .tup _, _, _, _, _, _, _, h, _, _ | .junk, _, _, _, _, _, _, h, _, _ | .dead, _, _, _, _, _, _, h, _, _ => by
    unfold toTF at h; cases h

/-- A value becomes a tree. -/
theorem toTF_AVV {c : Ctx} {μ : Map} {w : World} {a : AV} {τ : Ty} {M : Mem} {H : Hp} {x : τ.T} {d : Hp} {v : Value} (h : toTF τ a H = some (x, d)) (hH : Hold c M μ H w) (hv : AVV M μ a v) :
    ∃ M', M.le M' ∧ Hold c M' μ (d ++ H) w ∧ ∃ cs, TC M' τ x cs ∧ VofC τ.isAgg cs v := by
  have hl : a.live = true := by
    cases a <;> first | rfl | (unfold toTF at h; cases h)
  obtain ⟨cs, h1, h2⟩ := AVV_live hv hl
  obtain ⟨M', l1, H1, t1, e⟩ := toTF_ok a τ h hH h1
  exact ⟨M', l1, H1, cs, t1, by rw [← e]; exact h2⟩

theorem toTFs_ok {c : Ctx} {μ : Map} {w : World} {G : Nat → AV} {S : St} {a : Act} {e : Ty} : ∀ (xs : List Opd) (k : Nat) (ps : List (Nat × Operand)) {M : Mem} {H : Hp} {ys : List e.T} {d : Hp}, GlobOk M G → EnvOk M μ S a → mpartsS k xs ps = true → toTFs e (xs.map (ev G S)) H = some (ys, d) → Hold c M μ H w →
    ∃ M' cs, M.le M' ∧ Hold c M' μ (d ++ H) w ∧ RowC (TC M' e) ys cs ∧ ys.length = xs.length ∧
      ∀ (cells : Array Value) (done rest : List Value), cells.toList = done ++ rest → done.length = k * e.n → rest.length = xs.length * e.n →
        ∃ cells', cells'.toList = done ++ cs ∧ Instr.fill (fun i => some (i * e.n, e.n)) cells (ps.map fun p => (p.1, a.eval p.2)) = some cells'
  | [], k, [], M, H, ys, d, _, _, _, h, hH => by
    simp only [List.map_nil, toTFs, Option.some.injEq, Prod.mk.injEq] at h
    obtain ⟨rfl, rfl⟩ := h
    refine ⟨M, [], Mem.le.refl _, hH, rfl, rfl, ?_⟩
    intro cells done rest e1 _ e3
    have : rest = [] := List.eq_nil_of_length_eq_zero (by simpa using e3)
    subst this
    exact ⟨cells, e1, rfl⟩
  | x :: xs, k, (i, y) :: ps, M, H, ys, d, hG, hE, hm, h, hH => by
    simp only [mpartsS, Bool.and_eq_true] at hm
    obtain ⟨⟨h1, h2⟩, h3⟩ := hm
    obtain rfl := Nat.eq_of_beq_eq_true h1
    simp only [List.map_cons, toTFs] at h
    split at h
    case h_2 => cases h
    rename_i y1 d1 hy1
    split at h
    case h_2 => cases h
    rename_i y2 d2 hy2
    simp only [Option.some.injEq, Prod.mk.injEq] at h
    obtain ⟨rfl, rfl⟩ := h
    obtain ⟨M1, l1, H1, c1, t1, v1⟩ := toTF_AVV hy1 hH (mo_ok hG hE h2)
    obtain ⟨M2, c2, l2, H2, t2, hlen, hf⟩ := toTFs_ok xs (i + 1) ps (hG.mono l1) (fun t => (hE t).mono l1 (Map.le.refl _)) h3 hy2 H1
    refine ⟨M2, c1 ++ c2, l1.trans l2, by simpa only [List.append_assoc] using H2, ⟨c1, c2, rfl, t1.mono l2, t2⟩, by simp [hlen], ?_⟩
    intro cells done rest e1 e2 e3
    have hc : (a.eval y).cells.toList = c1 := v1.cells t1.one
    have hcl : c1.length = e.n := t1.length
    have hcs : (a.eval y).cells.size = e.n := by rw [← Array.length_toList, hc, hcl]
    have hrl : e.n ≤ rest.length := by rw [e3, List.length_cons, Nat.succ_mul]; omega
    obtain ⟨cells1, e4, e5⟩ := fill_one (place := fun i => some (i * e.n, e.n)) (i := i) rfl (v := a.eval y) (cells := cells) (pre := done) (mid := rest.take e.n) (post := rest.drop e.n) (by rw [e1]; simp) e2 (by simp; omega) hcs (ps.map fun p => (p.1, a.eval p.2))
    obtain ⟨cells2, e6, e7⟩ := hf cells1 (done ++ c1) (rest.drop e.n) (by rw [e4, hc]) (by rw [List.length_append, e2, hcl, Nat.succ_mul]) (by rw [List.length_drop, e3, List.length_cons, Nat.succ_mul]; omega)
    exact ⟨cells2, by rw [e6]; simp, by rw [List.map_cons, e5]; exact e7⟩
  | [], _, _ :: _, _, _, _, _, _, _, hm, _, _ => by simp [mpartsS] at hm
  | _ :: _, _, [], _, _, _, _, _, _, hm, _, _ => by simp [mpartsS] at hm

theorem run_buildSlice {t e : TypeId} {i : TypeInfo} {z : Value} (ht : P.underlying t = some (.slice e)) (hi : P.info? e = some i) (hz : i.zero = some z) {len n : Nat} (hn : i.size = n) (hbig : len * n ≤ 16777216) {parts : Array (Nat × Value)} {cells' : Array Value}
    (hf : Instr.fill (fun i => some (i * n, n)) (madeCells z.cells (len * n)) parts.toList = some cells') (w : World) :
    (Instr.buildSlice t len parts).run P w = .ok (.slice (some ⟨w.heap.size, 0, none⟩) len len) (w.alloc (.cells cells' e)) := by
  subst hn
  have hlt : ¬ (16777216 < len * i.size) := by omega
  by_cases h0 : len * i.size = 0
  · have hm : madeCells z.cells (len * i.size) = #[] := by rw [h0]; simp [madeCells]
    rw [hm] at hf
    have h0' : len = 0 ∨ i.size = 0 := Nat.mul_eq_zero.1 h0
    simp only [Instr.buildSlice, Sem.run_bind, run_underlying ht, run_sizeOf hi, Result.andThen_ok]
    rw [if_neg (by omega)]
    simp only [Sem.run_bind, Sem.run_ite, if_pos h0, Sem.run_pure, Result.andThen_ok]
    have hr : Array.map (fun (j : Nat) => (#[] : Array Value)[j % (#[] : Array Value).size]!) (Array.range (len * i.size)) = #[] := by rw [h0]; simp
    rw [hr, hf]
    rfl
  · simp only [Instr.buildSlice, Sem.run_bind, run_underlying ht, run_sizeOf hi, Result.andThen_ok]
    rw [if_neg (by omega)]
    simp only [Sem.run_bind, Sem.run_ite, if_neg h0, run_zeroValue hi hz, Sem.run_pure, Result.andThen_ok]
    have hr : Array.map (fun (j : Nat) => z.cells[j % z.cells.size]!) (Array.range (len * i.size)) = madeCells z.cells (len * i.size) := rfl
    rw [hr, hf]
    rfl

theorem sound_bslice (e : Ty) (parts : List Opd) : Sound P (.bslice e parts) := by
  intro c M μ G S a w nid o v u hp hm hr hfr
  generalize hq : o.op = q at hm
  cases q <;> simp only [mop, Bool.false_eq_true] at hm
  rename_i t len ps
  split at hm
  case h_2 => cases hm
  rename_i et hsl
  simp only [Bool.and_eq_true] at hm
  obtain ⟨⟨⟨hel, hlen⟩, hbig⟩, hmp⟩ := hm
  have hlen := Nat.eq_of_beq_eq_true hlen
  have hbig := Nat.le_of_ble_eq_true hbig
  obtain ⟨inf, z, hinf, hsz, hpos, hby, hz, hzc⟩ := elOk_ty hel
  simp only [aopO, aop] at hr
  split at hr
  case h_2 => cases hr
  rename_i xs d hx
  simp only [Option.some.injEq, Prod.mk.injEq] at hr
  obtain ⟨rfl, rfl⟩ := hr
  have hn : μ nid = none := hfr nid (Nat.le_refl _) (by simp)
  obtain ⟨M1, cs, l1, H1, t1, hxl, hf⟩ := toTFs_ok parts 0 ps.toList hp.glob hp.env hmp hx hp.hold
  have hzs : z.cells.size = e.n := by rw [← Array.length_toList, hzc, zc_length]
  obtain ⟨cells', e1, e2⟩ := hf (madeCells z.cells (len * e.n)) [] (madeCells z.cells (len * e.n)).toList (by simp) (by simp) (by simp [madeCells, hlen])
  simp only [List.nil_append] at e1
  have hsize : cells'.size = xs.length * e.n := by rw [← Array.length_toList, e1]; exact RowC.length (fun _ _ h => TC.length h) t1
  have hmap : (Array.map (fun (x : Nat × Operand) => (x.1, a.eval x.2)) ps).toList = ps.toList.map fun p => (p.1, a.eval p.2) := by simp
  have hxl' : xs.length = len := by rw [hxl, hlen]
  have hb : BR M1 (μ.ins nid (.row (some w.heap.size) len len)) (w.alloc (.cells cells' et)) (.row (some w.heap.size) len len) (.row e xs false) := by
    refine ⟨cells', et, heap_alloc_new' w _, hxl', Nat.le_refl _, ?_, by rw [hsize, hxl'], by rw [e1]; exact RowC.one (fun _ _ h => TC.one h) t1, ?_⟩
    · have : len ≤ len * e.n := Nat.le_mul_of_pos_right _ (by omega)
      simp [maxLen]; omega
    · have hcs : cs.length = len * e.n := by rw [RowC.length (fun _ _ h => TC.length h) t1, hxl']
      rw [e1, List.take_of_length_le (by omega)]
      exact t1
  refine ⟨M1, μ.ins nid (.row (some w.heap.size) len len), .slice (some ⟨w.heap.size, 0, none⟩) len len, w.alloc (.cells cells' et), .inl ?_, l1, Map.le_ins hn, ?_, ?_, ?_⟩
  · rw [← hmap] at e2
    have hrun := run_buildSlice (slOf_ty hsl) hinf hz hsz hbig e2 w
    simp only [execOp, hq, Sem.run_bind, hrun, Result.andThen_ok, Sem.run_pure]
  · exact H1.alloc hn rfl hb
  · exact AVV_row.2 ⟨some w.heap.size, _, _, Map.ins_same _ _ _, rfl⟩
  · intro j hj
    by_cases e : j = nid
    · subst e; right; simp
    · rw [Map.ins_other _ _ _ e] at hj; exact .inl hj

theorem RowC_u8 {M : Mem} : ∀ {xs : List Int} {cs : List Value}, RowC (TC M (.int .u8)) xs cs → cs = xs.map (Value.int .u8)
  | [], _, h => h
  | x :: xs, cs, ⟨c1, c2, e, h1, h2⟩ => by
    simp only [TC] at h1
    subst h1; subst e
    rw [RowC_u8 h2]; rfl

theorem foldl_push (ns : List Int) : ∀ r : ByteArray, ns.foldl (fun r n => r.push (UInt8.ofNat n.toNat)) r = ⟨(r.data.toList ++ ns.map toU8).toArray⟩ := by
  induction ns with
  | nil => intro r; apply ByteArray.ext; simp
  | cons n ns ih =>
    intro r
    rw [List.foldl_cons, ih]
    apply ByteArray.ext
    simp [ByteArray.push, toU8]

theorem run_bstr {s d e : TypeId} (hs : P.underlying s = some (.slice e)) (he : P.underlying e = some (.int .u8)) (hd : P.underlying d = some .string) {w : World} {ao : Option Addr} {cap : Nat} {xs : List Int}
    (h : xs = [] ∨ ∃ ad, ao = some ad ∧ ∀ j v, (xs.map (Value.int .u8))[j]? = some v → w.cell? (ad.add j) = some v) :
    (convert s d (.slice ao xs.length cap)).run P w = .ok (.string ⟨(xs.map toU8).toArray⟩) w := by
  rw [run_convert_bytes_string w s d e ao xs.length cap hs he hd]
  cases ao with
  | none =>
    rcases h with rfl | ⟨ad, h, _⟩
    · rfl
    · cases h
  | some ad =>
    have hc : ∀ j v, (xs.map (Value.int .u8))[j]? = some v → w.cell? (ad.add j) = some v := by
      rcases h with rfl | ⟨ad', h1, h2⟩
      · simp
      · cases h1; exact h2
    have hl := run_loadCells_list (P := P) w ad (xs.map (Value.int .u8)) hc
    rw [List.length_map] at hl
    rw [run_bytesToString w ad xs.length cap xs hl, foldl_push]
    simp

theorem cells_of_M {M : Mem} {w : World} (hm : ∀ b o v, M b o = some v → w.cell? ⟨b, o, none⟩ = some v) {b o : Nat} {es : List Value} (h : ∀ j v, es[j]? = some v → M b (o + j) = some v) : ∀ j v, es[j]? = some v → w.cell? ((⟨b, o, none⟩ : Addr).add j) = some v := by
  intro j v hv
  rw [Addr.add_mid]
  exact hm _ _ _ (h j v hv)

theorem sound_bstr (x : Opd) : Sound P (.bstr x) := by
  intro c M μ G S a w nid o v u hp hm hr _
  generalize hq : o.op = q at hm
  cases q <;> simp only [mop, Bool.false_eq_true, Bool.and_eq_true] at hm
  rename_i s d x'
  obtain ⟨⟨h0, h1⟩, h2⟩ := hm
  have hx := mo_ok hp.glob hp.env h2
  split at h0
  case h_2 => cases h0
  rename_i e hsl
  have he := isInt_ty h0
  have hd := isStr_ty h1
  have hs := slOf_ty hsl
  simp only [aopO, aop] at hr
  split at hr
  · rename_i xs e1
    rw [e1, AVV_tv] at hx
    obtain ⟨cs, ⟨ad, cap, rfl, es, hrow, hM, hcap⟩, hv⟩ := hx
    have hv : a.eval x' = .slice ad xs.length cap := by simpa [VofC, Ty.isAgg] using hv.symm
    simp only [Option.some.injEq, Prod.mk.injEq] at hr
    obtain ⟨rfl, rfl⟩ := hr
    refine OpOk.same hp.hold (v' := .string ⟨(List.map toU8 xs).toArray⟩) ?_ (AVV_str.2 rfl)
    have := run_bstr hs he hd (w := w) (ao := ad) (cap := cap) (xs := xs) (by
      rcases hM with rfl | ⟨b, o1, rfl, hM⟩
      · exact .inl rfl
      · rw [RowC_u8 hrow] at hM
        exact .inr ⟨_, rfl, cells_of_M hp.hold.mem hM⟩)
    simp only [execOp, hq, hv, Sem.run_bind, this, Sem.run_pure, Result.andThen_ok]
  · rename_i i e1
    split at hr
    case h_2 => cases hr
    rename_i xs fz hH
    simp only [Option.some.injEq, Prod.mk.injEq] at hr
    obtain ⟨rfl, rfl⟩ := hr
    rw [e1, AVV_row] at hx
    obtain ⟨bo, len, cap, hl, hv⟩ := hx
    obtain ⟨l, hl', hbr⟩ := hp.hold.blks i _ hH
    rw [hl] at hl'
    cases hl'
    refine OpOk.same hp.hold (v' := .string ⟨(List.map toU8 xs).toArray⟩) ?_ (AVV_str.2 rfl)
    cases bo with
    | none =>
      obtain ⟨rfl, rfl, rfl⟩ := hbr
      have := run_bstr hs he hd (w := w) (ao := none) (cap := 0) (xs := []) (.inl rfl)
      simp only [List.length_nil] at this
      simp only [Option.map_none] at hv
      simp only [execOp, hq, hv, Sem.run_bind, this, Sem.run_pure, Result.andThen_ok]
    | some b =>
      obtain ⟨cs, T, hc, hlen, hle, hcap, hcs, hone, hrow⟩ := hbr
      have hes := RowC_u8 hrow
      have := run_bstr hs he hd (w := w) (ao := some ⟨b, 0, none⟩) (cap := cap) (xs := xs) (.inr ⟨_, rfl, by
        intro j v hv
        rw [Addr.add_mid, cell_of_heap hc, ← Array.getElem?_toList]
        rw [← hes] at hv
        rw [List.getElem?_take] at hv
        split at hv
        · simpa using hv
        · cases hv⟩)
      simp only [Option.map_some] at hv
      rw [hlen] at this
      simp only [execOp, hq, hv, Sem.run_bind, this, Sem.run_pure, Result.andThen_ok]
  · cases hr

end
end Go.Av

/-
  Each operation of the abstract machine is the machine's: slices of slices and of texts; stores; a text, sign by sign.
-/
namespace Go.Av
section
variable {P : Program}

theorem run_sliceBound {k : IntKind} {i : Int} {y : Nat} {code : BoundsCode} (h : 0 ≤ i ∧ i ≤ (y : Int)) (w : World) : (Instr.sliceBound (.int k i) y code).run P w = .ok i.toNat w := by
  simp only [Instr.sliceBound, Sem.run_bind, asIntOf, Sem.run_pure, Result.andThen_ok, if_pos h]

/-- The bounds of a slice expression, as the machine reckons them. -/
theorem bnds_ok {R : Type} {M : Mem} {μ : Map} {G : Nat → AV} {S : St} {a : Act} (hG : GlobOk M G) (hE : EnvOk M μ S a) {lo hi : Option Opd} {l h : Option Operand} (hl : moo lo l = true) (hh : moo hi h = true) {n : Nat} {K : Nat → Nat → Option R} {r : R}
    (hb : bnds n (lo.map (ev G S)) (hi.map (ev G S)) K = some r) : ∃ x y, x ≤ y ∧ y ≤ n ∧ K x y = some r ∧ ∀ (isS : Bool) (cap : Nat) (w : World), n ≤ cap → (Instr.sliceBounds isS n cap (l.map a.eval) (h.map a.eval) none).run P w = .ok (x, y, cap) w := by
  cases lo with
  | none =>
    cases l with
    | some _ => simp [moo] at hl
    | none =>
      cases hi with
      | none =>
        cases h with
        | some _ => simp [moo] at hh
        | none =>
          simp only [Option.map_none, bnds] at hb
          exact ⟨0, n, Nat.zero_le _, Nat.le_refl _, hb, fun isS cap w _ => by simp [Instr.sliceBounds]⟩
      | some hi =>
        cases h with
        | none => simp [moo] at hh
        | some h =>
          simp only [moo] at hh
          have hv := mo_ok hG hE hh
          simp only [Option.map_none, Option.map_some, bnds] at hb
          split at hb <;> rename_i e1 e2 <;> first | (cases e1; done) | (cases e2; done) | skip
          all_goals try (cases hb; done)
          rename_i k x
          simp only [Option.some.injEq] at e2
          rw [e2, AVV_int] at hv
          cases hd : decide (0 ≤ (x : Int) ∧ (x : Int) ≤ n) with
          | false => simp [hd] at hb
          | true =>
            rw [hd] at hb
            have hd := of_decide_eq_true hd
            obtain ⟨d1, d2⟩ := hd
            simp only [cond_true] at hb
            refine ⟨0, (x : Int).toNat, Nat.zero_le _, Int.toNat_le.2 d2, hb, fun isS cap w hc => ?_⟩
            have h1 : 0 ≤ (x : Int) ∧ (x : Int) ≤ (cap : Int) := ⟨d1, Int.le_trans d2 (by omega)⟩
            simp only [Option.map_none, Option.map_some, hv, Instr.sliceBounds, Sem.run_bind, Sem.run_pure, Result.andThen_ok, run_sliceBound h1]
  | some lo =>
    cases l with
    | none => simp [moo] at hl
    | some l =>
      simp only [moo] at hl
      have hv := mo_ok hG hE hl
      cases hi with
      | none =>
        cases h with
        | some _ => simp [moo] at hh
        | none =>
          simp only [Option.map_none, Option.map_some, bnds] at hb
          split at hb <;> rename_i e1 e2 <;> first | (cases e1; done) | (cases e2; done) | skip
          all_goals try (cases hb; done)
          rename_i k x
          simp only [Option.some.injEq] at e1
          rw [e1, AVV_int] at hv
          cases hd : decide (0 ≤ (x : Int) ∧ (x : Int) ≤ n) with
          | false => simp [hd] at hb
          | true =>
            rw [hd] at hb
            have hd := of_decide_eq_true hd
            simp only [cond_true] at hb
            refine ⟨(x : Int).toNat, n, Int.toNat_le.2 hd.2, Nat.le_refl _, hb, fun isS cap w hc => ?_⟩
            simp only [Option.map_none, Option.map_some, hv, Instr.sliceBounds, Sem.run_bind, Sem.run_pure, Result.andThen_ok, run_sliceBound hd]
      | some hi =>
        cases h with
        | none => simp [moo] at hh
        | some h =>
          simp only [moo] at hh
          have hv' := mo_ok hG hE hh
          simp only [Option.map_some, bnds] at hb
          split at hb <;> rename_i e1 e2 <;> first | (cases e1; done) | (cases e2; done) | skip
          all_goals try (cases hb; done)
          rename_i k x k' y
          simp only [Option.some.injEq] at e1 e2
          rw [e1, AVV_int] at hv
          rw [e2, AVV_int] at hv'
          cases hd : decide (0 ≤ (x : Int) ∧ (x : Int) ≤ y ∧ (y : Int) ≤ n) with
          | false => simp [hd] at hb
          | true =>
            rw [hd] at hb
            have hd := of_decide_eq_true hd
            obtain ⟨d1, d2, d3⟩ := hd
            have d4 : 0 ≤ (y : Int) := Int.le_trans d1 d2
            simp only [cond_true] at hb
            refine ⟨(x : Int).toNat, (y : Int).toNat, Int.toNat_le_toNat d2, Int.toNat_le.2 d3, hb, fun isS cap w hc => ?_⟩
            have h1 : 0 ≤ (y : Int) ∧ (y : Int) ≤ (cap : Int) := ⟨d4, Int.le_trans d3 (by omega)⟩
            have h2 : 0 ≤ (x : Int) ∧ (x : Int) ≤ (((y : Int).toNat : Nat) : Int) := ⟨d1, by rw [Int.toNat_of_nonneg d4]; exact d2⟩
            simp only [Option.map_some, hv, hv', Instr.sliceBounds, Sem.run_bind, Sem.run_pure, Result.andThen_ok, run_sliceBound h1, run_sliceBound h2]

theorem extract_arr (s : List UInt8) (l h : Nat) : (ByteArray.mk s.toArray).extract l h = ⟨((s.take h).drop l).toArray⟩ := by
  apply ByteArray.ext
  rw [ByteArray.data_extract]
  apply Array.ext'
  simp [List.drop_take]

theorem sound_slis (x : Opd) (lo hi : Option Opd) : Sound P (.slis x lo hi) := by
  intro c M μ G S a w nid o v u hp hm hr _
  generalize hq : o.op = q at hm
  cases q <;> simp only [mop, Bool.false_eq_true, Bool.and_eq_true] at hm
  rename_i t x' l h m
  obtain ⟨⟨⟨⟨ht, hmx⟩, h2⟩, h3⟩, h4⟩ := hm
  have hmx : m = none := by cases m <;> simp_all
  subst hmx
  have hx := mo_ok hp.glob hp.env h2
  have hu := isStr_ty ht
  simp only [aopO, aop] at hr
  split at hr
  case h_2 => cases hr
  rename_i s he
  rw [he, AVV_str] at hx
  obtain ⟨i, j, hij, hjn, hK, hrun⟩ := bnds_ok (P := P) hp.glob hp.env h3 h4 hr
  simp only [Option.some.injEq, Prod.mk.injEq] at hK
  obtain ⟨rfl, rfl⟩ := hK
  refine OpOk.same hp.hold (v' := .string ⟨((s.take j).drop i).toArray⟩) ?_ (AVV_str.2 rfl)
  have := hrun false (ByteArray.mk s.toArray).size w (by rw [size_arr]; exact Nat.le_refl _)
  simp only [execOp, hq, hx, Instr.sliceAt, Instr.slice, Sem.run_bind, run_underlying hu, Result.andThen_ok, Option.map_none, Option.isSome_none, Bool.false_eq_true, if_false, Sem.run_pure]
  rw [← size_arr s] at this
  simp only [this, Result.andThen_ok, extract_arr]

theorem RowC_take {α : Type} {R : α → List Value → Prop} {k : Nat} (hR : ∀ x c, R x c → c.length = k) : ∀ (xs : List α) (cs : List Value) (n : Nat), RowC R xs cs → RowC R (xs.take n) (cs.take (n * k))
  | [], cs, n, h => by
    simp only [RowC] at h
    subst h
    simp [RowC]
  | x :: xs, cs, 0, _ => by simp [RowC]
  | x :: xs, cs, n + 1, ⟨c1, c2, e, h1, h2⟩ => by
    subst e
    rw [List.take_succ_cons]
    refine ⟨c1, c2.take (n * k), ?_, h1, RowC_take hR xs c2 n h2⟩
    rw [Nat.succ_mul, List.take_append, hR _ _ h1, Nat.add_sub_cancel]
    rw [List.take_of_length_le (by rw [hR _ _ h1]; omega)]

theorem RowC_drop {α : Type} {R : α → List Value → Prop} {k : Nat} (hR : ∀ x c, R x c → c.length = k) : ∀ (xs : List α) (cs : List Value) (n : Nat), RowC R xs cs → RowC R (xs.drop n) (cs.drop (n * k))
  | [], cs, n, h => by
    simp only [RowC] at h
    subst h
    simp [RowC]
  | x :: xs, cs, 0, h => by simpa using h
  | x :: xs, cs, n + 1, ⟨c1, c2, e, h1, h2⟩ => by
    subst e
    have hd : c1.drop (n * k + k) = [] := List.drop_eq_nil_of_le (by rw [hR _ _ h1]; omega)
    rw [List.drop_succ_cons, Nat.succ_mul, List.drop_append, hR _ _ h1, Nat.add_sub_cancel, hd, List.nil_append]
    exact RowC_drop hR xs c2 n h2

theorem sound_slia (e : Ty) (x : Opd) (lo hi : Option Opd) : Sound P (.slia e x lo hi) := by
  intro c M μ G S a w nid o v u hp hm hr _
  generalize hq : o.op = q at hm
  cases q <;> simp only [mop, Bool.false_eq_true, Bool.and_eq_true] at hm
  rename_i t x' l h m
  obtain ⟨⟨⟨⟨ht, hmx⟩, h2⟩, h3⟩, h4⟩ := hm
  have hmx : m = none := by cases m <;> simp_all
  subst hmx
  have hx := mo_ok hp.glob hp.env h2
  split at ht
  case h_2 => cases ht
  rename_i et hsl
  have hu := slOf_ty hsl
  obtain ⟨inf, z, hinf, hsz, hpos, hby, hz, hzc⟩ := elOk_ty ht
  simp only [aopO, aop] at hr
  split at hr
  case h_2 => cases hr
  rename_i xs d hxs
  obtain ⟨i, j, hij, hjn, hK, hrun⟩ := bnds_ok (P := P) hp.glob hp.env h3 h4 hr
  simp only [Option.some.injEq, Prod.mk.injEq] at hK
  obtain ⟨rfl, rfl⟩ := hK
  obtain ⟨M', l1, H1, cs, ⟨ad, cap, rfl, es, hrow, hM, hcap⟩, hv⟩ := toTF_AVV hxs hp.hold hx
  have hv : a.eval x' = .slice ad xs.length cap := by simpa [VofC, Ty.isAgg] using hv.symm
  have hlen : ((xs.take j).drop i).length = j - i := by simp; omega
  have hE' : ∀ cap', xs.length ≤ cap' → (Instr.sliceBounds true xs.length cap' (l.map a.eval) (h.map a.eval) none).run P w = .ok (i, j, cap') w := fun cap' hc => hrun true cap' w hc
  have hrow' : RowC (TC M' e) ((xs.take j).drop i) ((es.take (j * e.n)).drop (i * e.n)) := RowC_drop (fun _ _ h => TC.length h) _ _ _ (RowC_take (fun _ _ h => TC.length h) _ _ _ hrow)
  have fin : ∀ (ad' : Option Addr) (cap' : Nat), j - i ≤ cap' → (((xs.take j).drop i) = [] ∨ ∃ b o1, ad' = some ⟨b, o1, none⟩ ∧ ∀ q v, ((es.take (j * e.n)).drop (i * e.n))[q]? = some v → M' b (o1 + q) = some v) →
      (execOp a.eval o).run P w = .ok (.value (.slice ad' (j - i) cap')) w → OpOk c M μ S.H nid ((execOp a.eval o).run P w) (.tv (.sl e) ((xs.take j).drop i)) ⟨d, 0⟩ := by
    intro ad' cap' hc' hM' hr'
    refine ⟨M', μ, _, w, .inl hr', l1, Map.le.refl _, H1, AVV_tv.2 ⟨_, ⟨ad', cap', rfl, _, hrow', hM', by rw [hlen]; exact hc'⟩, ?_⟩, fun _ h => .inl h⟩
    simp only [VofC, Ty.isAgg, cond_false, hlen]
  have hrun' : (execOp a.eval o).run P w = .ok (.value (.slice (if cap = i then ad else ad.map (·.add (i * e.n))) (j - i) (cap - i))) w := by
    simp only [execOp, hq, hv, Instr.sliceAt, Instr.slice, Sem.run_bind, run_underlying hu, Result.andThen_ok, Option.map_none, hE' cap hcap, run_sizeOf hinf, hsz, Sem.run_pure]
  by_cases hci : cap = i
  · rw [if_pos hci] at hrun'
    refine fin _ _ (by omega) (.inl ?_) hrun'
    apply List.eq_nil_of_length_eq_zero
    rw [hlen]; omega
  · rw [if_neg hci] at hrun'
    refine fin _ _ (by omega) ?_ hrun'
    rcases hM with rfl | ⟨b, o1, rfl, hM⟩
    · left; simp
    · right
      refine ⟨b, o1 + i * e.n, by simp [Addr.add_mid], ?_⟩
      intro q v hqv
      have hk : q < ((es.take (j * e.n)).drop (i * e.n)).length := (List.getElem?_eq_some_iff.1 hqv).1
      rw [List.getElem?_drop, List.getElem?_take] at hqv
      split at hqv
      · have := hM _ _ hqv
        rwa [← Nat.add_assoc] at this
      · cases hqv

theorem setCells_heap (b : Nat) : ∀ (new : List Value) (w : World) (pre old post : List Value) (T : TypeId) (fr : Nat × Nat), w.heap[b]? = some (.cells (pre ++ old ++ post).toArray T fr) → old.length = new.length →
    (w.setCells b pre.length new).heap[b]? = some (.cells (pre ++ new ++ post).toArray T fr)
  | [], w, pre, old, post, T, fr, h, hl => by
    have : old = [] := List.eq_nil_of_length_eq_zero (by simpa using hl)
    subst this
    exact h
  | v :: new, w, pre, old, post, T, fr, h, hl => by
    match old, hl with
    | x :: old, hl =>
      have hset : (w.setCell ⟨b, pre.length, none⟩ v).heap[b]? = some (.cells ((pre ++ [v]) ++ old ++ post).toArray T fr) := by
        simp only [World.setCell, Array.getElem?_modify, if_true, h, Option.map_some]
        simp
      have := setCells_heap b new _ (pre ++ [v]) old post T fr hset (by simpa using hl)
      rw [World.setCells]
      simp only [List.length_append, List.length_cons, List.length_nil, Nat.zero_add] at this
      rw [this]
      simp

theorem setCells_writes (b : Nat) : ∀ (new : List Value) (o : Nat) (w : World), Writes w (w.setCells b o new) b
  | [], _, w => ⟨rfl, rfl, rfl, rfl, fun _ _ => rfl, fun _ => rfl⟩
  | v :: new, o, w => by
    have h := setCells_writes b new (o + 1) (w.setCell ⟨b, o, none⟩ v)
    exact ⟨h.os, h.tape, h.output, h.size.trans (by simp), fun k hk => (h.other k hk).trans (Go.RowKit.Below.heap_setCell w ⟨b, o, none⟩ v k hk), fun a => (h.fz a).trans (by simp)⟩

theorem run_storeVar_any {t : TypeId} {i : TypeInfo} (hi : P.info? t = some i) {w : World} {b o : Nat} {v : Value} {cs : List Value} (hv : v.cells.toList = cs) (hs : cs.length = i.size) (h1 : oneC cs) (hc : ∀ j, j < cs.length → (w.cell? ⟨b, o + j, none⟩).isSome = true) (hf : ∀ j, j < cs.length → w.frozen? ⟨b, o + j, none⟩ = false) :
    (Instr.storeAt t (.pointer (some ⟨b, o, none⟩)) v).run P w = .ok () (w.setCells b o cs) := by
  have := run_storeCells_cells (P := P) b o cs 0 w (by simpa using hc) (by simpa using hf) h1
  simp only [Nat.add_zero] at this
  have hsz : v.cells.size = i.size := by rw [← Array.length_toList, hv, hs]
  have hne : ¬ (v.cells.size ≠ i.size) := by simp [hsz]
  simp only [Instr.storeAt, Instr.sureAddr, storeVar, Sem.run_bind, Sem.run_pure, Result.andThen_ok, run_sizeOf hi, hne, if_false, hv, this]

/-- A write into a block of cells that is known: it is there, it is free. -/
theorem block_there {w : World} {b : Nat} {cs : List Value} {T : TypeId} (h : w.heap[b]? = some (.cells cs.toArray T (0, 0))) {o n : Nat} (hn : o + n ≤ cs.length) : (∀ j, j < n → (w.cell? ⟨b, o + j, none⟩).isSome = true) ∧ ∀ j, j < n → w.frozen? ⟨b, o + j, none⟩ = false := by
  refine ⟨fun j hj => ?_, fun j hj => ?_⟩
  · rw [cell_of_heap h]
    rw [List.getElem?_toArray, List.getElem?_eq_getElem (by omega)]
    rfl
  · simp [World.frozen?, h]

theorem writeAt_ok {c : Ctx} {M : Mem} {μ : Map} {H : Hp} {w : World} (hH : Hold c M μ H w) {a v : AV} {va : Value} (ha : AVV M μ a va) {id : Nat} {k : Blk} (hw : writeAt H a v = some (id, k)) {cs : List Value} (hv : AVC M μ v cs) :
    ∃ b o, va = .pointer (some ⟨b, o, none⟩) ∧ (∀ j, j < cs.length → (w.cell? ⟨b, o + j, none⟩).isSome = true) ∧ (∀ j, j < cs.length → w.frozen? ⟨b, o + j, none⟩ = false) ∧ Hold c M μ ((id, some k) :: H) (w.setCells b o cs) := by
  unfold writeAt at hw
  split at hw
  case h_2 => cases hw
  rename_i i p
  rw [AVV_ptr] at ha
  obtain ⟨l, b, hl, hb, hva, hs, hh⟩ := ha
  split at hw
  · rename_i u hu
    obtain ⟨l', hl', hbr⟩ := hH.blks i _ hu
    rw [hl] at hl'
    cases hl'
    cases l with
    | row b' len cap => cases b' <;> exact hbr.elim
    | obj b' => exact hbr.elim
    | box b' =>
      simp only [Loc.blk, Option.some.injEq] at hb
      subst hb
      obtain ⟨cells, T, hc, hav⟩ := hbr
      split at hw
      case h_2 => cases hw
      rename_i old u' hold hu'
      cases hn : Nat.beq v.nsz old.nsz with
      | false => rw [hn] at hw; simp at hw
      | true =>
        rw [hn] at hw
        have hn := Nat.eq_of_beq_eq_true hn
        simp only [cond_true, Option.some.injEq, Prod.mk.injEq] at hw
        obtain ⟨rfl, rfl⟩ := hw
        obtain ⟨pre, mid, post, e, hpl, hmid, hset⟩ := (pathGet_focus p u old cells.toList hs hold hav).split
        have hml : mid.length = cs.length := by rw [hmid.length, hv.length, hn]
        have hc' : w.heap[b']? = some (.cells (pre ++ mid ++ post).toArray T (0, 0)) := by
          rw [hc]; congr 2; apply Array.ext'; rw [e]
        have hth := block_there hc' (o := pre.length) (n := cs.length) (by simp [hml])
        rw [hpl] at hth
        refine ⟨b', pathOff p, hva, hth.1, hth.2, ?_⟩
        refine hH.write hu hl rfl (setCells_writes b' cs (pathOff p) w) ?_ ?_
        · have := setCells_heap b' cs w pre mid post T (0, 0) hc' hml
          rw [hpl] at this
          exact ⟨_, T, this, by simpa using hset v cs hv hn u' hu'⟩
        · intro o1 v1 hv1
          obtain ⟨_, _, h1, _⟩ := hH.exc i _ _ b' o1 v1 hu hl rfl hv1
          cases h1
  · rename_i e xs hu
    split at hw
    case h_2 => cases hw
    rename_i i1 n sz r
    cases hsz : Nat.beq e.n sz with
    | false => rw [hsz] at hw; simp at hw
    | true =>
      rw [hsz] at hw
      have hsz := Nat.eq_of_beq_eq_true hsz
      simp only [cond_true] at hw
      split at hw
      case h_2 => cases hw
      rename_i old e' y hold hset'
      cases hn : Nat.beq v.nsz old.nsz with
      | false => rw [hn] at hw; simp at hw
      | true =>
        rw [hn] at hw
        have hn := Nat.eq_of_beq_eq_true hn
        simp only [cond_true] at hw
        split at hw
        case isFalse => cases hw
        rename_i he
        subst he
        simp only [Option.some.injEq, Prod.mk.injEq] at hw
        obtain ⟨rfl, rfl⟩ := hw
        obtain ⟨l', hl', hbr⟩ := hH.blks i _ hu
        rw [hl] at hl'
        cases hl'
        cases l with
        | box b' => exact hbr.elim
        | obj b' => exact hbr.elim
        | row b' len cap =>
          simp only [Loc.blk] at hb
          subst hb
          obtain ⟨cells, T, hc, hlen, hle, hcap, hcs, hone, hrow⟩ := hbr
          have hi : i1 < n := hs (Step.idx i1 n sz) (by simp)
          have hn' : n ≤ len := hh
          obtain ⟨pre, mid, post, e3, hp, hmid, hset⟩ := RowC.focus (fun _ _ h => TC.length h) e'.zero xs _ i1 hrow (by omega)
          obtain ⟨pre2, mid2, post2, e4, hp2, hmid2, hset2⟩ := (pathGet_focus (M := M) (μ := μ) r _ old mid (fun s hs' => hs s (by simp [hs'])) hold (by simpa only [AVC] using hmid)).split
          have hml : mid2.length = cs.length := by rw [hmid2.length, hv.length, hn]
          have hall : cells.toList = (pre ++ pre2) ++ mid2 ++ (post2 ++ post ++ cells.toList.drop (len * e'.n)) := by
            have h0 := (List.take_append_drop (len * e'.n) cells.toList).symm
            rw [e3] at h0
            exact h0.trans (by rw [e4]; simp)
          have hc' : w.heap[b]? = some (.cells ((pre ++ pre2) ++ mid2 ++ (post2 ++ post ++ cells.toList.drop (len * e'.n))).toArray T (0, 0)) := by
            rw [hc]; congr 2; apply Array.ext'; simpa using hall
          have hoff : (pre ++ pre2).length = pathOff (Step.idx i1 n sz :: r) := by
            simp only [pathOff, Step.off, List.length_append]
            rw [hp, hp2, hsz]
          have hth := block_there hc' (o := (pre ++ pre2).length) (n := cs.length) (by simp [hml]; omega)
          rw [hoff] at hth
          refine ⟨b, _, hva, hth.1, hth.2, ?_⟩
          refine hH.write hu hl rfl (setCells_writes b cs _ w) ?_ ?_
          · have hnew := setCells_heap b cs w (pre ++ pre2) mid2 _ T (0, 0) hc' hml
            rw [hoff] at hnew
            have hy : TC M e' y (pre2 ++ cs ++ post2) := by simpa only [AVC] using hset2 v cs hv hn _ hset'
            have hxs := hset y _ hy
            have htl : (pre ++ (pre2 ++ cs ++ post2) ++ post).length = len * e'.n := by
              rw [RowC.length (fun _ _ h => TC.length h) hxs, List.length_set, hlen]
            have hsz1 : cells.size = (pre ++ pre2 ++ mid2 ++ (post2 ++ post ++ cells.toList.drop (len * e'.n))).length := by rw [← hall]; simp
            refine ⟨_, T, hnew, by simpa using hlen, hle, hcap, ?_, ?_, ?_⟩
            · rw [← hcs, hsz1]
              simp [hml]
            · have hone' : oneC (cells.toList.drop (len * e'.n)) := fun v hv => hone v (List.mem_of_mem_drop hv)
              have := (RowC.one (fun _ _ h => TC.one h) hxs).append hone'
              simpa [List.append_assoc] using this
            · have : ((pre ++ pre2 ++ cs ++ (post2 ++ post ++ cells.toList.drop (len * e'.n))).toArray.toList).take (len * e'.n) = pre ++ (pre2 ++ cs ++ post2) ++ post := by
                have h1 : pre ++ pre2 ++ cs ++ (post2 ++ post ++ cells.toList.drop (len * e'.n)) = (pre ++ (pre2 ++ cs ++ post2) ++ post) ++ cells.toList.drop (len * e'.n) := by simp
                rw [List.toList_toArray, h1, ← htl]
                exact List.take_left
              rw [this]
              exact hxs
          · intro o1 v1 hv1
            obtain ⟨_, _, h1, _⟩ := hH.exc i _ _ b o1 v1 hu hl rfl hv1
            cases h1
  · cases hw

theorem sound_store (n : Nat) (cv : Option Ty) (x y : Opd) : Sound P (.store n cv x y) := by
  intro c M μ G S a w nid o v u hp hm hr _
  generalize hq : o.op = q at hm
  cases q <;> simp only [mop, Bool.false_eq_true, Bool.and_eq_true] at hm
  rename_i t x' y'
  obtain ⟨⟨⟨ht, hn⟩, h2⟩, h3⟩ := hm
  have hx := mo_ok hp.glob hp.env h2
  have hy := mo_ok hp.glob hp.env h3
  obtain ⟨_, inf, _, hinf⟩ := hasTy_ty ht
  have hsz : inf.size = n := by
    have := Nat.eq_of_beq_eq_true hn
    simpa [Program.cellsOf, hinf] using this
  simp only [aopO, aop] at hr
  cases cv with
  | none =>
    simp only at hr
    cases hb : ((ev G S y).live && Nat.beq (ev G S y).nsz n) with
    | false => rw [hb] at hr; simp at hr
    | true =>
      rw [hb] at hr
      simp only [Bool.and_eq_true] at hb
      have hnn := Nat.eq_of_beq_eq_true hb.2
      simp only [cond_true] at hr
      split at hr
      case h_2 => cases hr
      rename_i id k hw
      simp only [Option.some.injEq, Prod.mk.injEq] at hr
      obtain ⟨rfl, rfl⟩ := hr
      obtain ⟨cs, hc, hvc⟩ := AVV_live hy hb.1
      obtain ⟨b, o1, hva, hth, hfz, hH⟩ := writeAt_ok hp.hold hx hw hc
      refine ⟨M, μ, undef, _, .inr ⟨?_, rfl⟩, Mem.le.refl _, Map.le.refl _, hH, trivial, fun _ h => .inl h⟩
      simp only [execOp, hq, hva, Sem.run_bind, run_storeVar_any hinf (hvc.cells hc.one) (by rw [hc.length, hnn, hsz]) hc.one hth hfz, Result.andThen_ok, Sem.run_pure]
  | some τ =>
    simp only at hr
    split at hr
    case h_2 => cases hr
    rename_i y1 d hy1
    cases hb : Nat.beq τ.n n with
    | false => rw [hb] at hr; simp at hr
    | true =>
      rw [hb] at hr
      have hnn := Nat.eq_of_beq_eq_true hb
      simp only [cond_true] at hr
      split at hr
      case h_2 => cases hr
      rename_i id k hw
      simp only [Option.some.injEq, Prod.mk.injEq] at hr
      obtain ⟨rfl, rfl⟩ := hr
      obtain ⟨M1, l1, H1, cs, hc, hvc⟩ := toTF_AVV hy1 hp.hold hy
      obtain ⟨b, o1, hva, hth, hfz, hH⟩ := writeAt_ok H1 (hx.mono l1 (Map.le.refl _)) hw (v := .tv τ y1) (by simpa only [AVC] using hc)
      refine ⟨M1, μ, undef, _, .inr ⟨?_, rfl⟩, l1, Map.le.refl _, hH, trivial, fun _ h => .inl h⟩
      simp only [execOp, hq, hva, Sem.run_bind, run_storeVar_any hinf (hvc.cells hc.one) (by rw [hc.length, hnn, hsz]) hc.one hth hfz, Result.andThen_ok, Sem.run_pure]

end
end Go.Av

/-
  Each operation of the abstract machine is the machine's: append; a text, sign by sign.
-/
namespace Go.Av
section
variable {P : Program}

/-- A block that no living number has any more is written. -/
theorem Hold.poke {c : Ctx} {M : Mem} {μ : Map} {H : Hp} {w w' : World} (h : Hold c M μ H w) {b : Nat} (hw : Writes w w' b) (hn : ∀ i k l, hget H i = some k → μ i = some l → l.blk ≠ some b) (hm : c.may b) (hM : ∀ o v, M b o = some v → w'.cell? ⟨b, o, none⟩ = some v) :
    Hold c M μ H w' where
  mem b' o v hv := by
    by_cases e : b' = b
    · subst e; exact hM o v hv
    · rw [cell_heap (hw.other b' e)]; exact h.mem b' o v hv
  blks i k hk := by
    obtain ⟨l, hl, hb⟩ := h.blks i k hk
    refine ⟨l, hl, hb.mono (Mem.le.refl _) (Map.le.refl _) fun b' hb' => hw.other b' ?_⟩
    intro e
    subst e
    exact hn i k l hk hl hb'
  inj := h.inj
  exc := h.exc
  own := h.own
  mle := h.mle
  mown := h.mown
  fz a := (hw.fz a).trans (h.fz a)
  os := hw.os.trans h.os
  tape := hw.tape.trans h.tape
  output := hw.output.trans h.output
  size := by rw [hw.size]; exact h.size
  frame b' hb' hno := by
    have hne : b' ≠ b := by
      intro e
      subst e
      rcases hm with ho | ho
      · exact hno ho
      · omega
    rw [hw.other b' hne]
    exact h.frame b' hb' hno

theorem RowC_append {α : Type} {R : α → List Value → Prop} : ∀ {xs ys : List α} {a b : List Value}, RowC R xs a → RowC R ys b → RowC R (xs ++ ys) (a ++ b)
  | [], ys, a, b, h1, h2 => by simp only [RowC] at h1; subst h1; exact h2
  | x :: xs, ys, a, b, ⟨c1, c2, e, h1, h2⟩, h3 => by
    subst e
    exact ⟨c1, c2 ++ b, by simp, h1, RowC_append h2 h3⟩

theorem byteCells_row {M : Mem} : ∀ s : List UInt8, RowC (TC M (.int .u8)) (s.map fun (b : UInt8) => (b.toNat : Int)) (s.map fun b => Value.int .u8 b.toNat)
  | [] => rfl
  | b :: s => ⟨[.int .u8 b.toNat], s.map fun b => Value.int .u8 b.toNat, rfl, rfl, byteCells_row s⟩

/-- What an append is handed, in the machine. -/
theorem src_ok {c : Ctx} {M : Mem} {μ : Map} {H : Hp} {w : World} (hH : Hold c M μ H w) {e : Ty} {i : Nat} {y : AV} {ys : List e.T} (hs : srcOf e H i y = some ys) {v : Value} (hv : AVV M μ y v) {tx : TypeId} (hk : (∃ e', P.underlying tx = some (.slice e')) ∨ P.underlying tx = some .string) :
    ∃ news, Src P e.n tx v ys.length news w ∧ RowC (TC M e) ys news := by
  have nil : ∀ cap, Src P e.n tx (.slice none 0 cap) 0 [] w := fun cap => ⟨hk, fun _ => rfl, run_firstCells_none w _ 0 0 cap, run_firstCells_none w.drew _ 0 0 cap, by simp, fun _ h => by cases h⟩
  have some_ : ∀ (ad : Addr) (cap n : Nat) (es : List Value), es.length = n * e.n → oneC es → (∀ j u, es[j]? = some u → w.cell? (ad.add j) = some u) → Src P e.n tx (.slice (some ad) n cap) n es w :=
    fun ad cap n es hl h1 hc => ⟨hk, fun _ => rfl, run_firstCells_some w _ n ad n cap es hl hc, run_firstCells_some w.drew _ n ad n cap es hl (by simpa using hc), hl, h1⟩
  unfold srcOf at hs
  split at hs
  · rename_i e' ys'
    split at hs
    case isFalse => cases hs
    rename_i he
    subst he
    simp only [Option.some.injEq] at hs
    subst hs
    rw [AVV_tv] at hv
    obtain ⟨cs, ⟨ad, cap, rfl, es, hrow, hM, hcap⟩, hv⟩ := hv
    have hv : v = .slice ad ys'.length cap := by simpa [VofC, Ty.isAgg] using hv.symm
    subst hv
    rcases hM with rfl | ⟨b, o1, rfl, hM⟩
    · simp only [RowC] at hrow
      cases ad with
      | none => exact ⟨[], nil cap, rfl⟩
      | some ad => exact ⟨[], some_ ad cap 0 [] (by simp) oneC.nil (by simp), rfl⟩
    · exact ⟨es, some_ _ cap _ es (RowC.length (fun _ _ h => TC.length h) hrow) (RowC.one (fun _ _ h => TC.one h) hrow) (cells_of_M hH.mem hM), hrow⟩
  · rename_i b0 e' ys'
    split at hs
    case isFalse => cases hs
    rename_i he
    subst he
    simp only [Option.some.injEq] at hs
    subst hs
    obtain ⟨cs, ⟨⟨ad, cap, rfl, es, hrow, hM, hcap⟩, _⟩, hv⟩ := hv
    have hv : v = .slice ad ys'.length cap := by simpa [VofC, AV.isAgg] using hv.symm
    subst hv
    rcases hM with rfl | ⟨b, o1, rfl, hM⟩
    · simp only [RowC] at hrow
      cases ad with
      | none => exact ⟨[], nil cap, rfl⟩
      | some ad => exact ⟨[], some_ ad cap 0 [] (by simp) oneC.nil (by simp), rfl⟩
    · exact ⟨es, some_ _ cap _ es (RowC.length (fun _ _ h => TC.length h) hrow) (RowC.one (fun _ _ h => TC.one h) hrow) (cells_of_M hH.mem hM), hrow⟩
  · rename_i s
    split at hs
    case isFalse => cases hs
    rename_i he
    subst he
    simp only [Option.some.injEq] at hs
    subst hs
    rw [AVV_str] at hv
    subst hv
    refine ⟨byteCells ⟨s.toArray⟩, ?_, ?_⟩
    · have hlen : (s.map fun (b : UInt8) => (b.toNat : Int)).length = (ByteArray.mk s.toArray).size := by rw [size_arr]; simp
      show Src P 1 tx _ (s.map fun (b : UInt8) => (b.toNat : Int)).length _ w
      rw [hlen]
      exact ⟨hk, fun _ => rfl, firstCells_string _ w, firstCells_string _ w.drew, by rw [byteCells_length, Nat.mul_one], fun u hu => by
        obtain ⟨_, _, rfl⟩ := List.mem_map.1 hu
        rfl⟩
    · exact byteCells_row s
  · rename_i j
    cases hij : Nat.beq i j with
    | true => rw [hij] at hs; simp at hs
    | false =>
      rw [hij] at hs
      simp only [cond_false] at hs
      split at hs
      case h_2 => cases hs
      rename_i e' ys' fz hj
      split at hs
      case isFalse => cases hs
      rename_i he
      subst he
      simp only [Option.some.injEq] at hs
      subst hs
      rw [AVV_row] at hv
      obtain ⟨bo, len, cap, hl, rfl⟩ := hv
      obtain ⟨l, hl', hbr⟩ := hH.blks j _ hj
      rw [hl] at hl'
      cases hl'
      cases bo with
      | none =>
        obtain ⟨rfl, rfl, rfl⟩ := hbr
        exact ⟨[], nil 0, rfl⟩
      | some b =>
        obtain ⟨cs, T, hc, hlen, hle, hcap, hcs, hone, hrow⟩ := hbr
        refine ⟨_, ?_, hrow⟩
        rw [hlen]
        refine some_ ⟨b, 0, none⟩ cap len _ (by rw [RowC.length (fun _ _ h => TC.length h) hrow, hlen]) (RowC.one (fun _ _ h => TC.one h) hrow) ?_
        intro q u hq
        rw [Addr.add_mid, cell_of_heap hc, ← Array.getElem?_toList]
        rw [List.getElem?_take] at hq
        split at hq
        · simpa using hq
        · cases hq
  · cases hs

theorem zeroCells_one {z : Array Value} (h : oneC z.toList) (n : Nat) : oneC (Builtin.zeroCells z n).toList := by
  intro v hv
  unfold Builtin.zeroCells at hv
  simp only [Array.toList_map, Array.toList_range, List.mem_map, List.mem_range] at hv
  obtain ⟨i, hi, rfl⟩ := hv
  by_cases h0 : z.size = 0
  · rw [h0] at hi; simp at hi
  · have hlt : i % z.size < z.size := Nat.mod_lt _ (by omega)
    rw [getElem!_pos z _ hlt]
    exact h _ (by simp)

theorem sound_app (e : Ty) (x y : Opd) : Sound P (.app e x y) := by
  intro c M μ G S a w nid o v u hp hm hr hfr
  generalize hq : o.op = q at hm
  cases q <;> simp only [mop, Bool.false_eq_true] at hm
  rename_i cl
  split at hm
  case h_2 => cases hm
  rename_i x' y' t tx hc1 hc2 hc3
  simp only [Bool.and_eq_true, Bool.or_eq_true] at hm
  obtain ⟨⟨⟨hsl, hkind⟩, h2⟩, h3⟩ := hm
  have hx := mo_ok hp.glob hp.env h2
  have hy := mo_ok hp.glob hp.env h3
  have hargs := arr2 hc2
  have htys := arr2 hc3
  obtain ⟨cs0, hcall⟩ := call_builtin (P := P) (a := a) hq hc1
  split at hsl
  case h_2 => cases hsl
  rename_i et hslt
  have ht := slOf_ty hslt
  obtain ⟨inf, z, hinf, hsz, hpos, hby, hz, hzc⟩ := elOk_ty hsl
  have hk : (∃ e', P.underlying tx = some (.slice e')) ∨ P.underlying tx = some .string := by
    rcases hkind with h | h
    · obtain ⟨e', he'⟩ := Option.isSome_iff_exists.1 h
      exact .inl ⟨e', slOf_ty he'⟩
    · exact .inr (isStr_ty h)
  simp only [aopO, aop] at hr
  split at hr
  case h_2 => cases hr
  rename_i i hei
  split at hr
  case h_2 => cases hr
  rename_i e' xs fz hHi
  split at hr
  case isFalse => cases hr
  rename_i he
  subst he
  split at hr
  case h_2 => cases hr
  rename_i ys hys
  cases hb : decide (xs.length + ys.length ≤ rowMax) with
  | false => rw [hb] at hr; simp at hr
  | true =>
    rw [hb] at hr
    have hmax : xs.length + ys.length ≤ rowMax := of_decide_eq_true hb
    simp only [cond_true, Option.some.injEq, Prod.mk.injEq] at hr
    obtain ⟨rfl, rfl⟩ := hr
    have hn : μ nid = none := hfr nid (Nat.le_refl _) (by simp)
    obtain ⟨news, hsrc, hnrow⟩ := src_ok (P := P) hp.hold hys hy hk
    rw [← hsz] at hsrc
    rw [hei, AVV_row] at hx
    obtain ⟨bo, len, cap, hl, hv⟩ := hx
    obtain ⟨l, hl', hbr⟩ := hp.hold.blks i _ hHi
    rw [hl] at hl'
    cases hl'
    have hrun : ∀ {v' w'}, (Builtin.append_ #[t, tx] o.type #[.slice (bo.map fun b => ⟨b, 0, none⟩) len cap, a.eval y']).run P w = .ok v' w' → (execOp a.eval o).run P w = .ok (.value v') w' := by
      intro v' w' h
      rw [hcall, hargs, htys]
      simp only [builtin, List.map_toArray, List.map_cons, List.map_nil, hv, Sem.run_bind, h, Result.andThen_ok, Sem.run_pure]
    have fin : ∀ {v' w' l'}, (execOp a.eval o).run P w = .ok (.value v') w' → Hold c M (μ.ins nid l') ((nid, some (.row e' (xs ++ ys) fz)) :: (i, none) :: S.H) w' → AVV M (μ.ins nid l') (.row nid) v' →
        OpOk c M μ S.H nid ((execOp a.eval o).run P w) (.row nid) ⟨[(nid, some (.row e' (xs ++ ys) fz)), (i, none)], 1⟩ := by
      intro v' w' l' h1 h2 h3
      refine ⟨M, μ.ins nid l', v', w', .inl h1, Mem.le.refl _, Map.le_ins hn, h2, h3, ?_⟩
      intro j hj
      by_cases e : j = nid
      · subst e; right; simp
      · rw [Map.ins_other _ _ _ e] at hj; exact .inl hj
    have hdrop := hp.hold.drop i
    have hne : i ≠ nid := fun e => by rw [e, hn] at hl; cases hl
    have hzs : z.cells.size = inf.size := by rw [← Array.length_toList, hzc, zc_length, hsz]
    have hrm : rowMax = 1073741824 := rfl
    by_cases hroom : len + ys.length ≤ cap
    · cases bo with
      | none =>
        obtain ⟨rfl, rfl, rfl⟩ := hbr
        have hy0 : ys = [] := List.eq_nil_of_length_eq_zero (by omega)
        subst hy0
        simp only [RowC] at hnrow
        subst hnrow
        have := run_append_nothing (P := P) w t tx o.type et inf ht hinf none 0 0 (Nat.le_refl _) _ hsrc
        refine fin (l' := .row none 0 0) (hrun this) ?_ (AVV_row.2 ⟨none, 0, 0, Map.ins_same _ _ _, rfl⟩)
        exact hdrop.add hn ⟨rfl, rfl, rfl⟩ (by intro b hb; cases hb)
      | some b =>
        obtain ⟨cs, T, hc, hlen, hle, hcap, hcs, hone, hrow⟩ := hbr
        have hnl : news.length = ys.length * e'.n := RowC.length (fun _ _ h => TC.length h) hnrow
        have hcl : cs.size = cs.toList.length := by simp
        have hfit : len * e'.n + news.length ≤ cs.size := by rw [hnl, hcs, ← Nat.add_mul]; exact Nat.mul_le_mul_right _ hroom
        have hall : cs.toList = cs.toList.take (len * e'.n) ++ (cs.toList.drop (len * e'.n)).take news.length ++ cs.toList.drop (len * e'.n + news.length) := by
          rw [List.append_assoc, ← List.drop_drop, List.take_append_drop, List.take_append_drop]
        have hc' : w.heap[b]? = some (.cells (cs.toList.take (len * e'.n) ++ (cs.toList.drop (len * e'.n)).take news.length ++ cs.toList.drop (len * e'.n + news.length)).toArray T (0, 0)) := by
          rw [hc]; congr 2; apply Array.ext'; simpa using hall
        have hpl : (cs.toList.take (len * e'.n)).length = len * e'.n := by simp; omega
        have hml : ((cs.toList.drop (len * e'.n)).take news.length).length = news.length := by simp; omega
        have hth := block_there hc' (o := len * e'.n) (n := news.length) (by rw [← hall]; simp; omega)
        have hap := run_append_room_src (P := P) w t tx o.type et inf ht hinf b 0 len cap _ ys.length news hsrc hroom (by rw [hsz, Nat.zero_add]; exact hth.1) (by rw [hsz, Nat.zero_add]; exact hth.2)
        rw [hsz, Nat.zero_add] at hap
        have hw := setCells_writes b news (len * e'.n) w
        have hheap := setCells_heap b news w _ _ _ T (0, 0) hc' hml
        rw [hpl] at hheap
        have hmay : c.may b := hp.hold.own i _ _ b hHi hl rfl
        have hM : ∀ o1 v1, M b o1 = some v1 → (w.setCells b (len * e'.n) news).cell? ⟨b, o1, none⟩ = some v1 ∧ fz = true ∧ o1 < len * e'.n := by
          intro o1 v1 hv1
          obtain ⟨e2, xs2, h5, h6⟩ := hp.hold.exc i _ _ b o1 v1 hHi hl rfl hv1
          cases h5
          rw [hlen] at h6
          refine ⟨?_, rfl, h6⟩
          rw [World.cell?_setCells_out b news _ w ⟨b, o1, none⟩ (fun _ _ => .inl h6)]
          exact hp.hold.mem b o1 v1 hv1
        have hoth : ∀ j k l', hget ((i, none) :: S.H) j = some k → μ j = some l' → l'.blk ≠ some b := by
          intro j k l' hj hl' hbl
          rw [hget_cons] at hj
          split at hj
          · cases hj
          · rename_i hij
            exact hij (hp.hold.inj i j _ k _ l' b hHi hj hl hl' rfl hbl)
        have hpk := hdrop.poke hw hoth hmay (fun o1 v1 h => (hM o1 v1 h).1)
        refine fin (l' := .row (some b) (len + ys.length) cap) (hrun hap) ?_ (AVV_row.2 ⟨some b, _, _, Map.ins_same _ _ _, rfl⟩)
        refine hpk.add hn ?_ ?_
        · refine ⟨_, T, hheap, by simp [hlen], hroom, hcap, ?_, ?_, ?_⟩
          · simp only [List.size_toArray, List.length_append, hpl, List.length_drop, Array.length_toList]
            omega
          · have h1 : oneC (cs.toList.take (len * e'.n)) := fun v hv => hone v (List.mem_of_mem_take hv)
            have h2 : oneC (cs.toList.drop (len * e'.n + news.length)) := fun v hv => hone v (List.mem_of_mem_drop hv)
            exact (h1.append (RowC.one (fun _ _ h => TC.one h) hnrow)).append h2
          · have h1 : (((cs.toList.take (len * e'.n) ++ news ++ cs.toList.drop (len * e'.n + news.length)).toArray).toList).take ((len + ys.length) * e'.n) = cs.toList.take (len * e'.n) ++ news := by
              rw [List.toList_toArray]
              exact List.take_left' (by rw [List.length_append, hpl, hnl, Nat.add_mul])
            rw [h1]
            exact RowC_append hrow hnrow
        · intro b' hb'
          simp only [Loc.blk, Option.some.injEq] at hb'
          subst hb'
          refine ⟨hoth, hmay, fun o1 v1 hv1 => ?_⟩
          obtain ⟨_, h5, h6⟩ := hM o1 v1 hv1
          subst h5
          refine ⟨e', xs ++ ys, rfl, ?_⟩
          have : len * e'.n ≤ (xs ++ ys).length * e'.n := Nat.mul_le_mul_right _ (by simp; omega)
          omega
    · have hlen : xs.length = len := by
        cases bo with
        | none => obtain ⟨rfl, rfl, _⟩ := hbr; rfl
        | some b => obtain ⟨_, _, _, h, _⟩ := hbr; exact h
      obtain ⟨olds, hold, horow⟩ : ∃ olds, (Builtin.firstCells inf.size len (.slice (bo.map fun b => ⟨b, 0, none⟩) len cap)).run P w.drew = .ok olds.toArray w.drew ∧ RowC (TC M e') xs olds := by
        cases bo with
        | none =>
          obtain ⟨rfl, rfl, rfl⟩ := hbr
          exact ⟨[], run_firstCells_none w.drew _ _ _ _, rfl⟩
        | some b =>
          obtain ⟨cs, T, hc, hlen, hle, hcap, hcs, hone, hrow⟩ := hbr
          refine ⟨_, run_firstCells_some w.drew inf.size len ⟨b, 0, none⟩ len cap _ (by rw [RowC.length (fun _ _ h => TC.length h) hrow, hlen, hsz]) ?_, hrow⟩
          intro q u hq
          rw [Addr.add_mid, World.cell?_drew, cell_of_heap hc, ← Array.getElem?_toList]
          rw [List.getElem?_take] at hq
          split at hq
          · simpa using hq
          · cases hq
      have hg : cap < len + ys.length := by omega
      have hneed : len + ys.length ≤ 1073741824 := by omega
      have hap := run_append_grow_src (P := P) w t tx o.type et inf z ht hinf hz (bo.map fun b => ⟨b, 0, none⟩) len cap olds hold _ ys.length news hsrc hg (by omega) (growslice_fits_wide hg (by
        have h1 : (len + ys.length + (len + ys.length) / 4 + 192) * inf.bytes ≤ 1342177472 * 16384 := Nat.mul_le_mul (by omega) hby
        omega))
      have hge := grownCap_ge w (len + ys.length) cap et
      have hcm := grownCap_le_maxLen w (len + ys.length) cap et (by simp [maxLen]; omega)
      have hol : olds.length = len * e'.n := by rw [RowC.length (fun _ _ h => TC.length h) horow, hlen]
      have hnl : news.length = ys.length * e'.n := RowC.length (fun _ _ h => TC.length h) hnrow
      refine fin (l' := .row (some w.heap.size) (len + ys.length) (grownCap w (len + ys.length) cap et)) (hrun hap) ?_ (AVV_row.2 ⟨some w.heap.size, _, _, Map.ins_same _ _ _, rfl⟩)
      have hd := hdrop.grow (Grows.refl w).drew
      refine hd.alloc hn rfl ?_
      refine ⟨_, et, heap_alloc_new' w.drew _, by simp [hlen], hge, hcm, ?_, ?_, ?_⟩
      · simp only [Array.size_append, List.size_toArray, List.length_append, hol, hnl, size_zeroCells, hzs, hsz]
        rw [← Nat.add_mul, ← Nat.add_mul]
        congr 1
        omega
      · simp only [Array.toList_append, List.toList_toArray]
        exact ((RowC.one (fun _ _ h => TC.one h) horow).append (RowC.one (fun _ _ h => TC.one h) hnrow)).append (zeroCells_one (by rw [hzc]; exact zc_one e') _)
      · simp only [Array.toList_append, List.toList_toArray]
        have : ((olds ++ news) ++ (Builtin.zeroCells z.cells (grownCap w (len + ys.length) cap et - (len + ys.length))).toList).take ((len + ys.length) * e'.n) = olds ++ news :=
          List.take_left' (by rw [List.length_append, hol, hnl, Nat.add_mul])
        rw [this]
        exact RowC_append horow hnrow

theorem sound_nxt (x : Opd) : Sound P (.nxt x) := by
  intro c M μ G S a w nid o v u hp hm hr _
  generalize hq : o.op = q at hm
  cases q <;> simp only [mop, Bool.false_eq_true, Bool.and_eq_true] at hm
  rename_i x' isS
  obtain ⟨h1, h2⟩ := hm
  subst h1
  have hx := mo_ok hp.glob hp.env h2
  simp only [aopO, aop] at hr
  split at hr
  case h_2 => cases hr
  rename_i id he
  split at hr
  case h_2 => cases hr
  rename_i s pos hH
  rw [he] at hx
  obtain ⟨cs, hc, hv⟩ := hx
  simp only [AVC] at hc
  obtain ⟨b, hl, hc⟩ := hc
  obtain ⟨l, hl', hbr⟩ := hp.hold.blks id _ hH
  rw [hl] at hl'
  cases hl'
  have hbr : w.heap[b]? = some (.stringIter ⟨s.toArray⟩ pos) := hbr
  subst hc
  have hv : a.eval x' = .pointer (some ⟨b, 0, none⟩) := by simpa [VofC, AV.isAgg] using hv.symm
  have hget : (getObj b).run P w = .ok (.stringIter ⟨s.toArray⟩ pos) w := by
    simp only [getObj, Sem.run, hbr]
  cases hd : decide (pos < s.length) with
  | false =>
    have hd' : ¬ pos < s.length := of_decide_eq_false hd
    rw [hd] at hr
    simp only [cond_false, Option.some.injEq, Prod.mk.injEq] at hr
    obtain ⟨rfl, rfl⟩ := hr
    refine OpOk.same hp.hold (v' := .tuple #[.bool false]) ?_ ⟨[.bool false], rfl, ?_⟩
    · simp only [execOp, hq, hv, Instr.next, Sem.run_bind, hget, Result.andThen_ok, size_arr, if_neg hd', Sem.run_pure]
    · simp only [AVL]
      exact ⟨.bool false, [], [.bool false], rfl, by simp only [AVC, TC], rfl, rfl⟩
  | true =>
    have hd' : pos < s.length := of_decide_eq_true hd
    rw [hd] at hr
    simp only [cond_true, Option.some.injEq, Prod.mk.injEq] at hr
    obtain ⟨rfl, rfl⟩ := hr
    obtain ⟨cd, hcd⟩ : ∃ cd, Utf8.decode ⟨s.toArray⟩ pos = cd := ⟨_, rfl⟩
    rw [hcd]
    have hset : ∀ ob : Obj, (setObj b ob).run P w = .ok () { w with heap := w.heap.setIfInBounds b ob } := by
      intro ob
      simp only [setObj, Sem.run, hbr]
    have hb : b < w.heap.size := (Array.getElem?_eq_some_iff.1 hbr).1
    have hw : Writes w { w with heap := w.heap.setIfInBounds b (.stringIter ⟨s.toArray⟩ (pos + cd.2)) } b := ⟨rfl, rfl, rfl, by simp, fun k hk => by
      simp only [Array.getElem?_setIfInBounds]
      rw [if_neg (fun h => hk h.symm)], fun a => by
      simp only [World.frozen?, Array.getElem?_setIfInBounds]
      by_cases e : b = a.block
      · rw [if_pos e, ← e, hbr, if_pos hb]
      · rw [if_neg e]⟩
    have hbr' : BR M μ { w with heap := w.heap.setIfInBounds b (.stringIter ⟨s.toArray⟩ (pos + cd.2)) } (.obj b) (.iter s (pos + cd.2)) := by
      show (w.heap.setIfInBounds b _)[b]? = _
      rw [Array.getElem?_setIfInBounds, if_pos rfl, if_pos hb]
    refine ⟨M, μ, .tuple #[.bool true, .int .i64 (pos : Int), .int .i32 (cd.1 : Int)], _, .inl ?_, Mem.le.refl _, Map.le.refl _, hp.hold.write hH hl rfl hw hbr' ?_, ⟨[.bool true, .int .i64 (pos : Int), .int .i32 (cd.1 : Int)], rfl, ?_⟩, fun _ h => .inl h⟩
    · simp only [execOp, hq, hv, Instr.next, Sem.run_bind, hget, Result.andThen_ok, size_arr, if_pos hd', Sem.run_pure, hcd, hset, goInt]
    · intro o1 v1 hv1
      obtain ⟨_, _, h, _⟩ := hp.hold.exc id _ _ b o1 v1 hH hl rfl hv1
      cases h
    · simp only [AVL]
      exact ⟨_, _, [_], rfl, by simp only [AVC, TC], rfl, _, _, [_], rfl, by simp only [AVC, TC], rfl, _, _, [_], rfl, by simp only [AVC, TC], rfl, rfl⟩

end
end Go.Av

/-
  Each operation of the abstract machine is the machine's: maps to whole numbers.
-/
namespace Go.Av
section
variable {P : Program}

theorem mapOk_ty {t : TypeId} {κ : Ty} (h : mapOk P t κ = true) : ∃ k e i, P.underlying t = some (.map k e) ∧ P.info? e = some i ∧ i.zero = some (.int .i64 0) ∧
    ((∃ q, κ = .int q ∧ P.underlying k = some (.int q)) ∨ (κ = .str ∧ P.underlying k = some .string)) := by
  unfold mapOk mapOf at h
  split at h
  case h_2 => cases h
  rename_i k e h1
  split at h1
  case h_2 => cases h1
  rename_i k' e' h2
  cases h1
  simp only [Bool.and_eq_true] at h
  obtain ⟨h3, h4⟩ := h
  split at h4
  case h_2 => cases h4
  rename_i i hi
  split at h4
  case h_2 => cases h4
  rename_i hz
  refine ⟨k, e, i, h2, hi, hz, ?_⟩
  split at h3
  · rename_i q
    left
    unfold isInt at h3
    split at h3
    · rename_i q' hq
      have := of_decide_eq_true h3
      subst this
      exact ⟨q, rfl, hq⟩
    · cases h3
  · right
    exact ⟨rfl, isStr_ty h3⟩
  · cases h3

/-- The description of a key's type. -/
def kdesc : Ty → TypeDesc
  | .int q => .int q
  | _ => .string

theorem kdesc_ok {k : TypeId} {κ : Ty} (h : (∃ q, κ = .int q ∧ P.underlying k = some (.int q)) ∨ (κ = .str ∧ P.underlying k = some .string)) : P.underlying k = some (kdesc κ) ∧ keyOk κ = true := by
  rcases h with ⟨q, rfl, h⟩ | ⟨rfl, h⟩
  · exact ⟨h, rfl⟩
  · exact ⟨h, rfl⟩

theorem beq_arr (a b : List UInt8) : ((⟨a.toArray⟩ : ByteArray) == ⟨b.toArray⟩) = (a == b) := by
  rw [Bool.eq_iff_iff, Go.MapKept.bytes_beq, beq_iff_eq]
  constructor
  · intro h
    have h1 := congrArg (fun x : ByteArray => x.data.toList) h
    simpa using h1
  · rintro rfl; rfl

theorem sameNow_key {κ : Ty} (hk : keyOk κ = true) (x y : κ.T) : Instr.sameNow (kdesc κ) (keyV κ x) (keyV κ y) = some (κ.eqB x y) := by
  cases κ <;> simp only [keyOk, Bool.false_eq_true] at hk
  · simp [kdesc, keyV, Instr.sameNow, Ty.eqB]
  · simp only [kdesc, keyV, Instr.sameNow, Ty.eqB]
    exact congrArg some (beq_arr _ _)

theorem findNow_ents {κ : Ty} (hk : keyOk κ = true) (x : κ.T) : ∀ (l : List (κ.T × Int)) (i j : Nat), Instr.findNow (kdesc κ) (keyV κ x) (mEnts κ i l) j = some ((mget κ x l).map fun v => (j + mpos κ x l, .int .i64 v))
  | [], i, j => rfl
  | (y, v) :: r, i, j => by
    simp only [mEnts, Instr.findNow, sameNow_key hk, mget, mpos]
    cases κ.eqB x y with
    | true => simp
    | false =>
      simp only [cond_false]
      rw [findNow_ents hk x r (i + 1) (j + 1)]
      cases mget κ x r with
      | none => rfl
      | some u => simp; omega

theorem mEnts_length (κ : Ty) : ∀ (l : List (κ.T × Int)) (i : Nat), (mEnts κ i l).length = l.length
  | [], _ => rfl
  | (_, _) :: r, i => by simp [mEnts, mEnts_length κ r]

theorem eqB_eq {κ : Ty} (hk : keyOk κ = true) {x y : κ.T} (h : κ.eqB x y = true) : x = y := by
  cases κ <;> simp only [keyOk, Bool.false_eq_true] at hk
  · simpa [Ty.eqB] using h
  · simpa [Ty.eqB] using h

theorem mget_none {κ : Ty} {x : κ.T} : ∀ {l : List (κ.T × Int)}, mget κ x l = none → mpos κ x l = l.length ∧ (∀ v, mset κ x v l = l ++ [(x, v)]) ∧ mtouch κ x l = l ++ [(x, 0)]
  | [], _ => ⟨rfl, fun _ => rfl, rfl⟩
  | (y, u) :: r, h => by
    simp only [mget] at h
    cases he : κ.eqB x y with
    | true => rw [he] at h; cases h
    | false =>
      rw [he] at h
      obtain ⟨h1, h2, h3⟩ := mget_none (l := r) h
      simp only [mpos, mset, mtouch, he, cond_false, h1, h2, h3, List.length_cons, List.cons_append]
      exact ⟨trivial, fun _ => trivial, trivial⟩

theorem mEnts_append (κ : Ty) : ∀ (a b : List (κ.T × Int)) (i : Nat), mEnts κ i (a ++ b) = mEnts κ i a ++ mEnts κ (i + a.length) b
  | [], _, _ => rfl
  | (x, v) :: r, b, i => by
    simp only [List.cons_append, mEnts, mEnts_append κ r b, List.length_cons]
    have : i + 1 + r.length = i + (r.length + 1) := by omega
    rw [this]

/-- The entries when one was found: its place, its stamp, and what writing it does. -/
theorem mget_some {κ : Ty} (hk : keyOk κ = true) {x : κ.T} : ∀ {l : List (κ.T × Int)} {u : Int} (i : Nat), mget κ x l = some u → ∃ e, (mEnts κ i l)[mpos κ x l]? = some e ∧ e.key = keyV κ x ∧ e.val = .int .i64 u ∧ e.born = i + mpos κ x l ∧ mpos κ x l < l.length ∧
      (∀ v, (mEnts κ i l).modify (mpos κ x l) (fun e => { e with key := keyV κ x, val := .int .i64 v }) = mEnts κ i (mset κ x v l)) ∧
      (mEnts κ i l).modify (mpos κ x l) (fun e => { e with key := keyV κ x }) = mEnts κ i (mtouch κ x l) ∧
      (∀ v, (mset κ x v l).length = l.length) ∧ (mtouch κ x l).length = l.length
  | [], _, _, h => by cases h
  | (y, v0) :: r, u, i, h => by
    simp only [mget] at h
    cases he : κ.eqB x y with
    | true =>
      rw [he] at h
      cases h
      have := eqB_eq hk he
      subst this
      exact ⟨{ key := keyV κ x, val := .int .i64 v0, born := i }, by simp only [mpos, he, cond_true, mEnts, List.getElem?_cons_zero], rfl, rfl, by simp [mpos, he], by simp [mpos, he], by simp [mpos, he, mEnts, mset], by simp [mpos, he, mEnts, mtouch], by simp [mset, he], by simp [mtouch, he]⟩
    | false =>
      rw [he] at h
      obtain ⟨e, h1, h2, h3, h4, h5, h6, h7, h8, h9⟩ := mget_some hk (l := r) (i + 1) h
      refine ⟨e, ?_, h2, h3, ?_, ?_, ?_, ?_, ?_, ?_⟩
      · simpa only [mpos, he, cond_false, mEnts, List.getElem?_cons_succ] using h1
      · simp only [mpos, he, cond_false, h4]; omega
      · simp only [mpos, he, cond_false, List.length_cons]; omega
      · intro v
        simp only [mpos, he, cond_false, mEnts, mset, List.modify_succ_cons, h6]
      · simp only [mpos, he, cond_false, mEnts, mtouch, List.modify_succ_cons, h7]
      · intro v; simp only [mset, he, cond_false, List.length_cons, h8]
      · simp only [mtouch, he, cond_false, List.length_cons, h9]

theorem mstore_length {α : Type} (v : Int) : ∀ (n : Nat) (l : List (α × Int)), (mstore v n l).length = l.length
  | _, [] => by simp [mstore]
  | 0, (y, _) :: r => by simp [mstore]
  | n + 1, p :: r => by simp [mstore, mstore_length v n r]

theorem mEnts_store (κ : Ty) (v : Int) : ∀ (l : List (κ.T × Int)) (i n : Nat), (mEnts κ i l).modify n (fun e => { e with val := .int .i64 v }) = mEnts κ i (mstore v n l)
  | [], i, n => by simp [mEnts, mstore]
  | (x, u) :: r, i, 0 => by simp [mEnts, mstore]
  | (x, u) :: r, i, n + 1 => by simp only [mEnts, mstore, List.modify_succ_cons, mEnts_store κ v r]

theorem mEnts_born (κ : Ty) : ∀ (l : List (κ.T × Int)) (i n : Nat), n < l.length → (mEnts κ i l).findIdx? (fun e => (e.born : Int) == ((i + n : Nat) : Int)) = some n
  | [], _, _, h => by cases h
  | (x, u) :: r, i, 0, _ => by
    simp only [mEnts, List.findIdx?_cons, Nat.add_zero, beq_self_eq_true, if_true]
  | (x, u) :: r, i, n + 1, h => by
    simp only [mEnts, List.findIdx?_cons]
    have h1 : ((i : Int) == ((i + (n + 1) : Nat) : Int)) = false := by
      rw [beq_eq_false_iff_ne]; omega
    rw [h1]
    have h2 := mEnts_born κ r (i + 1) n (by simpa using h)
    have h3 : i + 1 + n = i + (n + 1) := by omega
    rw [h3] at h2
    simp only [Bool.false_eq_true, if_false, h2, Option.map_some]

theorem checkKey_ok {k : TypeId} {κ : Ty} (hd : P.underlying k = some (kdesc κ)) (hk : keyOk κ = true) (b : Bool) (x : κ.T) (w : World) : (Instr.checkKey b 10000 k (keyV κ x)).run P w = .ok () w := by
  show (Instr.checkKey b (9999 + 1) k (keyV κ x)).run P w = _
  rw [Instr.checkKey]
  cases κ <;> simp only [keyOk, Bool.false_eq_true] at hk <;> simp only [Sem.run_bind, run_underlying hd, Result.andThen_ok, kdesc, keyV, Sem.run_pure]

theorem findKey_ok {k : TypeId} {κ : Ty} (hd : P.underlying k = some (kdesc κ)) (hk : keyOk κ = true) (x : κ.T) (l : List (κ.T × Int)) (w : World) : (Instr.findKey k (keyV κ x) (mEnts κ 0 l)).run P w = .ok ((mget κ x l).map fun v => (mpos κ x l, .int .i64 v)) w := by
  simp only [Instr.findKey, Sem.run_bind, run_underlying hd, Result.andThen_ok, findNow_ents hk x l 0 0, Nat.zero_add, Sem.run_pure]

theorem keyV_AVV {M : Mem} {μ : Map} {κ : Ty} (hk : keyOk κ = true) {x : κ.T} {v : Value} (h : AVV M μ (.tv κ x) v) : v = keyV κ x := by
  cases κ <;> simp only [keyOk, Bool.false_eq_true] at hk
  · exact AVV_int.1 h
  · exact AVV_str.1 h

theorem keyStays_ok {κ : Ty} (hk : keyOk κ = true) (x : κ.T) (w : World) : (Instr.keyThatStays (keyV κ x) (keyV κ x)).run P w = .ok (keyV κ x) w := by
  have : Instr.sameBits 10000 (keyV κ x) (keyV κ x) = true := by
    cases κ <;> simp only [keyOk, Bool.false_eq_true] at hk
    · simp [keyV, Instr.sameBits]
    · simp only [keyV, Instr.sameBits, beq_arr, beq_self_eq_true]
  simp [Instr.keyThatStays, this]

theorem AVV_mp {M : Mem} {μ : Map} {id : Nat} {v : Value} (h : AVV M μ (.mp id) v) : ∃ b, μ id = some (.obj b) ∧ v = .map (some b) := by
  obtain ⟨cs, hc, hv⟩ := h
  simp only [AVC] at hc
  obtain ⟨b, hl, rfl⟩ := hc
  exact ⟨b, hl, by simpa [VofC, AV.isAgg] using hv.symm⟩

theorem sound_mkmap (κ : Ty) : Sound P (.mkmap κ) := by
  intro c M μ G S a w nid o v u hp hm hr hfr
  generalize hq : o.op = q at hm
  cases q <;> try simp only [mop, Bool.false_eq_true] at hm
  rename_i t rs
  cases rs <;> simp only [Bool.false_eq_true] at hm
  simp only [aopO, aop, Option.some.injEq, Prod.mk.injEq] at hr
  obtain ⟨rfl, rfl⟩ := hr
  have hn : μ nid = none := hfr nid (Nat.le_refl _) (by simp)
  have hb : BR M (μ.ins nid (.obj w.heap.size)) (w.alloc (.map #[] 0)) (.obj w.heap.size) (.mp κ []) := heap_alloc_new' w _
  refine ⟨M, μ.ins nid (.obj w.heap.size), .map (some w.heap.size), w.alloc (.map #[] 0), .inl ?_, Mem.le.refl _, Map.le_ins hn, hp.hold.alloc hn rfl hb, ?_, ?_⟩
  · simp [execOp, hq, Instr.makeMap]
  · refine AVV_of (a := .mp nid) (c := [.map (some w.heap.size)]) ?_ rfl
    simp only [AVC]
    exact ⟨w.heap.size, Map.ins_same _ _ _, rfl⟩
  · intro j hj
    by_cases e : j = nid
    · subst e; right; simp
    · rw [Map.ins_other _ _ _ e] at hj; exact .inl hj

theorem sound_mlook (κ : Ty) (ok : Bool) (m k : Opd) : Sound P (.mlook κ ok m k) := by
  intro c M μ G S a w nid o v u hp hm hr hfr
  generalize hq : o.op = q at hm
  cases q <;> simp only [mop, Bool.false_eq_true, Bool.and_eq_true] at hm
  rename_i t m' k' ok'
  obtain ⟨⟨⟨hok, ht⟩, h2⟩, h3⟩ := hm
  rw [beq_iff_eq] at hok
  subst hok
  have hx := mo_ok hp.glob hp.env h2
  have hy := mo_ok hp.glob hp.env h3
  obtain ⟨kt, et, i, hmt, hi, hz, hkd⟩ := mapOk_ty ht
  obtain ⟨hd, hko⟩ := kdesc_ok hkd
  simp only [aopO, aop] at hr
  split at hr
  case h_2 => cases hr
  rename_i id he
  split at hr
  case h_2 => cases hr
  rename_i κ' l hH
  split at hr
  case h_2 => cases hr
  rename_i σ x hk
  split at hr
  case isFalse => cases hr
  rename_i e1
  subst e1
  cases hdk : decide (σ = κ) with
  | false => rw [hdk] at hr; cases hr
  | true =>
    have := of_decide_eq_true hdk
    subst this
    rw [hdk, hko] at hr
    simp only [Bool.and_true, cond_true, Option.some.injEq, Prod.mk.injEq] at hr
    obtain ⟨rfl, rfl⟩ := hr
    rw [he] at hx
    rw [hk] at hy
    obtain ⟨b, hl, hv⟩ := AVV_mp hx
    obtain ⟨l2, hl', hbr⟩ := hp.hold.blks id _ hH
    rw [hl] at hl'
    cases hl'
    have hbr : w.heap[b]? = some (.map (mEnts σ 0 l).toArray l.length) := hbr
    have hget : (getObj b).run P w = .ok (.map (mEnts σ 0 l).toArray l.length) w := by simp only [getObj, Sem.run, hbr]
    have hkv := keyV_AVV hko hy
    have hrun : (Instr.lookup t (.map (some b)) (keyV σ x) ok).run P w = .ok (if ok then .tuple #[.int .i64 (mval σ x l), .bool (mhas σ x l)] else .int .i64 (mval σ x l)) w := by
      simp only [Instr.lookup, Sem.run_bind, run_underlying hmt, Result.andThen_ok, hget, Sem.run_pure, checkKey_ok hd hko, findKey_ok hd hko]
      cases hg : mget σ x l with
      | none => simp [mval, mhas, hg, run_zeroValue hi hz]
      | some u => simp [mval, mhas, hg]
    cases ok with
    | false =>
      refine OpOk.same hp.hold (v' := .int .i64 (mval σ x l)) ?_ (AVV_int.2 rfl)
      simp only [execOp, hq, hv, hkv, Sem.run_bind, hrun, Result.andThen_ok, Sem.run_pure]; rfl
    | true =>
      refine OpOk.same hp.hold (v' := .tuple #[.int .i64 (mval σ x l), .bool (mhas σ x l)]) ?_ ⟨[.int .i64 (mval σ x l), .bool (mhas σ x l)], rfl, ?_⟩
      · simp only [execOp, hq, hv, hkv, Sem.run_bind, hrun, Result.andThen_ok, Sem.run_pure]; rfl
      · simp only [AVL]
        exact ⟨_, _, [_], rfl, by simp only [AVC, TC], rfl, _, _, [_], rfl, by simp only [AVC, TC], rfl, rfl⟩

/-- The map in a block is another one. -/
theorem Hold.setMap {c : Ctx} {M : Mem} {μ : Map} {H : Hp} {w : World} (h : Hold c M μ H w) {id b : Nat} {κ : Ty} {l l' : List (κ.T × Int)} (hH : hget H id = some (.mp κ l)) (hl : μ id = some (.obj b)) (hbr : w.heap[b]? = some (.map (mEnts κ 0 l).toArray l.length)) :
    Hold c M μ ((id, some (.mp κ l')) :: H) { w with heap := w.heap.setIfInBounds b (.map (mEnts κ 0 l').toArray l'.length) } := by
  have hb : b < w.heap.size := (Array.getElem?_eq_some_iff.1 hbr).1
  have hw : Writes w { w with heap := w.heap.setIfInBounds b (.map (mEnts κ 0 l').toArray l'.length) } b := ⟨rfl, rfl, rfl, by simp, fun k hk => by
    simp only [Array.getElem?_setIfInBounds]
    rw [if_neg (fun h => hk h.symm)], fun a => by
    simp only [World.frozen?, Array.getElem?_setIfInBounds]
    by_cases e : b = a.block
    · rw [if_pos e, ← e, hbr, if_pos hb]
    · rw [if_neg e]⟩
  have hbr' : BR M μ { w with heap := w.heap.setIfInBounds b (.map (mEnts κ 0 l').toArray l'.length) } (.obj b) (.mp κ l') := by
    show (w.heap.setIfInBounds b _)[b]? = _
    rw [Array.getElem?_setIfInBounds, if_pos rfl, if_pos hb]
  refine h.write hH hl rfl hw hbr' ?_
  intro o1 v1 hv1
  obtain ⟨_, _, h, _⟩ := h.exc id _ _ b o1 v1 hH hl rfl hv1
  cases h

theorem run_setObj {w : World} {b : Nat} {es : Array MapEntry} {cl : Nat} (h : w.heap[b]? = some (.map es cl)) (ob : Obj) : (setObj b ob).run P w = .ok () { w with heap := w.heap.setIfInBounds b ob } := by
  simp only [setObj, Sem.run, h]

theorem sound_mput (κ : Ty) (m k n : Opd) : Sound P (.mput κ m k n) := by
  intro c M μ G S a w nid o v u hp hm hr hfr
  generalize hq : o.op = q at hm
  cases q <;> simp only [mop, Bool.false_eq_true, Bool.and_eq_true] at hm
  rename_i t m' k' n'
  obtain ⟨⟨⟨ht, h2⟩, h3⟩, h4⟩ := hm
  have hx := mo_ok hp.glob hp.env h2
  have hy := mo_ok hp.glob hp.env h3
  have hn := mo_ok hp.glob hp.env h4
  obtain ⟨kt, et, i, hmt, hi, hz, hkd⟩ := mapOk_ty ht
  obtain ⟨hd, hko⟩ := kdesc_ok hkd
  simp only [aopO, aop] at hr
  split at hr
  case h_2 => cases hr
  rename_i id he
  split at hr
  case h_2 => cases hr
  rename_i κ' l hH
  split at hr
  case h_2 => cases hr
  rename_i σ x nn hk hnn
  split at hr
  case isFalse => cases hr
  rename_i e1
  subst e1
  cases hdk : decide (σ = κ) with
  | false => rw [hdk] at hr; cases hr
  | true =>
    have := of_decide_eq_true hdk
    subst this
    rw [hdk, hko] at hr
    simp only [Bool.and_true, cond_true, Option.some.injEq, Prod.mk.injEq] at hr
    obtain ⟨rfl, rfl⟩ := hr
    rw [he] at hx
    rw [hk] at hy
    rw [hnn, AVV_int] at hn
    obtain ⟨b, hl, hv⟩ := AVV_mp hx
    obtain ⟨l2, hl', hbr⟩ := hp.hold.blks id _ hH
    rw [hl] at hl'
    cases hl'
    have hbr : w.heap[b]? = some (.map (mEnts σ 0 l).toArray l.length) := hbr
    have hget : (getObj b).run P w = .ok (.map (mEnts σ 0 l).toArray l.length) w := by simp only [getObj, Sem.run, hbr]
    have hkv := keyV_AVV hko hy
    have hrun : (Instr.mapUpdate t (.map (some b)) (keyV σ x) (.int .i64 nn)).run P w = .ok () { w with heap := w.heap.setIfInBounds b (.map (mEnts σ 0 (mset σ x nn l)).toArray (mset σ x nn l).length) } := by
      simp only [Instr.mapUpdate, Sem.run_bind, run_underlying hmt, Result.andThen_ok, hget, checkKey_ok hd hko, findKey_ok hd hko]
      cases hg : mget σ x l with
      | none =>
        obtain ⟨h1, h2, h3⟩ := mget_none hg
        simp only [Option.map_none, run_setObj hbr, h2, mEnts_append, List.length_append, List.length_cons, List.length_nil, Nat.zero_add, mEnts]
        simp
      | some u0 =>
        obtain ⟨e, h1, h2, h3, h4, h5, h6, h7, h8, h9⟩ := mget_some hko 0 hg
        simp only [Option.map_some, Sem.run_bind, List.getElem?_toArray, h1, Option.map_some, Option.getD_some, h2, keyStays_ok hko, Result.andThen_ok, run_setObj hbr, h8]
        have : (mEnts σ 0 l).toArray.modify (mpos σ x l) (fun e => { e with key := keyV σ x, val := .int .i64 nn }) = (mEnts σ 0 (mset σ x nn l)).toArray := by
          rw [← h6 nn]; simp
        rw [this]
    refine ⟨M, μ, undef, _, ?_, Mem.le.refl _, Map.le.refl _, hp.hold.setMap hH hl hbr, trivial, fun _ h => .inl h⟩
    simp only [execOp, hq, hv, hkv, hn, Sem.run_bind, hrun, Result.andThen_ok, Sem.run_pure]
    simp

theorem sound_ment (κ : Ty) (m k : Opd) : Sound P (.ment κ m k) := by
  intro c M μ G S a w nid o v u hp hm hr hfr
  generalize hq : o.op = q at hm
  cases q <;> simp only [mop, Bool.false_eq_true, Bool.and_eq_true] at hm
  rename_i t m' k'
  obtain ⟨⟨ht, h2⟩, h3⟩ := hm
  have hx := mo_ok hp.glob hp.env h2
  have hy := mo_ok hp.glob hp.env h3
  obtain ⟨kt, et, i, hmt, hi, hz, hkd⟩ := mapOk_ty ht
  obtain ⟨hd, hko⟩ := kdesc_ok hkd
  simp only [aopO, aop] at hr
  split at hr
  case h_2 => cases hr
  rename_i id he
  split at hr
  case h_2 => cases hr
  rename_i κ' l hH
  split at hr
  case h_2 => cases hr
  rename_i σ x hk
  split at hr
  case isFalse => cases hr
  rename_i e1
  subst e1
  cases hdk : decide (σ = κ) with
  | false => rw [hdk] at hr; cases hr
  | true =>
    have := of_decide_eq_true hdk
    subst this
    rw [hdk, hko] at hr
    simp only [Bool.and_true, cond_true, Option.some.injEq, Prod.mk.injEq] at hr
    obtain ⟨rfl, rfl⟩ := hr
    rw [he] at hx
    rw [hk] at hy
    obtain ⟨b, hl, hv⟩ := AVV_mp hx
    obtain ⟨l2, hl', hbr⟩ := hp.hold.blks id _ hH
    rw [hl] at hl'
    cases hl'
    have hbr : w.heap[b]? = some (.map (mEnts σ 0 l).toArray l.length) := hbr
    have hget : (getObj b).run P w = .ok (.map (mEnts σ 0 l).toArray l.length) w := by simp only [getObj, Sem.run, hbr]
    have hkv := keyV_AVV hko hy
    have hrun : (Instr.mapEntry t (.map (some b)) (keyV σ x)).run P w = .ok (.tuple #[.int .i64 (mval σ x l), .int .i64 (mpos σ x l : Int)]) { w with heap := w.heap.setIfInBounds b (.map (mEnts σ 0 (mtouch σ x l)).toArray (mtouch σ x l).length) } := by
      simp only [Instr.mapEntry, Sem.run_bind, run_underlying hmt, Result.andThen_ok, hget, checkKey_ok hd hko, findKey_ok hd hko]
      cases hg : mget σ x l with
      | none =>
        obtain ⟨h1, h2, h3⟩ := mget_none hg
        simp only [Option.map_none, Sem.run_bind, run_zeroValue hi hz, Result.andThen_ok, run_setObj hbr, h3, h1, mEnts_append, List.length_append, List.length_cons, List.length_nil, Nat.zero_add, mEnts, Sem.run_pure]
        simp [mval, hg, goInt]
      | some u0 =>
        obtain ⟨e, h1, h2, h3, h4, h5, h6, h7, h8, h9⟩ := mget_some hko 0 hg
        simp only [Option.map_some, Sem.run_bind, List.getElem?_toArray, h1, Option.map_some, Option.getD_some, h2, h4, keyStays_ok hko, Result.andThen_ok, run_setObj hbr, h9, Sem.run_pure]
        have : (mEnts σ 0 l).toArray.modify (mpos σ x l) (fun e => { e with key := keyV σ x }) = (mEnts σ 0 (mtouch σ x l)).toArray := by
          rw [← h7]; simp
        rw [this]
        simp [mval, hg, goInt]
    refine ⟨M, μ, .tuple #[.int .i64 (mval σ x l), .int .i64 (mpos σ x l : Int)], _, .inl ?_, Mem.le.refl _, Map.le.refl _, hp.hold.setMap hH hl hbr, ⟨[.int .i64 (mval σ x l), .int .i64 (mpos σ x l : Int)], rfl, ?_⟩, fun _ h => .inl h⟩
    · simp only [execOp, hq, hv, hkv, Sem.run_bind, hrun, Result.andThen_ok, Sem.run_pure]
    · simp only [AVL]
      exact ⟨_, _, [_], rfl, by simp only [AVC, TC], rfl, _, _, [_], rfl, by simp only [AVC, TC], rfl, rfl⟩

theorem sound_mest (m s n : Opd) : Sound P (.mest m s n) := by
  intro c M μ G S a w nid o v u hp hm hr hfr
  generalize hq : o.op = q at hm
  cases q <;> simp only [mop, Bool.false_eq_true, Bool.and_eq_true] at hm
  rename_i t m' s' n'
  obtain ⟨⟨h2, h3⟩, h4⟩ := hm
  have hx := mo_ok hp.glob hp.env h2
  have hy := mo_ok hp.glob hp.env h3
  have hn := mo_ok hp.glob hp.env h4
  simp only [aopO, aop] at hr
  split at hr
  case h_2 => cases hr
  rename_i id he
  split at hr
  case h_2 => cases hr
  rename_i κ l hH
  split at hr
  case h_2 => cases hr
  rename_i ss nn hs hnn
  cases hdk : inR ss l.length with
  | false => rw [hdk] at hr; cases hr
  | true =>
    rw [hdk] at hr
    simp only [cond_true, Option.some.injEq, Prod.mk.injEq] at hr
    obtain ⟨rfl, rfl⟩ := hr
    obtain ⟨g1, g2⟩ := of_decide_eq_true hdk
    rw [he] at hx
    rw [hs, AVV_int] at hy
    rw [hnn, AVV_int] at hn
    obtain ⟨b, hl, hv⟩ := AVV_mp hx
    obtain ⟨l2, hl', hbr⟩ := hp.hold.blks id _ hH
    rw [hl] at hl'
    cases hl'
    have hbr : w.heap[b]? = some (.map (mEnts κ 0 l).toArray l.length) := hbr
    have hget : (getObj b).run P w = .ok (.map (mEnts κ 0 l).toArray l.length) w := by simp only [getObj, Sem.run, hbr]
    have hrun : (Instr.entryStore t (.map (some b)) (.int .i64 ss) (.int .i64 nn)).run P w = .ok () { w with heap := w.heap.setIfInBounds b (.map (mEnts κ 0 (mstore nn (ss : Int).toNat l)).toArray (mstore nn (ss : Int).toNat l).length) } := by
      have hf : (mEnts κ 0 l).toArray.findIdx? (fun e => (e.born : Int) == ss) = some (ss : Int).toNat := by
        have := mEnts_born κ l 0 (ss : Int).toNat (by omega)
        have h1 : ((0 + (ss : Int).toNat : Nat) : Int) = ss := by omega
        rw [h1] at this
        rw [List.findIdx?_toArray]; exact this
      simp only [Instr.entryStore, Sem.run_bind, hget, Result.andThen_ok, asInt, asIntOf, Sem.run_pure, hf, run_setObj hbr, mstore_length]
      have : (mEnts κ 0 l).toArray.modify (ss : Int).toNat (fun e => { e with val := .int .i64 nn }) = (mEnts κ 0 (mstore nn (ss : Int).toNat l)).toArray := by
        rw [← mEnts_store]; simp
      rw [this]
    refine ⟨M, μ, undef, _, ?_, Mem.le.refl _, Map.le.refl _, hp.hold.setMap hH hl hbr, trivial, fun _ h => .inl h⟩
    simp only [execOp, hq, hv, hy, hn, Sem.run_bind, hrun, Result.andThen_ok, Sem.run_pure]
    simp
end
end Go.Av
