/-
  Each operation of the abstract machine is the machine's: append; a text, sign by sign.
-/
import Derived.Test.YtlemoepklgfjoaaDoorA15
import Derived.Deep.Upon
import Derived.Deep.DeepAppendWide
namespace Go.Av
section
variable {P : Program}

/-- A block that no living number has any more is written. -/
theorem Hold.poke {c : Ctx} {M : Mem} {μ : Map} {H : Hp} {w w' : World} (h : Hold c M μ H w) {b : Nat} (hw : Writes w w' b) (hn : ∀ i k l, hget H i = some k → μ i = some l → l.blk ≠ some b) (hm : c.may b) (hM : ∀ o v, M b o = some v → w'.cell? ⟨b, o, none⟩ = some v) :
    Hold c M μ H w' where
  mem b' o v hv := by
    by_cases e : b' = b
    · subst e; exact hM o v hv
    · rw [cell_heap (hw.other b' e)]; exact h.mem b' o v hv
  blks i k hk := by
    obtain ⟨l, hl, hb⟩ := h.blks i k hk
    refine ⟨l, hl, hb.mono (Mem.le.refl _) (Map.le.refl _) fun b' hb' => hw.other b' ?_⟩
    intro e
    subst e
    exact hn i k l hk hl hb'
  inj := h.inj
  exc := h.exc
  own := h.own
  mle := h.mle
  mown := h.mown
  fz a := (hw.fz a).trans (h.fz a)
  os := hw.os.trans h.os
  tape := hw.tape.trans h.tape
  output := hw.output.trans h.output
  size := by rw [hw.size]; exact h.size
  frame b' hb' hno := by
    have hne : b' ≠ b := by
      intro e
      subst e
      rcases hm with ho | ho
      · exact hno ho
      · omega
    rw [hw.other b' hne]
    exact h.frame b' hb' hno

theorem RowC_append {α : Type} {R : α → List Value → Prop} : ∀ {xs ys : List α} {a b : List Value}, RowC R xs a → RowC R ys b → RowC R (xs ++ ys) (a ++ b)
  | [], ys, a, b, h1, h2 => by simp only [RowC] at h1; subst h1; exact h2
  | x :: xs, ys, a, b, ⟨c1, c2, e, h1, h2⟩, h3 => by
    subst e
    exact ⟨c1, c2 ++ b, by simp, h1, RowC_append h2 h3⟩

theorem byteCells_row {M : Mem} : ∀ s : List UInt8, RowC (TC M (.int .u8)) (s.map fun (b : UInt8) => (b.toNat : Int)) (s.map fun b => Value.int .u8 b.toNat)
  | [] => rfl
  | b :: s => ⟨[.int .u8 b.toNat], s.map fun b => Value.int .u8 b.toNat, rfl, rfl, byteCells_row s⟩

/-- What an append is handed, in the machine. -/
theorem src_ok {c : Ctx} {M : Mem} {μ : Map} {H : Hp} {w : World} (hH : Hold c M μ H w) {e : Ty} {i : Nat} {y : AV} {ys : List e.T} (hs : srcOf e H i y = some ys) {v : Value} (hv : AVV M μ y v) {tx : TypeId} (hk : (∃ e', P.underlying tx = some (.slice e')) ∨ P.underlying tx = some .string) :
    ∃ news, Src P e.n tx v ys.length news w ∧ RowC (TC M e) ys news := by
  have nil : ∀ cap, Src P e.n tx (.slice none 0 cap) 0 [] w := fun cap => ⟨hk, fun _ => rfl, run_firstCells_none w _ 0 0 cap, run_firstCells_none w.drew _ 0 0 cap, by simp, fun _ h => by cases h⟩
  have some_ : ∀ (ad : Addr) (cap n : Nat) (es : List Value), es.length = n * e.n → oneC es → (∀ j u, es[j]? = some u → w.cell? (ad.add j) = some u) → Src P e.n tx (.slice (some ad) n cap) n es w :=
    fun ad cap n es hl h1 hc => ⟨hk, fun _ => rfl, run_firstCells_some w _ n ad n cap es hl hc, run_firstCells_some w.drew _ n ad n cap es hl (by simpa using hc), hl, h1⟩
  unfold srcOf at hs
  split at hs
  · rename_i e' ys'
    split at hs
    case isFalse => cases hs
    rename_i he
    subst he
    simp only [Option.some.injEq] at hs
    subst hs
    rw [AVV_tv] at hv
    obtain ⟨cs, ⟨ad, cap, rfl, es, hrow, hM, hcap⟩, hv⟩ := hv
    have hv : v = .slice ad ys'.length cap := by simpa [VofC, Ty.isAgg] using hv.symm
    subst hv
    rcases hM with rfl | ⟨b, o1, rfl, hM⟩
    · simp only [RowC] at hrow
      cases ad with
      | none => exact ⟨[], nil cap, rfl⟩
      | some ad => exact ⟨[], some_ ad cap 0 [] (by simp) oneC.nil (by simp), rfl⟩
    · exact ⟨es, some_ _ cap _ es (RowC.length (fun _ _ h => TC.length h) hrow) (RowC.one (fun _ _ h => TC.one h) hrow) (cells_of_M hH.mem hM), hrow⟩
  · rename_i b0 e' ys'
    split at hs
    case isFalse => cases hs
    rename_i he
    subst he
    simp only [Option.some.injEq] at hs
    subst hs
    obtain ⟨cs, ⟨⟨ad, cap, rfl, es, hrow, hM, hcap⟩, _⟩, hv⟩ := hv
    have hv : v = .slice ad ys'.length cap := by simpa [VofC, AV.isAgg] using hv.symm
    subst hv
    rcases hM with rfl | ⟨b, o1, rfl, hM⟩
    · simp only [RowC] at hrow
      cases ad with
      | none => exact ⟨[], nil cap, rfl⟩
      | some ad => exact ⟨[], some_ ad cap 0 [] (by simp) oneC.nil (by simp), rfl⟩
    · exact ⟨es, some_ _ cap _ es (RowC.length (fun _ _ h => TC.length h) hrow) (RowC.one (fun _ _ h => TC.one h) hrow) (cells_of_M hH.mem hM), hrow⟩
  · rename_i s
    split at hs
    case isFalse => cases hs
    rename_i he
    subst he
    simp only [Option.some.injEq] at hs
    subst hs
    rw [AVV_str] at hv
    subst hv
    refine ⟨byteCells ⟨s.toArray⟩, ?_, ?_⟩
    · have hlen : (s.map fun (b : UInt8) => (b.toNat : Int)).length = (ByteArray.mk s.toArray).size := by rw [size_arr]; simp
      show Src P 1 tx _ (s.map fun (b : UInt8) => (b.toNat : Int)).length _ w
      rw [hlen]
      exact ⟨hk, fun _ => rfl, firstCells_string _ w, firstCells_string _ w.drew, by rw [byteCells_length, Nat.mul_one], fun u hu => by
        obtain ⟨_, _, rfl⟩ := List.mem_map.1 hu
        rfl⟩
    · exact byteCells_row s
  · rename_i j
    cases hij : Nat.beq i j with
    | true => rw [hij] at hs; simp at hs
    | false =>
      rw [hij] at hs
      simp only [cond_false] at hs
      split at hs
      case h_2 => cases hs
      rename_i e' ys' fz hj
      split at hs
      case isFalse => cases hs
      rename_i he
      subst he
      simp only [Option.some.injEq] at hs
      subst hs
      rw [AVV_row] at hv
      obtain ⟨bo, len, cap, hl, rfl⟩ := hv
      obtain ⟨l, hl', hbr⟩ := hH.blks j _ hj
      rw [hl] at hl'
      cases hl'
      cases bo with
      | none =>
        obtain ⟨rfl, rfl, rfl⟩ := hbr
        exact ⟨[], nil 0, rfl⟩
      | some b =>
        obtain ⟨cs, T, hc, hlen, hle, hcap, hcs, hone, hrow⟩ := hbr
        refine ⟨_, ?_, hrow⟩
        rw [hlen]
        refine some_ ⟨b, 0, none⟩ cap len _ (by rw [RowC.length (fun _ _ h => TC.length h) hrow, hlen]) (RowC.one (fun _ _ h => TC.one h) hrow) ?_
        intro q u hq
        rw [Addr.add_mid, cell_of_heap hc, ← Array.getElem?_toList]
        rw [List.getElem?_take] at hq
        split at hq
        · simpa using hq
        · cases hq
  · cases hs

theorem zeroCells_one {z : Array Value} (h : oneC z.toList) (n : Nat) : oneC (Builtin.zeroCells z n).toList := by
  intro v hv
  unfold Builtin.zeroCells at hv
  simp only [Array.toList_map, Array.toList_range, List.mem_map, List.mem_range] at hv
  obtain ⟨i, hi, rfl⟩ := hv
  by_cases h0 : z.size = 0
  · rw [h0] at hi; simp at hi
  · have hlt : i % z.size < z.size := Nat.mod_lt _ (by omega)
    rw [getElem!_pos z _ hlt]
    exact h _ (by simp)

theorem sound_app (e : Ty) (x y : Opd) : Sound P (.app e x y) := by
  intro c M μ G S a w nid o v u hp hm hr hfr
  generalize hq : o.op = q at hm
  cases q <;> simp only [mop, Bool.false_eq_true] at hm
  rename_i cl
  split at hm
  case h_2 => cases hm
  rename_i x' y' t tx hc1 hc2 hc3
  simp only [Bool.and_eq_true, Bool.or_eq_true] at hm
  obtain ⟨⟨⟨hsl, hkind⟩, h2⟩, h3⟩ := hm
  have hx := mo_ok hp.glob hp.env h2
  have hy := mo_ok hp.glob hp.env h3
  have hargs := arr2 hc2
  have htys := arr2 hc3
  obtain ⟨cs0, hcall⟩ := call_builtin (P := P) (a := a) hq hc1
  split at hsl
  case h_2 => cases hsl
  rename_i et hslt
  have ht := slOf_ty hslt
  obtain ⟨inf, z, hinf, hsz, hpos, hby, hz, hzc⟩ := elOk_ty hsl
  have hk : (∃ e', P.underlying tx = some (.slice e')) ∨ P.underlying tx = some .string := by
    rcases hkind with h | h
    · obtain ⟨e', he'⟩ := Option.isSome_iff_exists.1 h
      exact .inl ⟨e', slOf_ty he'⟩
    · exact .inr (isStr_ty h)
  simp only [aopO, aop] at hr
  split at hr
  case h_2 => cases hr
  rename_i i hei
  split at hr
  case h_2 => cases hr
  rename_i e' xs fz hHi
  split at hr
  case isFalse => cases hr
  rename_i he
  subst he
  split at hr
  case h_2 => cases hr
  rename_i ys hys
  cases hb : decide (xs.length + ys.length ≤ rowMax) with
  | false => rw [hb] at hr; simp at hr
  | true =>
    rw [hb] at hr
    have hmax : xs.length + ys.length ≤ rowMax := of_decide_eq_true hb
    simp only [cond_true, Option.some.injEq, Prod.mk.injEq] at hr
    obtain ⟨rfl, rfl⟩ := hr
    have hn : μ nid = none := hfr nid (Nat.le_refl _) (by simp)
    obtain ⟨news, hsrc, hnrow⟩ := src_ok (P := P) hp.hold hys hy hk
    rw [← hsz] at hsrc
    rw [hei, AVV_row] at hx
    obtain ⟨bo, len, cap, hl, hv⟩ := hx
    obtain ⟨l, hl', hbr⟩ := hp.hold.blks i _ hHi
    rw [hl] at hl'
    cases hl'
    have hrun : ∀ {v' w'}, (Builtin.append_ #[t, tx] o.type #[.slice (bo.map fun b => ⟨b, 0, none⟩) len cap, a.eval y']).run P w = .ok v' w' → (execOp a.eval o).run P w = .ok (.value v') w' := by
      intro v' w' h
      rw [hcall, hargs, htys]
      simp only [builtin, List.map_toArray, List.map_cons, List.map_nil, hv, Sem.run_bind, h, Result.andThen_ok, Sem.run_pure]
    have fin : ∀ {v' w' l'}, (execOp a.eval o).run P w = .ok (.value v') w' → Hold c M (μ.ins nid l') ((nid, some (.row e' (xs ++ ys) fz)) :: (i, none) :: S.H) w' → AVV M (μ.ins nid l') (.row nid) v' →
        OpOk c M μ S.H nid ((execOp a.eval o).run P w) (.row nid) ⟨[(nid, some (.row e' (xs ++ ys) fz)), (i, none)], 1⟩ := by
      intro v' w' l' h1 h2 h3
      refine ⟨M, μ.ins nid l', v', w', .inl h1, Mem.le.refl _, Map.le_ins hn, h2, h3, ?_⟩
      intro j hj
      by_cases e : j = nid
      · subst e; right; simp
      · rw [Map.ins_other _ _ _ e] at hj; exact .inl hj
    have hdrop := hp.hold.drop i
    have hne : i ≠ nid := fun e => by rw [e, hn] at hl; cases hl
    have hzs : z.cells.size = inf.size := by rw [← Array.length_toList, hzc, zc_length, hsz]
    have hrm : rowMax = 1073741824 := rfl
    by_cases hroom : len + ys.length ≤ cap
    · cases bo with
      | none =>
        obtain ⟨rfl, rfl, rfl⟩ := hbr
        have hy0 : ys = [] := List.eq_nil_of_length_eq_zero (by omega)
        subst hy0
        simp only [RowC] at hnrow
        subst hnrow
        have := run_append_nothing (P := P) w t tx o.type et inf ht hinf none 0 0 (Nat.le_refl _) _ hsrc
        refine fin (l' := .row none 0 0) (hrun this) ?_ (AVV_row.2 ⟨none, 0, 0, Map.ins_same _ _ _, rfl⟩)
        exact hdrop.add hn ⟨rfl, rfl, rfl⟩ (by intro b hb; cases hb)
      | some b =>
        obtain ⟨cs, T, hc, hlen, hle, hcap, hcs, hone, hrow⟩ := hbr
        have hnl : news.length = ys.length * e'.n := RowC.length (fun _ _ h => TC.length h) hnrow
        have hcl : cs.size = cs.toList.length := by simp
        have hfit : len * e'.n + news.length ≤ cs.size := by rw [hnl, hcs, ← Nat.add_mul]; exact Nat.mul_le_mul_right _ hroom
        have hall : cs.toList = cs.toList.take (len * e'.n) ++ (cs.toList.drop (len * e'.n)).take news.length ++ cs.toList.drop (len * e'.n + news.length) := by
          rw [List.append_assoc, ← List.drop_drop, List.take_append_drop, List.take_append_drop]
        have hc' : w.heap[b]? = some (.cells (cs.toList.take (len * e'.n) ++ (cs.toList.drop (len * e'.n)).take news.length ++ cs.toList.drop (len * e'.n + news.length)).toArray T (0, 0)) := by
          rw [hc]; congr 2; apply Array.ext'; simpa using hall
        have hpl : (cs.toList.take (len * e'.n)).length = len * e'.n := by simp; omega
        have hml : ((cs.toList.drop (len * e'.n)).take news.length).length = news.length := by simp; omega
        have hth := block_there hc' (o := len * e'.n) (n := news.length) (by rw [← hall]; simp; omega)
        have hap := run_append_room_src (P := P) w t tx o.type et inf ht hinf b 0 len cap _ ys.length news hsrc hroom (by rw [hsz, Nat.zero_add]; exact hth.1) (by rw [hsz, Nat.zero_add]; exact hth.2)
        rw [hsz, Nat.zero_add] at hap
        have hw := setCells_writes b news (len * e'.n) w
        have hheap := setCells_heap b news w _ _ _ T (0, 0) hc' hml
        rw [hpl] at hheap
        have hmay : c.may b := hp.hold.own i _ _ b hHi hl rfl
        have hM : ∀ o1 v1, M b o1 = some v1 → (w.setCells b (len * e'.n) news).cell? ⟨b, o1, none⟩ = some v1 ∧ fz = true ∧ o1 < len * e'.n := by
          intro o1 v1 hv1
          obtain ⟨e2, xs2, h5, h6⟩ := hp.hold.exc i _ _ b o1 v1 hHi hl rfl hv1
          cases h5
          rw [hlen] at h6
          refine ⟨?_, rfl, h6⟩
          rw [World.cell?_setCells_out b news _ w ⟨b, o1, none⟩ (fun _ _ => .inl h6)]
          exact hp.hold.mem b o1 v1 hv1
        have hoth : ∀ j k l', hget ((i, none) :: S.H) j = some k → μ j = some l' → l'.blk ≠ some b := by
          intro j k l' hj hl' hbl
          rw [hget_cons] at hj
          split at hj
          · cases hj
          · rename_i hij
            exact hij (hp.hold.inj i j _ k _ l' b hHi hj hl hl' rfl hbl)
        have hpk := hdrop.poke hw hoth hmay (fun o1 v1 h => (hM o1 v1 h).1)
        refine fin (l' := .row (some b) (len + ys.length) cap) (hrun hap) ?_ (AVV_row.2 ⟨some b, _, _, Map.ins_same _ _ _, rfl⟩)
        refine hpk.add hn ?_ ?_
        · refine ⟨_, T, hheap, by simp [hlen], hroom, hcap, ?_, ?_, ?_⟩
          · simp only [List.size_toArray, List.length_append, hpl, List.length_drop, Array.length_toList]
            omega
          · have h1 : oneC (cs.toList.take (len * e'.n)) := fun v hv => hone v (List.mem_of_mem_take hv)
            have h2 : oneC (cs.toList.drop (len * e'.n + news.length)) := fun v hv => hone v (List.mem_of_mem_drop hv)
            exact (h1.append (RowC.one (fun _ _ h => TC.one h) hnrow)).append h2
          · have h1 : (((cs.toList.take (len * e'.n) ++ news ++ cs.toList.drop (len * e'.n + news.length)).toArray).toList).take ((len + ys.length) * e'.n) = cs.toList.take (len * e'.n) ++ news := by
              rw [List.toList_toArray]
              exact List.take_left' (by rw [List.length_append, hpl, hnl, Nat.add_mul])
            rw [h1]
            exact RowC_append hrow hnrow
        · intro b' hb'
          simp only [Loc.blk, Option.some.injEq] at hb'
          subst hb'
          refine ⟨hoth, hmay, fun o1 v1 hv1 => ?_⟩
          obtain ⟨_, h5, h6⟩ := hM o1 v1 hv1
          subst h5
          refine ⟨e', xs ++ ys, rfl, ?_⟩
          have : len * e'.n ≤ (xs ++ ys).length * e'.n := Nat.mul_le_mul_right _ (by simp; omega)
          omega
    · have hlen : xs.length = len := by
        cases bo with
        | none => obtain ⟨rfl, rfl, _⟩ := hbr; rfl
        | some b => obtain ⟨_, _, _, h, _⟩ := hbr; exact h
      obtain ⟨olds, hold, horow⟩ : ∃ olds, (Builtin.firstCells inf.size len (.slice (bo.map fun b => ⟨b, 0, none⟩) len cap)).run P w.drew = .ok olds.toArray w.drew ∧ RowC (TC M e') xs olds := by
        cases bo with
        | none =>
          obtain ⟨rfl, rfl, rfl⟩ := hbr
          exact ⟨[], run_firstCells_none w.drew _ _ _ _, rfl⟩
        | some b =>
          obtain ⟨cs, T, hc, hlen, hle, hcap, hcs, hone, hrow⟩ := hbr
          refine ⟨_, run_firstCells_some w.drew inf.size len ⟨b, 0, none⟩ len cap _ (by rw [RowC.length (fun _ _ h => TC.length h) hrow, hlen, hsz]) ?_, hrow⟩
          intro q u hq
          rw [Addr.add_mid, World.cell?_drew, cell_of_heap hc, ← Array.getElem?_toList]
          rw [List.getElem?_take] at hq
          split at hq
          · simpa using hq
          · cases hq
      have hg : cap < len + ys.length := by omega
      have hneed : len + ys.length ≤ 1073741824 := by omega
      have hap := run_append_grow_src (P := P) w t tx o.type et inf z ht hinf hz (bo.map fun b => ⟨b, 0, none⟩) len cap olds hold _ ys.length news hsrc hg (by omega) (growslice_fits_wide hg (by
        have h1 : (len + ys.length + (len + ys.length) / 4 + 192) * inf.bytes ≤ 1342177472 * 16384 := Nat.mul_le_mul (by omega) hby
        omega))
      have hge := grownCap_ge w (len + ys.length) cap et
      have hcm := grownCap_le_maxLen w (len + ys.length) cap et (by simp [maxLen]; omega)
      have hol : olds.length = len * e'.n := by rw [RowC.length (fun _ _ h => TC.length h) horow, hlen]
      have hnl : news.length = ys.length * e'.n := RowC.length (fun _ _ h => TC.length h) hnrow
      refine fin (l' := .row (some w.heap.size) (len + ys.length) (grownCap w (len + ys.length) cap et)) (hrun hap) ?_ (AVV_row.2 ⟨some w.heap.size, _, _, Map.ins_same _ _ _, rfl⟩)
      have hd := hdrop.grow (Grows.refl w).drew
      refine hd.alloc hn rfl ?_
      refine ⟨_, et, heap_alloc_new' w.drew _, by simp [hlen], hge, hcm, ?_, ?_, ?_⟩
      · simp only [Array.size_append, List.size_toArray, List.length_append, hol, hnl, size_zeroCells, hzs, hsz]
        rw [← Nat.add_mul, ← Nat.add_mul]
        congr 1
        omega
      · simp only [Array.toList_append, List.toList_toArray]
        exact ((RowC.one (fun _ _ h => TC.one h) horow).append (RowC.one (fun _ _ h => TC.one h) hnrow)).append (zeroCells_one (by rw [hzc]; exact zc_one e') _)
      · simp only [Array.toList_append, List.toList_toArray]
        have : ((olds ++ news) ++ (Builtin.zeroCells z.cells (grownCap w (len + ys.length) cap et - (len + ys.length))).toList).take ((len + ys.length) * e'.n) = olds ++ news :=
          List.take_left' (by rw [List.length_append, hol, hnl, Nat.add_mul])
        rw [this]
        exact RowC_append horow hnrow

theorem sound_nxt (x : Opd) : Sound P (.nxt x) := by
  intro c M μ G S a w nid o v u hp hm hr _
  generalize hq : o.op = q at hm
  cases q <;> simp only [mop, Bool.false_eq_true, Bool.and_eq_true] at hm
  rename_i x' isS
  obtain ⟨h1, h2⟩ := hm
  subst h1
  have hx := mo_ok hp.glob hp.env h2
  simp only [aopO, aop] at hr
  split at hr
  case h_2 => cases hr
  rename_i id he
  split at hr
  case h_2 => cases hr
  rename_i s pos hH
  rw [he] at hx
  obtain ⟨cs, hc, hv⟩ := hx
  simp only [AVC] at hc
  obtain ⟨b, hl, hc⟩ := hc
  obtain ⟨l, hl', hbr⟩ := hp.hold.blks id _ hH
  rw [hl] at hl'
  cases hl'
  have hbr : w.heap[b]? = some (.stringIter ⟨s.toArray⟩ pos) := hbr
  subst hc
  have hv : a.eval x' = .pointer (some ⟨b, 0, none⟩) := by simpa [VofC, AV.isAgg] using hv.symm
  have hget : (getObj b).run P w = .ok (.stringIter ⟨s.toArray⟩ pos) w := by
    simp only [getObj, Sem.run, hbr]
  cases hd : decide (pos < s.length) with
  | false =>
    have hd' : ¬ pos < s.length := of_decide_eq_false hd
    rw [hd] at hr
    simp only [cond_false, Option.some.injEq, Prod.mk.injEq] at hr
    obtain ⟨rfl, rfl⟩ := hr
    refine OpOk.same hp.hold (v' := .tuple #[.bool false]) ?_ ⟨[.bool false], rfl, ?_⟩
    · simp only [execOp, hq, hv, Instr.next, Sem.run_bind, hget, Result.andThen_ok, size_arr, if_neg hd', Sem.run_pure]
    · simp only [AVL]
      exact ⟨.bool false, [], [.bool false], rfl, by simp only [AVC, TC], rfl, rfl⟩
  | true =>
    have hd' : pos < s.length := of_decide_eq_true hd
    rw [hd] at hr
    simp only [cond_true, Option.some.injEq, Prod.mk.injEq] at hr
    obtain ⟨rfl, rfl⟩ := hr
    obtain ⟨cd, hcd⟩ : ∃ cd, Utf8.decode ⟨s.toArray⟩ pos = cd := ⟨_, rfl⟩
    rw [hcd]
    have hset : ∀ ob : Obj, (setObj b ob).run P w = .ok () { w with heap := w.heap.setIfInBounds b ob } := by
      intro ob
      simp only [setObj, Sem.run, hbr]
    have hb : b < w.heap.size := (Array.getElem?_eq_some_iff.1 hbr).1
    have hw : Writes w { w with heap := w.heap.setIfInBounds b (.stringIter ⟨s.toArray⟩ (pos + cd.2)) } b := ⟨rfl, rfl, rfl, by simp, fun k hk => by
      simp only [Array.getElem?_setIfInBounds]
      rw [if_neg (fun h => hk h.symm)], fun a => by
      simp only [World.frozen?, Array.getElem?_setIfInBounds]
      by_cases e : b = a.block
      · rw [if_pos e, ← e, hbr, if_pos hb]
      · rw [if_neg e]⟩
    have hbr' : BR M μ { w with heap := w.heap.setIfInBounds b (.stringIter ⟨s.toArray⟩ (pos + cd.2)) } (.obj b) (.iter s (pos + cd.2)) := by
      show (w.heap.setIfInBounds b _)[b]? = _
      rw [Array.getElem?_setIfInBounds, if_pos rfl, if_pos hb]
    refine ⟨M, μ, .tuple #[.bool true, .int .i64 (pos : Int), .int .i32 (cd.1 : Int)], _, .inl ?_, Mem.le.refl _, Map.le.refl _, hp.hold.write hH hl rfl hw hbr' ?_, ⟨[.bool true, .int .i64 (pos : Int), .int .i32 (cd.1 : Int)], rfl, ?_⟩, fun _ h => .inl h⟩
    · simp only [execOp, hq, hv, Instr.next, Sem.run_bind, hget, Result.andThen_ok, size_arr, if_pos hd', Sem.run_pure, hcd, hset, goInt]
    · intro o1 v1 hv1
      obtain ⟨_, _, h, _⟩ := hp.hold.exc id _ _ b o1 v1 hH hl rfl hv1
      cases h
    · simp only [AVL]
      exact ⟨_, _, [_], rfl, by simp only [AVC, TC], rfl, _, _, [_], rfl, by simp only [AVC, TC], rfl, _, _, [_], rfl, by simp only [AVC, TC], rfl, rfl⟩

end
end Go.Av
