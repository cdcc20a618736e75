/-
  Each operation of the abstract machine is the machine's: new memory.
-/
import Derived.Test.YtlemoepklgfjoaaDoorA11
namespace Go.Av
section
variable {P : Program}

theorem Hold.alloc {c : Ctx} {M : Mem} {μ : Map} {H : Hp} {w : World} (h : Hold c M μ H w) {i : Nat} {l : Loc} {k : Blk} {ob : Obj} (hi : μ i = none) (hl : l.blk = some w.heap.size) (hb : BR M (μ.ins i l) (w.alloc ob) l k) :
    Hold c M (μ.ins i l) ((i, some k) :: H) (w.alloc ob) := by
  have hnew : (w.alloc ob).heap[w.heap.size]? = some ob := by
    show (w.heap.push ob)[w.heap.size]? = _
    simp
  have h' := h.grow ((Grows.refl w).alloc ob (by
    intro cs T fr e
    subst e
    cases l with
    | box b =>
      simp only [Loc.blk, Option.some.injEq] at hl
      subst hl
      cases k with
      | box v =>
        obtain ⟨cs', T', h1, _⟩ := hb
        rw [hnew] at h1
        cases h1; rfl
      | _ => exact hb.elim
    | row bo len cap =>
      simp only [Loc.blk] at hl
      subst hl
      cases k with
      | row e xs fz =>
        obtain ⟨cs', T', h1, _⟩ := hb
        rw [hnew] at h1
        cases h1; rfl
      | _ => exact hb.elim
    | obj b =>
      simp only [Loc.blk, Option.some.injEq] at hl
      subst hl
      cases k with
      | mp κ l =>
        have h1 : (w.alloc (.cells cs T fr)).heap[w.heap.size]? = _ := hb
        rw [hnew] at h1
        cases h1
      | iter s pos =>
        have h1 : (w.alloc (.cells cs T fr)).heap[w.heap.size]? = _ := hb
        rw [hnew] at h1
        cases h1
      | _ => exact hb.elim))
  refine h'.add hi hb ?_
  intro b hbb
  rw [hl] at hbb
  obtain rfl := Option.some.inj hbb
  refine ⟨?_, .inr h.size, ?_⟩
  · intro j k' l' hj hl' e
    obtain ⟨l1, h1, h2⟩ := h.blks j k' hj
    rw [hl'] at h1
    cases h1
    have := h2.lt e
    omega
  · intro o v hv
    have := World.block_lt_of_cell? w _ (h.mem _ o v hv)
    simp at this

theorem heap_alloc_new' (w : World) (o : Obj) : (w.alloc o).heap[w.heap.size]? = some o := by
  show (w.heap.push o)[w.heap.size]? = _
  simp

theorem Sh_mk_ok {c : Ctx} {M : Mem} {w : World} : ∀ (sh : Sh) (n : Nat) {μ : Map} {H : Hp}, Hold c M μ H w → (∀ i, n ≤ i → i < (sh.mk n).2.2 → μ i = none) → ∀ {cs r : List Value}, sh.fits cs = some r →
    ∃ μ' pre, cs = pre ++ r ∧ μ.le μ' ∧ Hold c M μ' ((sh.mk n).2.1 ++ H) w ∧ AVC M μ' (sh.mk n).1 pre ∧ (∀ i, μ' i ≠ none → μ i ≠ none ∨ (n ≤ i ∧ i < (sh.mk n).2.2)) ∧ n ≤ (sh.mk n).2.2
  | .tv τ, n, μ, H, h, _, cs, r, hf => by
    simp only [Sh.fits] at hf
    have := takeEq_eq hf
    exact ⟨μ, zc τ, this, Map.le.refl _, h, by simpa only [AVC, Sh.mk] using TC_zero M τ, fun i hi => .inl hi, Nat.le_refl _⟩
  | .row e, n, μ, H, h, hfr, cs, r, hf => by
    cases cs with
    | nil => simp [Sh.fits] at hf
    | cons v cs =>
      simp only [Sh.fits] at hf
      cases hv : veq (.slice none 0 0) v with
      | false => simp [hv] at hf
      | true =>
        rw [hv] at hf
        simp only [cond_true, Option.some.injEq] at hf
        subst hf
        have hv := veq_eq hv
        subst hv
        have hn : μ n = none := hfr n (Nat.le_refl _) (by simp [Sh.mk])
        refine ⟨μ.ins n (.row none 0 0), [.slice none 0 0], rfl, Map.le_ins hn, ?_, ?_, ?_, by simp [Sh.mk]⟩
        · exact h.add hn ⟨rfl, rfl, rfl⟩ (by intro b hb; cases hb)
        · simp only [AVC, Sh.mk]
          exact ⟨none, 0, 0, Map.ins_same _ _ _, rfl⟩
        · intro i hi
          by_cases e : i = n
          · subst e; right; simp [Sh.mk]
          · rw [Map.ins_other _ _ _ e] at hi; exact .inl hi
  | .cons a b, n, μ, H, h, hfr, cs, r, hf => by
    simp only [Sh.fits] at hf
    split at hf
    case h_2 => cases hf
    rename_i r1 hr1
    have hmono : ∀ (sh : Sh) (m : Nat), m ≤ (sh.mk m).2.2 := by
      intro sh
      induction sh with
      | cons a b iha ihb => intro m; exact Nat.le_trans (iha m) (ihb _)
      | row e => intro m; simp [Sh.mk]
      | _ => intro m; exact Nat.le_refl _
    obtain ⟨μ1, p1, e1, l1, H1, A1, f1, m1⟩ := Sh_mk_ok a n h (fun i hi hj => hfr i hi (Nat.lt_of_lt_of_le hj (hmono b _))) hr1
    obtain ⟨μ2, p2, e2, l2, H2, A2, f2, m2⟩ := Sh_mk_ok b (a.mk n).2.2 H1 (fun i hi hj => by
      cases hq : μ1 i with
      | none => rfl
      | some l =>
        rcases f1 i (by rw [hq]; simp) with h3 | h3
        · exact absurd (hfr i (by omega) hj) h3
        · omega) hf
    refine ⟨μ2, p1 ++ p2, by rw [e1, e2]; simp, l1.trans l2, ?_, ?_, ?_, Nat.le_trans m1 m2⟩
    · simpa only [Sh.mk, List.append_assoc] using H2
    · simp only [AVC, Sh.mk]
      exact ⟨p1, p2, rfl, A1.mono (Mem.le.refl _) l2, A2⟩
    · intro i hi
      rcases f2 i hi with h3 | h3
      · rcases f1 i h3 with h4 | h4
        · exact .inl h4
        · exact .inr ⟨h4.1, Nat.lt_of_lt_of_le h4.2 m2⟩
      · exact .inr ⟨by omega, h3.2⟩
  | .nil, n, μ, H, h, _, cs, r, hf => by
    simp only [Sh.fits, Option.some.injEq] at hf
    subst hf
    exact ⟨μ, [], rfl, Map.le.refl _, h, by simp only [AVC, Sh.mk], fun i hi => .inl hi, Nat.le_refl _⟩
  | .nilp, n, μ, H, h, _, cs, r, hf => by
    cases cs with
    | nil => simp [Sh.fits] at hf
    | cons v cs =>
      simp only [Sh.fits] at hf
      cases hv : veq (.pointer none) v with
      | false => simp [hv] at hf
      | true =>
        rw [hv] at hf
        simp only [cond_true, Option.some.injEq] at hf
        subst hf
        have hv := veq_eq hv
        subst hv
        exact ⟨μ, [.pointer none], rfl, Map.le.refl _, h, by simp only [AVC, Sh.mk], fun i hi => .inl hi, Nat.le_refl _⟩
  | .junk, n, μ, H, h, _, cs, r, hf => by
    cases cs with
    | nil => simp [Sh.fits] at hf
    | cons v cs =>
      simp only [Sh.fits] at hf
      cases hv : v.oneCell' with
      | false => simp [hv] at hf
      | true =>
        rw [hv] at hf
        simp only [cond_true, Option.some.injEq] at hf
        subst hf
        exact ⟨μ, [v], rfl, Map.le.refl _, h, by simp only [AVC, Sh.mk]; exact ⟨v, rfl, hv⟩, fun i hi => .inl hi, Nat.le_refl _⟩

theorem zeroIs_ty {t : TypeId} {sh : Sh} (h : zeroIs P t sh = true) : ∃ i z, P.info? t = some i ∧ i.zero = some z ∧ sh.fits z.cells.toList = some [] := by
  unfold zeroIs at h
  split at h
  case h_2 => cases h
  rename_i i hi
  split at h
  case h_2 => cases h
  rename_i z hz
  split at h
  case h_2 => cases h
  rename_i hf
  exact ⟨i, z, hi, hz, hf⟩

theorem run_zeroValue {t : TypeId} {i : TypeInfo} {z : Value} (hi : P.info? t = some i) (hz : i.zero = some z) (w : World) : (zeroValue t).run P w = .ok z w := by
  simp [zeroValue, typeInfo, hi, hz]

theorem sound_alloc (T : TypeId) (sh : Sh) : Sound P (.alloc T sh) := by
  intro c M μ G S a w nid o v u hp hm hr hfr
  generalize hq : o.op = q at hm
  cases q <;> simp only [mop, Bool.false_eq_true, Bool.and_eq_true] at hm
  rename_i t
  obtain ⟨_, hzi⟩ := hm
  obtain ⟨i, z, hi, hz, hf⟩ := zeroIs_ty hzi
  simp only [aopO, aop, Option.some.injEq, Prod.mk.injEq] at hr
  obtain ⟨rfl, rfl⟩ := hr
  simp only at hfr
  have hmono : ∀ (sh : Sh) (m : Nat), m ≤ (sh.mk m).2.2 := by
    intro sh
    induction sh with
    | cons a b iha ihb => intro m; exact Nat.le_trans (iha m) (ihb _)
    | row e => intro m; simp [Sh.mk]
    | _ => intro m; exact Nat.le_refl _
  have hm1 := hmono sh (nid + 1)
  obtain ⟨μ1, pre, e1, l1, H1, A1, f1, _⟩ := Sh_mk_ok sh (nid + 1) hp.hold (fun j h1 h2 => hfr j (by omega) (by omega)) hf
  have hn : μ1 nid = none := by
    cases hq : μ1 nid with
    | none => rfl
    | some l =>
      rcases f1 nid (by rw [hq]; simp) with h | h
      · exact absurd (hfr nid (Nat.le_refl _) (by omega)) h
      · omega
  rw [List.append_nil] at e1
  have hb : BR M (μ1.ins nid (.box w.heap.size)) (w.alloc (.cells z.cells t)) (.box w.heap.size) (.box (sh.mk (nid + 1)).1) :=
    ⟨z.cells, t, heap_alloc_new' w _, by rw [e1]; exact A1.mono (Mem.le.refl _) (Map.le_ins hn)⟩
  refine ⟨M, μ1.ins nid (.box w.heap.size), .pointer (some ⟨w.heap.size, 0, none⟩), w.alloc (.cells z.cells t), .inl ?_, Mem.le.refl _, l1.trans (Map.le_ins hn), ?_, ?_, ?_⟩
  · simp [execOp, hq, Instr.alloc, run_zeroValue hi hz, newVar, newRow]
  · exact H1.alloc hn rfl hb
  · exact AVV_ptr.2 ⟨.box w.heap.size, w.heap.size, Map.ins_same _ _ _, rfl, rfl, by simp, trivial⟩
  · intro j hj
    by_cases e : j = nid
    · subst e; right; simp only; omega
    · rw [Map.ins_other _ _ _ e] at hj
      rcases f1 j hj with h | h
      · exact .inl h
      · right; simp only; omega

theorem sound_box (x : Opd) : Sound P (.box x) := by
  intro c M μ G S a w nid o v u hp hm hr hfr
  generalize hq : o.op = q at hm
  cases q <;> simp only [mop, Bool.false_eq_true] at hm
  rename_i t x'
  have hx := mo_ok hp.glob hp.env hm
  simp only [aopO, aop] at hr
  cases hl : (ev G S x).live with
  | false => simp [hl] at hr
  | true =>
    rw [hl] at hr
    simp only [cond_true, Option.some.injEq, Prod.mk.injEq] at hr
    obtain ⟨rfl, rfl⟩ := hr
    obtain ⟨cs, hc, hv⟩ := AVV_live hx hl
    have hcells := hv.cells hc.one
    have hn : μ nid = none := hfr nid (Nat.le_refl _) (by simp)
    have hb : BR M (μ.ins nid (.box w.heap.size)) (w.alloc (.cells (a.eval x').cells t)) (.box w.heap.size) (.box (ev G S x)) :=
      ⟨_, t, heap_alloc_new' w _, by rw [hcells]; exact hc.mono (Mem.le.refl _) (Map.le_ins hn)⟩
    refine ⟨M, μ.ins nid (.box w.heap.size), .pointer (some ⟨w.heap.size, 0, none⟩), w.alloc (.cells (a.eval x').cells t), .inl ?_, Mem.le.refl _, Map.le_ins hn, ?_, ?_, ?_⟩
    · simp [execOp, hq, Instr.box, newVar, newRow]
    · exact hp.hold.alloc hn rfl hb
    · exact AVV_ptr.2 ⟨.box w.heap.size, w.heap.size, Map.ins_same _ _ _, rfl, rfl, by simp, trivial⟩
    · intro j hj
      by_cases e : j = nid
      · subst e; right; simp
      · rw [Map.ins_other _ _ _ e] at hj; exact .inl hj

theorem sound_rng (x : Opd) : Sound P (.rng x) := by
  intro c M μ G S a w nid o v u hp hm hr hfr
  generalize hq : o.op = q at hm
  cases q <;> simp only [mop, Bool.false_eq_true, Bool.and_eq_true] at hm
  rename_i t x'
  obtain ⟨ht, h2⟩ := hm
  have hx := mo_ok hp.glob hp.env h2
  simp only [aopO, aop] at hr
  split at hr
  case h_2 => cases hr
  rename_i s he
  rw [he, AVV_str] at hx
  simp only [Option.some.injEq, Prod.mk.injEq] at hr
  obtain ⟨rfl, rfl⟩ := hr
  have hn : μ nid = none := hfr nid (Nat.le_refl _) (by simp)
  have hb : BR M (μ.ins nid (.obj w.heap.size)) (w.alloc (.stringIter ⟨s.toArray⟩ 0)) (.obj w.heap.size) (.iter s 0) := heap_alloc_new' w _
  refine ⟨M, μ.ins nid (.obj w.heap.size), .pointer (some ⟨w.heap.size, 0, none⟩), w.alloc (.stringIter ⟨s.toArray⟩ 0), .inl ?_, Mem.le.refl _, Map.le_ins hn, hp.hold.alloc hn rfl hb, ?_, ?_⟩
  · simp [execOp, hq, hx, Instr.range, run_underlying (isStr_ty ht)]
  · refine AVV_of (a := .obj nid) (c := [.pointer (some ⟨w.heap.size, 0, none⟩)]) ?_ rfl
    simp only [AVC]
    exact ⟨w.heap.size, Map.ins_same _ _ _, rfl⟩
  · intro j hj
    by_cases e : j = nid
    · subst e; right; simp
    · rw [Map.ins_other _ _ _ e] at hj; exact .inl hj

theorem zc_length : ∀ τ : Ty, (zc τ).length = τ.n := fun τ => (TC_zero (fun _ _ => none) τ).length
theorem zc_one : ∀ τ : Ty, oneC (zc τ) := fun τ => (TC_zero (fun _ _ => none) τ).one

theorem madeCells_list (z : Array Value) (k : Nat) (hk : 0 < k) (hz : z.size = k) : ∀ c : Nat, (madeCells z (c * k)).toList = (List.replicate c z.toList).flatten
  | 0 => by simp [madeCells]
  | c + 1 => by
    have ih := madeCells_list z k hk hz c
    unfold madeCells at ih ⊢
    rw [Nat.succ_mul]
    simp only [Array.toList_map, Array.toList_range] at ih ⊢
    rw [List.range_add, List.map_append, ih, List.replicate_succ', List.flatten_append]
    congr 1
    simp only [List.map_map, List.flatten_cons, List.flatten_nil, List.append_nil]
    apply List.ext_getElem
    · simp [hz]
    · intro i h1 h2
      simp only [List.getElem_map, List.getElem_range, Function.comp_apply, hz]
      have hi : i < k := by simpa using h1
      have : (c * k + i) % k = i := by
        rw [Nat.mul_comm, Nat.mul_add_mod, Nat.mod_eq_of_lt hi]
      rw [this]
      simp [hz, hi]

theorem flatten_replicate_length (c : Nat) (l : List Value) : (List.replicate c l).flatten.length = c * l.length := by simp

theorem flatten_take (c l : Nat) (xs : List Value) (h : l ≤ c) : ((List.replicate c xs).flatten).take (l * xs.length) = (List.replicate l xs).flatten := by
  obtain ⟨d, rfl⟩ : ∃ d, c = l + d := ⟨c - l, by omega⟩
  rw [← List.replicate_append_replicate, List.flatten_append]
  exact List.take_left' (by simp)

theorem oneC_flatten {c : Nat} {xs : List Value} (h : oneC xs) : oneC (List.replicate c xs).flatten := by
  intro v hv
  simp only [List.mem_flatten, List.mem_replicate] at hv
  obtain ⟨l, ⟨_, rfl⟩, hv⟩ := hv
  exact h v hv

theorem mk_nums {nn cc : Int} {k : Nat} (b1 : 0 ≤ nn) (b2 : nn ≤ cc) (b3 : cc ≤ (rowMax : Int)) (hk : k ≤ 16384) : (k : Int) * cc ≤ 281474976710656 ∧ cc ≤ 9223372036854775807 ∧ nn.toNat ≤ cc.toNat ∧ cc.toNat ≤ maxLen := by
  have hrm : (rowMax : Int) = 1073741824 := rfl
  rw [hrm] at b3
  have : (k : Int) * cc ≤ 16384 * 1073741824 := Int.mul_le_mul (by omega) (by omega) (by omega) (by omega)
  refine ⟨by omega, by omega, by omega, ?_⟩
  simp [maxLen]; omega

theorem sound_nrow (e : Ty) : Sound P (.nrow e) := by
  intro c M μ G S a w nid o v u hp hm hr hf
  simp only [aopO, aop, Option.some.injEq, Prod.mk.injEq] at hr
  obtain ⟨rfl, rfl⟩ := hr
  have hn : μ nid = none := hf nid (Nat.le_refl _) (Nat.lt_succ_self _)
  have key : (execOp a.eval o).run P w = .ok (.value (.slice none 0 0)) w := by
    generalize hq : o.op = q at hm
    unfold mop at hm
    split at hm <;> first | (cases hm; done) | skip
    all_goals first | (rename_i heq; cases heq; done) | skip
    all_goals simp_all [execOp, Act.eval]
  refine ⟨M, μ.ins nid (.row none 0 0), _, w, .inl key, Mem.le.refl _, Map.le_ins hn, ?_, AVV_row.2 ⟨none, 0, 0, Map.ins_same _ _ _, rfl⟩, fun i hi => ?_⟩
  · exact hp.hold.add hn ⟨rfl, rfl, rfl⟩ (by intro b hb; cases hb)
  · by_cases e : i = nid
    · subst e; exact .inr ⟨Nat.le_refl _, Nat.lt_succ_self _⟩
    · rw [Map.ins_other _ _ _ e] at hi; exact .inl hi

theorem sound_mkslice (e : Ty) (n k : Opd) : Sound P (.mkslice e n k) := by
  intro c M μ G S a w nid o v u hp hm hr hfr
  generalize hq : o.op = q at hm
  cases q <;> simp only [mop, Bool.false_eq_true, Bool.and_eq_true] at hm
  rename_i t x' y'
  obtain ⟨⟨ht, h2⟩, h3⟩ := hm
  have hx := mo_ok hp.glob hp.env h2
  have hy := mo_ok hp.glob hp.env h3
  split at ht
  case h_2 => cases ht
  rename_i et hsl
  obtain ⟨inf, z, hinf, hsz, hpos, hby, hz, hzc⟩ := elOk_ty ht
  simp only [aopO, aop] at hr
  split at hr
  case h_2 => cases hr
  rename_i kn nn kc cc e1 e2
  rw [e1, AVV_int] at hx
  rw [e2, AVV_int] at hy
  cases hb : decide (0 ≤ (nn : Int) ∧ (nn : Int) ≤ cc ∧ (cc : Int) ≤ rowMax) with
  | false => simp [hb] at hr
  | true =>
    have hb' := of_decide_eq_true hb
    obtain ⟨b1, b2, b3⟩ := hb'
    obtain ⟨n1, n2, n3, n4⟩ := mk_nums b1 b2 b3 hby
    rw [hb] at hr
    simp only [cond_true, Option.some.injEq, Prod.mk.injEq] at hr
    obtain ⟨rfl, rfl⟩ := hr
    have hn : μ nid = none := hfr nid (Nat.le_refl _) (by simp)
    have hrun := run_make (P := P) w t et inf z (slOf_ty hsl) hinf hz kn kc nn cc b1 b2 n1 n2
    have hzs : z.cells.size = e.n := by rw [← Array.length_toList, hzc, zc_length]
    have hml := madeCells_list z.cells e.n (by omega) hzs (cc : Int).toNat
    rw [hzc] at hml
    rw [hsz] at hrun
    have hb : BR M (μ.ins nid (.row (some w.heap.size) (nn : Int).toNat (cc : Int).toNat)) (w.alloc (.cells (madeCells z.cells ((cc : Int).toNat * e.n)) et)) (.row (some w.heap.size) (nn : Int).toNat (cc : Int).toNat) (.row e (List.replicate (nn : Int).toNat e.zero) false) := by
      refine ⟨_, et, heap_alloc_new' w _, by simp, n3, n4, by simp [madeCells], ?_, ?_⟩
      · rw [hml]; exact oneC_flatten (zc_one e)
      · rw [hml]
        have := flatten_take (cc : Int).toNat (nn : Int).toNat (zc e) n3
        rw [zc_length] at this
        rw [this]
        exact RowC_replicate (TC_zero M e) _
    refine ⟨M, _, .slice (some ⟨w.heap.size, 0, none⟩) (nn : Int).toNat (cc : Int).toNat, _, .inl ?_, Mem.le.refl _, Map.le_ins hn, hp.hold.alloc hn rfl hb, ?_, ?_⟩
    · simp only [execOp, hq, hx, hy, Sem.run_bind, Sem.run_pure, hrun, Result.andThen_ok]
    · exact AVV_row.2 ⟨some w.heap.size, _, _, Map.ins_same _ _ _, rfl⟩
    · intro j hj
      by_cases e : j = nid
      · subst e; right; simp
      · rw [Map.ins_other _ _ _ e] at hj; exact .inl hj

end
end Go.Av
