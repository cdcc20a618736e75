/-
  Each operation of the abstract machine is the machine's: rows that become still; slices of slices and of texts.
-/
import Derived.Test.YtlemoepklgfjoaaDoorA13
namespace Go.Av
section
variable {P : Program}

theorem toTF_ok {c : Ctx} {μ : Map} {w : World} : ∀ (a : AV) (τ : Ty) {M : Mem} {H : Hp} {x : τ.T} {d : Hp} {cs : List Value}, toTF τ a H = some (x, d) → Hold c M μ H w → AVC M μ a cs →
    ∃ M', M.le M' ∧ Hold c M' μ (d ++ H) w ∧ TC M' τ x cs ∧ a.isAgg = τ.isAgg
  | .tv σ y, τ, M, H, x, d, cs, h, hH, hc => by
    unfold toTF at h
    split at h
    · rename_i e
      subst e
      simp only [Option.some.injEq, Prod.mk.injEq] at h
      obtain ⟨rfl, rfl⟩ := h
      exact ⟨M, Mem.le.refl _, hH, by simpa only [AVC] using hc, rfl⟩
    · cases h
  | .row i, τ, M, H, x, d, cs, h, hH, hc => by
    unfold toTF at h
    cases τ with
    | sl e =>
      simp only at h
      split at h
      case h_2 => cases h
      rename_i e' xs fz hi
      split at h
      case isFalse => cases h
      rename_i he
      subst he
      simp only [Option.some.injEq, Prod.mk.injEq] at h
      obtain ⟨rfl, rfl⟩ := h
      obtain ⟨M', h1, h2, h3⟩ := hH.freeze hi
      refine ⟨M', h1, h2, ?_, rfl⟩
      have := h3 cs hc
      simpa only [AVC] using this
    | _ => cases h
  | .cons u v, τ, M, H, x, d, cs, h, hH, hc => by
    unfold toTF at h
    simp only [AVC] at hc
    obtain ⟨c1, c2, rfl, hc1, hc2⟩ := hc
    cases τ with
    | pr a b =>
      simp only at h
      split at h
      case h_2 => cases h
      rename_i y1 d1 h1
      split at h
      case h_2 => cases h
      rename_i y2 d2 h2
      simp only [Option.some.injEq, Prod.mk.injEq] at h
      obtain ⟨rfl, rfl⟩ := h
      obtain ⟨M1, l1, H1, t1, _⟩ := toTF_ok u a h1 hH hc1
      obtain ⟨M2, l2, H2, t2, _⟩ := toTF_ok v b h2 H1 (hc2.mono l1 (Map.le.refl _))
      exact ⟨M2, l1.trans l2, by simpa only [List.append_assoc] using H2, ⟨c1, c2, rfl, t1.mono l2, t2⟩, rfl⟩
    | arr n e =>
      cases n with
      | zero => cases h
      | succ n =>
        simp only at h
        split at h
        case h_2 => cases h
        rename_i y1 d1 h1
        split at h
        case h_2 => cases h
        rename_i y2 d2 h2
        simp only [Option.some.injEq, Prod.mk.injEq] at h
        obtain ⟨rfl, rfl⟩ := h
        obtain ⟨M1, l1, H1, t1, _⟩ := toTF_ok u e h1 hH hc1
        obtain ⟨M2, l2, H2, ⟨hl, t2⟩, _⟩ := toTF_ok v (.arr n e) h2 H1 (hc2.mono l1 (Map.le.refl _))
        exact ⟨M2, l1.trans l2, by simpa only [List.append_assoc] using H2, ⟨by simpa using hl, ⟨c1, c2, rfl, t1.mono l2, t2⟩⟩, rfl⟩
    | _ => cases h
  | .sln b e' xs, τ, M, H, x, d, cs, h, hH, hc => by
    unfold toTF at h
    simp only [AVC] at hc
    cases τ with
    | sl e =>
      simp only at h
      split at h
      case isFalse => cases h
      rename_i he
      subst he
      simp only [Option.some.injEq, Prod.mk.injEq] at h
      obtain ⟨rfl, rfl⟩ := h
      exact ⟨M, Mem.le.refl _, hH, hc.1, rfl⟩
    | _ => cases h
  | .nil, τ, M, H, x, d, cs, h, hH, hc => by
    unfold toTF at h
    simp only [AVC] at hc
    subst hc
    cases τ with
    | nil =>
      simp only [Option.some.injEq, Prod.mk.injEq] at h
      obtain ⟨_, rfl⟩ := h
      exact ⟨M, Mem.le.refl _, hH, rfl, rfl⟩
    | arr n e =>
      cases n with
      | zero =>
        simp only [Option.some.injEq, Prod.mk.injEq] at h
        obtain ⟨rfl, rfl⟩ := h
        exact ⟨M, Mem.le.refl _, hH, ⟨rfl, rfl⟩, rfl⟩
      | succ n => cases h
    | _ => cases h
  | .ptr _ _, _, _, _, _, _, _, h, _, _ | .fp _ _, _, _, _, _, _, _, h, _, _ | .obj _, _, _, _, _, _, _, h, _, _ | .mp _, _, _, _, _, _, _, h, _, _ | .nilp, _, _, _, _, _, _, h, _, _ | .nilf, _, _, _, _, _, _, h, _, _ | .fn _ _ _, _, _, _, _, _, _, h, _, _ | .tup _, _, _, _, _, _, _, h, _, _ | .junk, _, _, _, _, _, _, h, _, _ | .dead, _, _, _, _, _, _, h, _, _ => by
    unfold toTF at h; cases h

/-- A value becomes a tree. -/
theorem toTF_AVV {c : Ctx} {μ : Map} {w : World} {a : AV} {τ : Ty} {M : Mem} {H : Hp} {x : τ.T} {d : Hp} {v : Value} (h : toTF τ a H = some (x, d)) (hH : Hold c M μ H w) (hv : AVV M μ a v) :
    ∃ M', M.le M' ∧ Hold c M' μ (d ++ H) w ∧ ∃ cs, TC M' τ x cs ∧ VofC τ.isAgg cs v := by
  have hl : a.live = true := by
    cases a <;> first | rfl | (unfold toTF at h; cases h)
  obtain ⟨cs, h1, h2⟩ := AVV_live hv hl
  obtain ⟨M', l1, H1, t1, e⟩ := toTF_ok a τ h hH h1
  exact ⟨M', l1, H1, cs, t1, by rw [← e]; exact h2⟩

theorem toTFs_ok {c : Ctx} {μ : Map} {w : World} {G : Nat → AV} {S : St} {a : Act} {e : Ty} : ∀ (xs : List Opd) (k : Nat) (ps : List (Nat × Operand)) {M : Mem} {H : Hp} {ys : List e.T} {d : Hp}, GlobOk M G → EnvOk M μ S a → mpartsS k xs ps = true → toTFs e (xs.map (ev G S)) H = some (ys, d) → Hold c M μ H w →
    ∃ M' cs, M.le M' ∧ Hold c M' μ (d ++ H) w ∧ RowC (TC M' e) ys cs ∧ ys.length = xs.length ∧
      ∀ (cells : Array Value) (done rest : List Value), cells.toList = done ++ rest → done.length = k * e.n → rest.length = xs.length * e.n →
        ∃ cells', cells'.toList = done ++ cs ∧ Instr.fill (fun i => some (i * e.n, e.n)) cells (ps.map fun p => (p.1, a.eval p.2)) = some cells'
  | [], k, [], M, H, ys, d, _, _, _, h, hH => by
    simp only [List.map_nil, toTFs, Option.some.injEq, Prod.mk.injEq] at h
    obtain ⟨rfl, rfl⟩ := h
    refine ⟨M, [], Mem.le.refl _, hH, rfl, rfl, ?_⟩
    intro cells done rest e1 _ e3
    have : rest = [] := List.eq_nil_of_length_eq_zero (by simpa using e3)
    subst this
    exact ⟨cells, e1, rfl⟩
  | x :: xs, k, (i, y) :: ps, M, H, ys, d, hG, hE, hm, h, hH => by
    simp only [mpartsS, Bool.and_eq_true] at hm
    obtain ⟨⟨h1, h2⟩, h3⟩ := hm
    obtain rfl := Nat.eq_of_beq_eq_true h1
    simp only [List.map_cons, toTFs] at h
    split at h
    case h_2 => cases h
    rename_i y1 d1 hy1
    split at h
    case h_2 => cases h
    rename_i y2 d2 hy2
    simp only [Option.some.injEq, Prod.mk.injEq] at h
    obtain ⟨rfl, rfl⟩ := h
    obtain ⟨M1, l1, H1, c1, t1, v1⟩ := toTF_AVV hy1 hH (mo_ok hG hE h2)
    obtain ⟨M2, c2, l2, H2, t2, hlen, hf⟩ := toTFs_ok xs (i + 1) ps (hG.mono l1) (fun t => (hE t).mono l1 (Map.le.refl _)) h3 hy2 H1
    refine ⟨M2, c1 ++ c2, l1.trans l2, by simpa only [List.append_assoc] using H2, ⟨c1, c2, rfl, t1.mono l2, t2⟩, by simp [hlen], ?_⟩
    intro cells done rest e1 e2 e3
    have hc : (a.eval y).cells.toList = c1 := v1.cells t1.one
    have hcl : c1.length = e.n := t1.length
    have hcs : (a.eval y).cells.size = e.n := by rw [← Array.length_toList, hc, hcl]
    have hrl : e.n ≤ rest.length := by rw [e3, List.length_cons, Nat.succ_mul]; omega
    obtain ⟨cells1, e4, e5⟩ := fill_one (place := fun i => some (i * e.n, e.n)) (i := i) rfl (v := a.eval y) (cells := cells) (pre := done) (mid := rest.take e.n) (post := rest.drop e.n) (by rw [e1]; simp) e2 (by simp; omega) hcs (ps.map fun p => (p.1, a.eval p.2))
    obtain ⟨cells2, e6, e7⟩ := hf cells1 (done ++ c1) (rest.drop e.n) (by rw [e4, hc]) (by rw [List.length_append, e2, hcl, Nat.succ_mul]) (by rw [List.length_drop, e3, List.length_cons, Nat.succ_mul]; omega)
    exact ⟨cells2, by rw [e6]; simp, by rw [List.map_cons, e5]; exact e7⟩
  | [], _, _ :: _, _, _, _, _, _, _, hm, _, _ => by simp [mpartsS] at hm
  | _ :: _, _, [], _, _, _, _, _, _, hm, _, _ => by simp [mpartsS] at hm

theorem run_buildSlice {t e : TypeId} {i : TypeInfo} {z : Value} (ht : P.underlying t = some (.slice e)) (hi : P.info? e = some i) (hz : i.zero = some z) {len n : Nat} (hn : i.size = n) (hbig : len * n ≤ 16777216) {parts : Array (Nat × Value)} {cells' : Array Value}
    (hf : Instr.fill (fun i => some (i * n, n)) (madeCells z.cells (len * n)) parts.toList = some cells') (w : World) :
    (Instr.buildSlice t len parts).run P w = .ok (.slice (some ⟨w.heap.size, 0, none⟩) len len) (w.alloc (.cells cells' e)) := by
  subst hn
  have hlt : ¬ (16777216 < len * i.size) := by omega
  by_cases h0 : len * i.size = 0
  · have hm : madeCells z.cells (len * i.size) = #[] := by rw [h0]; simp [madeCells]
    rw [hm] at hf
    have h0' : len = 0 ∨ i.size = 0 := Nat.mul_eq_zero.1 h0
    simp only [Instr.buildSlice, Sem.run_bind, run_underlying ht, run_sizeOf hi, Result.andThen_ok]
    rw [if_neg (by omega)]
    simp only [Sem.run_bind, Sem.run_ite, if_pos h0, Sem.run_pure, Result.andThen_ok]
    have hr : Array.map (fun (j : Nat) => (#[] : Array Value)[j % (#[] : Array Value).size]!) (Array.range (len * i.size)) = #[] := by rw [h0]; simp
    rw [hr, hf]
    rfl
  · simp only [Instr.buildSlice, Sem.run_bind, run_underlying ht, run_sizeOf hi, Result.andThen_ok]
    rw [if_neg (by omega)]
    simp only [Sem.run_bind, Sem.run_ite, if_neg h0, run_zeroValue hi hz, Sem.run_pure, Result.andThen_ok]
    have hr : Array.map (fun (j : Nat) => z.cells[j % z.cells.size]!) (Array.range (len * i.size)) = madeCells z.cells (len * i.size) := rfl
    rw [hr, hf]
    rfl

theorem sound_bslice (e : Ty) (parts : List Opd) : Sound P (.bslice e parts) := by
  intro c M μ G S a w nid o v u hp hm hr hfr
  generalize hq : o.op = q at hm
  cases q <;> simp only [mop, Bool.false_eq_true] at hm
  rename_i t len ps
  split at hm
  case h_2 => cases hm
  rename_i et hsl
  simp only [Bool.and_eq_true] at hm
  obtain ⟨⟨⟨hel, hlen⟩, hbig⟩, hmp⟩ := hm
  have hlen := Nat.eq_of_beq_eq_true hlen
  have hbig := Nat.le_of_ble_eq_true hbig
  obtain ⟨inf, z, hinf, hsz, hpos, hby, hz, hzc⟩ := elOk_ty hel
  simp only [aopO, aop] at hr
  split at hr
  case h_2 => cases hr
  rename_i xs d hx
  simp only [Option.some.injEq, Prod.mk.injEq] at hr
  obtain ⟨rfl, rfl⟩ := hr
  have hn : μ nid = none := hfr nid (Nat.le_refl _) (by simp)
  obtain ⟨M1, cs, l1, H1, t1, hxl, hf⟩ := toTFs_ok parts 0 ps.toList hp.glob hp.env hmp hx hp.hold
  have hzs : z.cells.size = e.n := by rw [← Array.length_toList, hzc, zc_length]
  obtain ⟨cells', e1, e2⟩ := hf (madeCells z.cells (len * e.n)) [] (madeCells z.cells (len * e.n)).toList (by simp) (by simp) (by simp [madeCells, hlen])
  simp only [List.nil_append] at e1
  have hsize : cells'.size = xs.length * e.n := by rw [← Array.length_toList, e1]; exact RowC.length (fun _ _ h => TC.length h) t1
  have hmap : (Array.map (fun (x : Nat × Operand) => (x.1, a.eval x.2)) ps).toList = ps.toList.map fun p => (p.1, a.eval p.2) := by simp
  have hxl' : xs.length = len := by rw [hxl, hlen]
  have hb : BR M1 (μ.ins nid (.row (some w.heap.size) len len)) (w.alloc (.cells cells' et)) (.row (some w.heap.size) len len) (.row e xs false) := by
    refine ⟨cells', et, heap_alloc_new' w _, hxl', Nat.le_refl _, ?_, by rw [hsize, hxl'], by rw [e1]; exact RowC.one (fun _ _ h => TC.one h) t1, ?_⟩
    · have : len ≤ len * e.n := Nat.le_mul_of_pos_right _ (by omega)
      simp [maxLen]; omega
    · have hcs : cs.length = len * e.n := by rw [RowC.length (fun _ _ h => TC.length h) t1, hxl']
      rw [e1, List.take_of_length_le (by omega)]
      exact t1
  refine ⟨M1, μ.ins nid (.row (some w.heap.size) len len), .slice (some ⟨w.heap.size, 0, none⟩) len len, w.alloc (.cells cells' et), .inl ?_, l1, Map.le_ins hn, ?_, ?_, ?_⟩
  · rw [← hmap] at e2
    have hrun := run_buildSlice (slOf_ty hsl) hinf hz hsz hbig e2 w
    simp only [execOp, hq, Sem.run_bind, hrun, Result.andThen_ok, Sem.run_pure]
  · exact H1.alloc hn rfl hb
  · exact AVV_row.2 ⟨some w.heap.size, _, _, Map.ins_same _ _ _, rfl⟩
  · intro j hj
    by_cases e : j = nid
    · subst e; right; simp
    · rw [Map.ins_other _ _ _ e] at hj; exact .inl hj

theorem RowC_u8 {M : Mem} : ∀ {xs : List Int} {cs : List Value}, RowC (TC M (.int .u8)) xs cs → cs = xs.map (Value.int .u8)
  | [], _, h => h
  | x :: xs, cs, ⟨c1, c2, e, h1, h2⟩ => by
    simp only [TC] at h1
    subst h1; subst e
    rw [RowC_u8 h2]; rfl

theorem foldl_push (ns : List Int) : ∀ r : ByteArray, ns.foldl (fun r n => r.push (UInt8.ofNat n.toNat)) r = ⟨(r.data.toList ++ ns.map toU8).toArray⟩ := by
  induction ns with
  | nil => intro r; apply ByteArray.ext; simp
  | cons n ns ih =>
    intro r
    rw [List.foldl_cons, ih]
    apply ByteArray.ext
    simp [ByteArray.push, toU8]

theorem run_bstr {s d e : TypeId} (hs : P.underlying s = some (.slice e)) (he : P.underlying e = some (.int .u8)) (hd : P.underlying d = some .string) {w : World} {ao : Option Addr} {cap : Nat} {xs : List Int}
    (h : xs = [] ∨ ∃ ad, ao = some ad ∧ ∀ j v, (xs.map (Value.int .u8))[j]? = some v → w.cell? (ad.add j) = some v) :
    (convert s d (.slice ao xs.length cap)).run P w = .ok (.string ⟨(xs.map toU8).toArray⟩) w := by
  rw [run_convert_bytes_string w s d e ao xs.length cap hs he hd]
  cases ao with
  | none =>
    rcases h with rfl | ⟨ad, h, _⟩
    · rfl
    · cases h
  | some ad =>
    have hc : ∀ j v, (xs.map (Value.int .u8))[j]? = some v → w.cell? (ad.add j) = some v := by
      rcases h with rfl | ⟨ad', h1, h2⟩
      · simp
      · cases h1; exact h2
    have hl := run_loadCells_list (P := P) w ad (xs.map (Value.int .u8)) hc
    rw [List.length_map] at hl
    rw [run_bytesToString w ad xs.length cap xs hl, foldl_push]
    simp

theorem cells_of_M {M : Mem} {w : World} (hm : ∀ b o v, M b o = some v → w.cell? ⟨b, o, none⟩ = some v) {b o : Nat} {es : List Value} (h : ∀ j v, es[j]? = some v → M b (o + j) = some v) : ∀ j v, es[j]? = some v → w.cell? ((⟨b, o, none⟩ : Addr).add j) = some v := by
  intro j v hv
  rw [Addr.add_mid]
  exact hm _ _ _ (h j v hv)

theorem sound_bstr (x : Opd) : Sound P (.bstr x) := by
  intro c M μ G S a w nid o v u hp hm hr _
  generalize hq : o.op = q at hm
  cases q <;> simp only [mop, Bool.false_eq_true, Bool.and_eq_true] at hm
  rename_i s d x'
  obtain ⟨⟨h0, h1⟩, h2⟩ := hm
  have hx := mo_ok hp.glob hp.env h2
  split at h0
  case h_2 => cases h0
  rename_i e hsl
  have he := isInt_ty h0
  have hd := isStr_ty h1
  have hs := slOf_ty hsl
  simp only [aopO, aop] at hr
  split at hr
  · rename_i xs e1
    rw [e1, AVV_tv] at hx
    obtain ⟨cs, ⟨ad, cap, rfl, es, hrow, hM, hcap⟩, hv⟩ := hx
    have hv : a.eval x' = .slice ad xs.length cap := by simpa [VofC, Ty.isAgg] using hv.symm
    simp only [Option.some.injEq, Prod.mk.injEq] at hr
    obtain ⟨rfl, rfl⟩ := hr
    refine OpOk.same hp.hold (v' := .string ⟨(List.map toU8 xs).toArray⟩) ?_ (AVV_str.2 rfl)
    have := run_bstr hs he hd (w := w) (ao := ad) (cap := cap) (xs := xs) (by
      rcases hM with rfl | ⟨b, o1, rfl, hM⟩
      · exact .inl rfl
      · rw [RowC_u8 hrow] at hM
        exact .inr ⟨_, rfl, cells_of_M hp.hold.mem hM⟩)
    simp only [execOp, hq, hv, Sem.run_bind, this, Sem.run_pure, Result.andThen_ok]
  · rename_i i e1
    split at hr
    case h_2 => cases hr
    rename_i xs fz hH
    simp only [Option.some.injEq, Prod.mk.injEq] at hr
    obtain ⟨rfl, rfl⟩ := hr
    rw [e1, AVV_row] at hx
    obtain ⟨bo, len, cap, hl, hv⟩ := hx
    obtain ⟨l, hl', hbr⟩ := hp.hold.blks i _ hH
    rw [hl] at hl'
    cases hl'
    refine OpOk.same hp.hold (v' := .string ⟨(List.map toU8 xs).toArray⟩) ?_ (AVV_str.2 rfl)
    cases bo with
    | none =>
      obtain ⟨rfl, rfl, rfl⟩ := hbr
      have := run_bstr hs he hd (w := w) (ao := none) (cap := 0) (xs := []) (.inl rfl)
      simp only [List.length_nil] at this
      simp only [Option.map_none] at hv
      simp only [execOp, hq, hv, Sem.run_bind, this, Sem.run_pure, Result.andThen_ok]
    | some b =>
      obtain ⟨cs, T, hc, hlen, hle, hcap, hcs, hone, hrow⟩ := hbr
      have hes := RowC_u8 hrow
      have := run_bstr hs he hd (w := w) (ao := some ⟨b, 0, none⟩) (cap := cap) (xs := xs) (.inr ⟨_, rfl, by
        intro j v hv
        rw [Addr.add_mid, cell_of_heap hc, ← Array.getElem?_toList]
        rw [← hes] at hv
        rw [List.getElem?_take] at hv
        split at hv
        · simpa using hv
        · cases hv⟩)
      simp only [Option.map_some] at hv
      rw [hlen] at this
      simp only [execOp, hq, hv, Sem.run_bind, this, Sem.run_pure, Result.andThen_ok]
  · cases hr

end
end Go.Av
