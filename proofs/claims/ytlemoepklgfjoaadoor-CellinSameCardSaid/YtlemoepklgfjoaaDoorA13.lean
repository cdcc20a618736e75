/-
  Each operation of the abstract machine is the machine's: literals; rows that become still; slices of slices and of texts.
-/
import Derived.Test.YtlemoepklgfjoaaDoorA12
namespace Go.Av
section
variable {P : Program}

theorem splice_foldl : ∀ (vs : List Value) (k off : Nat) (cells : Array Value) (pre mid post : List Value), cells.toList = pre ++ mid ++ post → pre.length = off + k → mid.length = vs.length →
    ((vs.zipIdx k).foldl (fun cs (c, j) => cs.setIfInBounds (off + j) c) cells).toList = pre ++ vs ++ post
  | [], k, off, cells, pre, mid, post, e, hl, hm => by
    have : mid = [] := List.eq_nil_of_length_eq_zero (by simpa using hm)
    subst this
    simpa using e
  | v :: vs, k, off, cells, pre, mid, post, e, hl, hm => by
    match mid, hm with
    | m :: mid, hm =>
      rw [List.zipIdx_cons, List.foldl_cons]
      have := splice_foldl vs (k + 1) off (cells.setIfInBounds (off + k) v) (pre ++ [v]) mid post (by
        rw [Array.toList_setIfInBounds, e, ← hl]
        simp) (by simp; omega) (by simpa using hm)
      rw [this]
      simp

theorem fill_one {place : Nat → Option (Nat × Nat)} {i off n : Nat} (hp : place i = some (off, n)) {v : Value} {cells : Array Value} {pre mid post : List Value} (e : cells.toList = pre ++ mid ++ post) (hl : pre.length = off) (hm : mid.length = n) (hv : v.cells.size = n) (rest : List (Nat × Value)) :
    ∃ cells', cells'.toList = pre ++ v.cells.toList ++ post ∧ Instr.fill place cells ((i, v) :: rest) = Instr.fill place cells' rest := by
  refine ⟨_, splice_foldl v.cells.toList 0 off cells pre mid post e (by simpa using hl) (by simp [hm, hv]), ?_⟩
  rw [Instr.fill, hp]
  have hsz : off + v.cells.size ≤ cells.size := by
    have := congrArg List.length e
    simp only [Array.length_toList, List.length_append] at this
    omega
  have h1 : ¬ (v.cells.size ≠ n || off + v.cells.size > cells.size) = true := by
    simp [hv]; omega
  simp only [h1, Bool.false_eq_true, if_false]
  rw [← Array.foldl_toList, Array.toList_zipIdx]

/-- A literal, part by part. -/
theorem lay_ok {M : Mem} {μ : Map} {G : Nat → AV} {S : St} {a : Act} (hG : GlobOk M G) (hE : EnvOk M μ S a) {place : Nat → Option (Nat × Nat)} :
    ∀ (parts : List (Nat × Step × Nat × Opd)) (ps : List (Nat × Operand)) (z z' : AV) (cells : Array Value), mparts place parts ps = true → allLive (parts.map fun p => ev G S p.2.2.2) = true →
      lay z (parts.map fun p => (p.2.1, p.2.2.1, ev G S p.2.2.2)) = some z' → AVC M μ z cells.toList →
      ∃ cells', Instr.fill place cells (ps.map fun p => (p.1, a.eval p.2)) = some cells' ∧ AVC M μ z' cells'.toList
  | [], [], z, z', cells, _, _, h, hc => by
    simp only [List.map_nil, lay, Option.some.injEq] at h
    subst h
    exact ⟨cells, rfl, hc⟩
  | (i, s, n, x) :: parts, (i', y) :: ps, z, z', cells, hm, hl, h, hc => by
    simp only [mparts, Bool.and_eq_true] at hm
    obtain ⟨⟨⟨⟨h1, h2⟩, h3⟩, h4⟩, h5⟩ := hm
    obtain rfl := Nat.eq_of_beq_eq_true h1
    simp only [List.map_cons, allLive, Bool.and_eq_true] at hl
    simp only [List.map_cons, lay] at h
    split at h
    case h_2 => cases h
    rename_i o ho
    cases hb : (Nat.beq (ev G S x).nsz n && Nat.beq o.nsz n) with
    | false => simp [hb] at h
    | true =>
      rw [hb] at h
      simp only [Bool.and_eq_true] at hb
      have hn1 := Nat.eq_of_beq_eq_true hb.1
      have hn2 := Nat.eq_of_beq_eq_true hb.2
      simp only [cond_true] at h
      split at h
      case h_2 => cases h
      rename_i z1 hz1
      have hs : s.okS := by
        cases s with
        | fld => trivial
        | idx j m sz => show j < m; simpa [Nat.blt_eq] using h4
      split at h3
      case h_2 => cases h3
      rename_i off m hpl
      simp only [Bool.and_eq_true] at h3
      have hoff := Nat.eq_of_beq_eq_true h3.1
      obtain rfl := Nat.eq_of_beq_eq_true h3.2
      obtain ⟨pre, mid, post, e, hpl1, hmid, hset⟩ := (stepGet_focus hs ho hc).split
      obtain ⟨cv, hcv, hvv⟩ := AVV_live (mo_ok hG hE h2) hl.1
      have hcells := hvv.cells hcv.one
      have hvs : (a.eval y).cells.size = n := by rw [← Array.length_toList, hcells, hcv.length, hn1]
      obtain ⟨cells1, e1, hfill⟩ := fill_one (place := place) hpl e (by rw [hpl1, hoff]) (by rw [hmid.length, hn2]) hvs (ps.map fun p => (p.1, a.eval p.2))
      have hz1' := hset (ev G S x) cv hcv (by rw [hn1, hn2]) z1 hz1
      rw [← hcells, ← e1] at hz1'
      obtain ⟨cells', hf, hz'⟩ := lay_ok hG hE parts ps z1 z' cells1 h5 hl.2 h hz1'
      exact ⟨cells', by rw [List.map_cons, hfill]; exact hf, hz'⟩
  | [], _ :: _, _, _, _, hm, _, _, _ => by simp [mparts] at hm
  | _ :: _, [], _, _, _, hm, _, _, _ => by simp [mparts] at hm

theorem mapM_places {ts : List Field} (h : ts.all (fun f => hasTy P f.type) = true) (w : World) : (ts.mapM fun (f : Field) => (do pure (f.offset, ← sizeOf f.type) : Sem (Nat × Nat))).run P w = .ok (ts.map fun f => (f.offset, P.cellsOf f.type)) w := by
  induction ts with
  | nil => rfl
  | cons f ts ih =>
    simp only [List.all_cons, Bool.and_eq_true] at h
    obtain ⟨_, i, _, hi⟩ := hasTy_ty h.1
    rw [List.mapM_cons]
    have : P.cellsOf f.type = i.size := by simp [Program.cellsOf, hi]
    simp only [Sem.run_bind, run_sizeOf hi, Result.andThen_ok, Sem.run_pure, ih h.2, List.map_cons, this]

theorem Sh_agg : ∀ (sh : Sh) (n : Nat), sh.agg = (sh.mk n).1.isAgg := by
  intro sh n
  cases sh <;> rfl

theorem lay_agg : ∀ (l : List (Step × Nat × AV)) (z z' : AV), lay z l = some z' → z.isAgg = true → z'.isAgg = true
  | [], z, z', h, hz => by simp only [lay, Option.some.injEq] at h; subst h; exact hz
  | (s, n, v) :: r, z, z', h, hz => by
    simp only [lay] at h
    split at h
    case h_2 => cases h
    rename_i o ho
    cases hb : (Nat.beq v.nsz n && Nat.beq o.nsz n) with
    | false => simp [hb] at h
    | true =>
      rw [hb] at h
      simp only [cond_true] at h
      split at h
      case h_2 => cases h
      rename_i z1 hz1
      refine lay_agg r z1 z' h ?_
      have hj : ∀ a b u v, (joinPr a b u v).isAgg = true := by
        intro a b u v
        unfold joinPr
        split
        · split
          · split <;> rfl
          · rfl
        · rfl
      have hf : ∀ (i off : Nat) (a v a' : AV), fldSet i off a v = some a' → a'.isAgg = true := by
        intro i
        induction i with
        | zero =>
          intro off a v a' h
          cases a with
          | tv τ x =>
            cases τ with
            | pr a b =>
              simp only [fldSet] at h
              cases hc : (Nat.beq off 0 && Nat.beq v.nsz a.n) with
              | false => simp [hc] at h
              | true => rw [hc] at h; simp only [cond_true, Option.some.injEq] at h; subst h; exact hj _ _ _ _
            | _ => simp [fldSet] at h
          | cons a b =>
            simp only [fldSet] at h
            cases hc : (Nat.beq off 0 && Nat.beq v.nsz a.nsz) with
            | false => simp [hc] at h
            | true => rw [hc] at h; simp only [cond_true, Option.some.injEq] at h; subst h; rfl
          | _ => simp [fldSet] at h
        | succ i ih =>
          intro off a v a' h
          cases a with
          | tv τ x =>
            cases τ with
            | pr a b =>
              simp only [fldSet] at h
              cases hc : Nat.ble a.n off with
              | false => simp [hc] at h
              | true =>
                rw [hc] at h
                simp only [cond_true] at h
                split at h
                · simp only [Option.some.injEq] at h; subst h; exact hj _ _ _ _
                · cases h
            | _ => simp [fldSet] at h
          | cons a b =>
            simp only [fldSet] at h
            cases hc : Nat.ble a.nsz off with
            | false => simp [hc] at h
            | true =>
              rw [hc] at h
              simp only [cond_true] at h
              split at h
              · simp only [Option.some.injEq] at h; subst h; rfl
              · cases h
          | _ => simp [fldSet] at h
      cases s with
      | fld i off => exact hf i off z v z1 hz1
      | idx i m sz =>
        simp only [stepSet] at hz1
        split at hz1
        · cases hc : (Nat.beq _ m && Nat.beq _ sz) with
          | false => rw [hc] at hz1; simp at hz1
          | true =>
            rw [hc] at hz1
            simp only [cond_true] at hz1
            split at hz1
            · simp only [Option.some.injEq] at hz1; subst hz1; rfl
            · cases hz1
        · rename_i u w'
          have : ∀ (i : Nat) (u w v a' : AV), chainSet i sz (.cons u w) v = some a' → a'.isAgg = true := by
            intro i u w v a' h
            cases i with
            | zero =>
              simp only [chainSet] at h
              cases hc : (Nat.beq u.nsz sz && Nat.beq v.nsz sz) with
              | false => simp [hc] at h
              | true => rw [hc] at h; simp only [cond_true, Option.some.injEq] at h; subst h; rfl
            | succ i =>
              simp only [chainSet] at h
              cases hc : Nat.beq u.nsz sz with
              | false => simp [hc] at h
              | true =>
                rw [hc] at h
                simp only [cond_true] at h
                split at h
                · simp only [Option.some.injEq] at h; subst h; rfl
                · cases h
          exact this i u w' v z1 hz1
        · cases hz1

theorem sound_build (T : TypeId) (sh : Sh) (parts : List (Nat × Step × Nat × Opd)) : Sound P (.build T sh parts) := by
  intro c M μ G S a w nid o v u hp hm hr hfr
  generalize hq : o.op = q at hm
  cases q <;> simp only [mop, Bool.false_eq_true, Bool.and_eq_true] at hm
  rename_i t ps
  obtain ⟨⟨⟨hT, hzi⟩, hag⟩, hm⟩ := hm
  obtain ⟨i, z, hi, hz, hf⟩ := zeroIs_ty hzi
  simp only [aopO, aop] at hr
  cases hl : allLive (parts.map fun p => ev G S p.2.2.2) with
  | false => simp [hl] at hr
  | true =>
    rw [hl] at hr
    simp only [cond_true] at hr
    split at hr
    case h_2 => cases hr
    rename_i v1 hv1
    simp only [Option.some.injEq, Prod.mk.injEq] at hr
    obtain ⟨rfl, rfl⟩ := hr
    simp only at hfr
    have hmono : ∀ (sh : Sh) (m : Nat), m ≤ (sh.mk m).2.2 := by
      intro sh
      induction sh with
      | cons a b iha ihb => intro m; exact Nat.le_trans (iha m) (ihb _)
      | row e => intro m; simp [Sh.mk]
      | _ => intro m; exact Nat.le_refl _
    have hm1 := hmono sh nid
    obtain ⟨μ1, pre, e1, l1, H1, A1, f1, _⟩ := Sh_mk_ok sh nid hp.hold (fun j h1 h2 => hfr j (by omega) (by omega)) hf
    rw [List.append_nil] at e1
    have hE1 : EnvOk M μ1 S a := fun t => (hp.env t).mono (Mem.le.refl _) l1
    have hagg : v1.isAgg = true := lay_agg _ _ _ hv1 (by rw [← Sh_agg]; exact hag)
    have key : ∀ place, mparts place parts ps.toList = true → ∃ cells', Instr.fill place z.cells (ps.toList.map fun p => (p.1, a.eval p.2)) = some cells' ∧ AVC M μ1 v1 cells'.toList := fun place h =>
      lay_ok hp.glob hE1 parts ps.toList _ _ z.cells h hl hv1 (by rw [e1]; exact A1)
    have fin : ∀ cells' : Array Value, AVC M μ1 v1 cells'.toList → (execOp a.eval o).run P w = .ok (.value (.agg cells')) w → OpOk c M μ S.H nid ((execOp a.eval o).run P w) v1 ⟨(sh.mk nid).2.1, (sh.mk nid).2.2 - nid⟩ := by
      intro cells' hc hrun
      refine ⟨M, μ1, _, w, .inl hrun, Mem.le.refl _, l1, H1, AVV_of hc (by rw [hagg]; simp [VofC]), ?_⟩
      intro j hj
      rcases f1 j hj with h | h
      · exact .inl h
      · right; simp only; omega
    have hmap : (Array.map (fun (x : Nat × Operand) => (x.1, a.eval x.2)) ps).toList = ps.toList.map fun p => (p.1, a.eval p.2) := by simp
    split at hm
    · rename_i fs hu
      simp only [Bool.and_eq_true] at hm
      obtain ⟨cells', hfill, hc⟩ := key _ hm.2
      refine fin cells' hc ?_
      have hpl : (fs.mapM fun (f : Field) => (do pure (f.offset, ← sizeOf f.type) : Sem (Nat × Nat))).run P w = .ok (fs.map fun f => (f.offset, P.cellsOf f.type)) w := by
        rw [Array.mapM_eq_mapM_toList]
        rw [Sem.run_map, mapM_places hm.1]
        simp only [Result.andThen_ok]
        congr 1
        apply Array.ext'
        simp
      have hplace : (fun (i : Nat) => (fs.map fun (f : Field) => (f.offset, P.cellsOf f.type))[i]?) = fun (i : Nat) => (fs[i]?).map fun (f : Field) => (f.offset, P.cellsOf f.type) := by
        funext i; simp
      simp only [execOp, hq, Instr.build, Sem.run_bind, run_zeroValue hi hz, run_underlying hu, Result.andThen_ok, hpl, hmap, hplace, hfill, Sem.run_pure]
    · rename_i n e hu
      simp only [Bool.and_eq_true] at hm
      obtain ⟨cells', hfill, hc⟩ := key _ hm.2
      refine fin cells' hc ?_
      obtain ⟨_, ie, _, hie⟩ := hasTy_ty hm.1
      have : P.cellsOf e = ie.size := by simp [Program.cellsOf, hie]
      rw [this] at hfill
      simp only [execOp, hq, Instr.build, Sem.run_bind, run_zeroValue hi hz, run_underlying hu, Result.andThen_ok, run_sizeOf hie, hmap, hfill, Sem.run_pure]
    · cases hm

end
end Go.Av
