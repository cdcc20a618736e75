/-
  Parts of values: reading and writing along a path; what a value's cells are under it.
-/
import Derived.Test.YtlemoepklgfjoaaDoorA1
namespace Go.Av

/-- A typed value as another type's, where the types are one. -/
def castK {R : Type} {σ : Ty} (τ : Ty) (x : σ.T) (K : τ.T → Option R) : Option R := if h : σ = τ then K (h ▸ x) else none

/-- A pair, typed where both parts are. -/
def joinPr (a b : Ty) (u v : AV) : AV :=
  match u, v with
  | .tv σ x, .tv ρ y => if h : σ = a then (if h' : ρ = b then .tv (.pr a b) (h ▸ x, h' ▸ y) else .cons u v) else .cons u v
  | _, _ => .cons u v

def fldGet : Nat → Nat → AV → Option AV
  | 0, off, .tv (.pr a _) x => bif Nat.beq off 0 then some (.tv a x.1) else none
  | i + 1, off, .tv (.pr a b) x => bif Nat.ble a.n off then fldGet i (off - a.n) (.tv b x.2) else none
  | 0, off, .cons a _ => bif Nat.beq off 0 then some a else none
  | i + 1, off, .cons a b => bif Nat.ble a.nsz off then fldGet i (off - a.nsz) b else none
  | _, _, _ => none

def fldSet : Nat → Nat → AV → AV → Option AV
  | 0, off, .tv (.pr a b) x, v => bif Nat.beq off 0 && Nat.beq v.nsz a.n then some (joinPr a b v (.tv b x.2)) else none
  | i + 1, off, .tv (.pr a b) x, v => bif Nat.ble a.n off then
      (match fldSet i (off - a.n) (.tv b x.2) v with | some r => some (joinPr a b (.tv a x.1) r) | none => none) else none
  | 0, off, .cons a b, v => bif Nat.beq off 0 && Nat.beq v.nsz a.nsz then some (.cons v b) else none
  | i + 1, off, .cons a b, v => bif Nat.ble a.nsz off then
      (match fldSet i (off - a.nsz) b v with | some r => some (.cons a r) | none => none) else none
  | _, _, _, _ => none

def chainGet : Nat → Nat → AV → Option AV
  | 0, sz, .cons a _ => bif Nat.beq a.nsz sz then some a else none
  | i + 1, sz, .cons a b => bif Nat.beq a.nsz sz then chainGet i sz b else none
  | _, _, _ => none

def chainSet : Nat → Nat → AV → AV → Option AV
  | 0, sz, .cons a b, v => bif Nat.beq a.nsz sz && Nat.beq v.nsz sz then some (.cons v b) else none
  | i + 1, sz, .cons a b, v => bif Nat.beq a.nsz sz then (match chainSet i sz b v with | some r => some (.cons a r) | none => none) else none
  | _, _, _, _ => none

def stepGet (s : Step) (a : AV) : Option AV :=
  match s with
  | .fld i off => fldGet i off a
  | .idx i n sz =>
    match a with
    | .tv (.arr m e) xs => bif Nat.beq m n && Nat.beq e.n sz then some (.tv e (xs.getD i e.zero)) else none
    | .cons u v => chainGet i sz (.cons u v)
    | _ => none

def stepSet (s : Step) (a v : AV) : Option AV :=
  match s with
  | .fld i off => fldSet i off a v
  | .idx i n sz =>
    match a, v with
    | .tv (.arr m e) xs, .tv e' y => bif Nat.beq m n && Nat.beq e.n sz then (if h : e' = e then some (.tv (.arr m e) (xs.set i (h ▸ y))) else none) else none
    | .cons u w, v => chainSet i sz (.cons u w) v
    | _, _ => none

def pathGet : List Step → AV → Option AV
  | [], a => some a
  | s :: r, a => match stepGet s a with | some b => pathGet r b | none => none

def pathSet : List Step → AV → AV → Option AV
  | [], a, v => bif Nat.beq v.nsz a.nsz then some v else none
  | s :: r, a, v => match stepGet s a with
    | some b => (match pathSet r b v with | some b' => stepSet s a b' | none => none)
    | none => none

/-- What lies where: a's cells hold v's at offset 'off', and with other cells there they hold a' . -/
structure Focus (M : Mem) (μ : Map) (cs : List Value) (off : Nat) (v : AV) (set : AV → Option AV) : Prop where
  split : ∃ pre mid post, cs = pre ++ mid ++ post ∧ pre.length = off ∧ AVC M μ v mid ∧
    ∀ v' mid', AVC M μ v' mid' → v'.nsz = v.nsz → ∀ a', set v' = some a' → AVC M μ a' (pre ++ mid' ++ post)

theorem joinPr_AVC {M : Mem} {μ : Map} {a b : Ty} {u v : AV} {c1 c2 : List Value} (h1 : AVC M μ u c1) (h2 : AVC M μ v c2) : AVC M μ (joinPr a b u v) (c1 ++ c2) := by
  have hc : AVC M μ (.cons u v) (c1 ++ c2) := by simp only [AVC]; exact ⟨c1, c2, rfl, h1, h2⟩
  unfold joinPr
  split
  · split
    · rename_i σ x ρ y h
      subst h
      split
      · rename_i h'
        subst h'
        simp only [AVC, TC] at h1 h2 ⊢
        exact ⟨c1, c2, rfl, h1, h2⟩
      · exact hc
    · exact hc
  · exact hc

theorem fldGet_focus {M : Mem} {μ : Map} : ∀ (i off : Nat) (a v : AV) (cs : List Value), fldGet i off a = some v → AVC M μ a cs → Focus M μ cs off v (fldSet i off a)
  | 0, off, .tv (.pr a b) x, v, cs, h, hc => by
    simp only [fldGet] at h
    cases he : Nat.beq off 0 with
    | false => simp [he] at h
    | true =>
      have h0 : off = 0 := Nat.eq_of_beq_eq_true he
      subst h0
      simp at h
      subst h
      simp only [AVC, TC] at hc
      obtain ⟨c1, c2, e, h1, h2⟩ := hc
      refine ⟨⟨[], c1, c2, by simpa using e, rfl, by simpa only [AVC] using h1, ?_⟩⟩
      intro v' mid' hv hn a' ha
      simp only [fldSet] at ha
      simp only [AV.nsz] at hn
      simp [hn] at ha
      subst ha
      exact joinPr_AVC hv (by simpa only [AVC] using h2)
  | i + 1, off, .tv (.pr a b) x, v, cs, h, hc => by
    simp only [fldGet] at h
    cases he : Nat.ble a.n off with
    | false => simp [he] at h
    | true =>
      have h0 : a.n ≤ off := Nat.le_of_ble_eq_true he
      simp only [he, cond_true] at h
      simp only [AVC, TC] at hc
      obtain ⟨c1, c2, e, h1, h2⟩ := hc
      obtain ⟨pre, mid, post, e2, hl, hm, hset⟩ := (fldGet_focus (M := M) (μ := μ) i (off - a.n) (.tv b x.2) v c2 h (by simpa only [AVC] using h2)).split
      refine ⟨⟨c1 ++ pre, mid, post, by rw [e, e2]; simp, by rw [List.length_append, hl, h1.length]; omega, hm, ?_⟩⟩
      intro v' mid' hv hn a' ha
      simp only [fldSet, he, cond_true] at ha
      split at ha
      · rename_i r hr
        simp at ha
        subst ha
        have := joinPr_AVC (a := a) (b := b) (u := .tv a x.1) (by simpa only [AVC] using h1) (hset v' mid' hv hn r hr)
        simpa [List.append_assoc] using this
      · simp at ha
  | 0, off, .cons a b, v, cs, h, hc => by
    simp only [fldGet] at h
    cases he : Nat.beq off 0 with
    | false => simp [he] at h
    | true =>
      have h0 : off = 0 := Nat.eq_of_beq_eq_true he
      subst h0
      simp at h
      subst h
      simp only [AVC] at hc
      obtain ⟨c1, c2, e, h1, h2⟩ := hc
      refine ⟨⟨[], c1, c2, by simpa using e, rfl, h1, ?_⟩⟩
      intro v' mid' hv hn a' ha
      simp only [fldSet, hn] at ha
      simp at ha
      subst ha
      simp only [AVC]
      exact ⟨mid', c2, by simp, hv, h2⟩
  | i + 1, off, .cons a b, v, cs, h, hc => by
    simp only [fldGet] at h
    cases he : Nat.ble a.nsz off with
    | false => simp [he] at h
    | true =>
      have h0 : a.nsz ≤ off := Nat.le_of_ble_eq_true he
      simp only [he, cond_true] at h
      simp only [AVC] at hc
      obtain ⟨c1, c2, e, h1, h2⟩ := hc
      obtain ⟨pre, mid, post, e2, hl, hm, hset⟩ := (fldGet_focus (M := M) (μ := μ) i (off - a.nsz) b v c2 h h2).split
      refine ⟨⟨c1 ++ pre, mid, post, by rw [e, e2]; simp, by rw [List.length_append, hl, h1.length]; omega, hm, ?_⟩⟩
      intro v' mid' hv hn a' ha
      simp only [fldSet, he, cond_true] at ha
      split at ha
      · rename_i r hr
        simp at ha
        subst ha
        simp only [AVC]
        exact ⟨c1, pre ++ mid' ++ post, by simp, h1, hset v' mid' hv hn r hr⟩
      · simp at ha
  | 0, _, .tv (.int _) _, _, _, h, _ | 0, _, .tv .bool _, _, _, h, _ | 0, _, .tv .str _, _, _, h, _ | 0, _, .tv (.sl _) _, _, _, h, _ | 0, _, .tv (.arr _ _) _, _, _, h, _ | 0, _, .tv .nil _, _, _, h, _
  | _ + 1, _, .tv (.int _) _, _, _, h, _ | _ + 1, _, .tv .bool _, _, _, h, _ | _ + 1, _, .tv .str _, _, _, h, _ | _ + 1, _, .tv (.sl _) _, _, _, h, _ | _ + 1, _, .tv (.arr _ _) _, _, _, h, _ | _ + 1, _, .tv .nil _, _, _, h, _
  | 0, _, .ptr _ _, _, _, h, _ | 0, _, .row _, _, _, h, _ | 0, _, .fp _ _, _, _, h, _ | 0, _, .obj _, _, _, h, _ | 0, _, .mp _, _, _, h, _ | 0, _, .sln _ _ _, _, _, h, _ | 0, _, .nilp, _, _, h, _ | 0, _, .nilf, _, _, h, _ | 0, _, .nil, _, _, h, _ | 0, _, .fn _ _ _, _, _, h, _ | 0, _, .tup _, _, _, h, _ | 0, _, .junk, _, _, h, _ | 0, _, .dead, _, _, h, _
  | _ + 1, _, .ptr _ _, _, _, h, _ | _ + 1, _, .row _, _, _, h, _ | _ + 1, _, .fp _ _, _, _, h, _ | _ + 1, _, .obj _, _, _, h, _ | _ + 1, _, .mp _, _, _, h, _ | _ + 1, _, .sln _ _ _, _, _, h, _ | _ + 1, _, .nilp, _, _, h, _ | _ + 1, _, .nilf, _, _, h, _ | _ + 1, _, .nil, _, _, h, _ | _ + 1, _, .fn _ _ _, _, _, h, _ | _ + 1, _, .tup _, _, _, h, _ | _ + 1, _, .junk, _, _, h, _ | _ + 1, _, .dead, _, _, h, _ => by
    simp [fldGet] at h

theorem chainGet_focus {M : Mem} {μ : Map} : ∀ (i sz : Nat) (a v : AV) (cs : List Value), chainGet i sz a = some v → AVC M μ a cs → v.nsz = sz ∧ Focus M μ cs (i * sz) v (chainSet i sz a)
  | 0, sz, .cons a b, v, cs, h, hc => by
    simp only [chainGet] at h
    cases he : Nat.beq a.nsz sz with
    | false => simp [he] at h
    | true =>
      have h0 : a.nsz = sz := Nat.eq_of_beq_eq_true he
      simp [he] at h
      subst h
      simp only [AVC] at hc
      obtain ⟨c1, c2, e, h1, h2⟩ := hc
      refine ⟨h0, ⟨⟨[], c1, c2, by simpa using e, by simp, h1, ?_⟩⟩⟩
      intro v' mid' hv hn a' ha
      simp only [chainSet, hn, he] at ha
      simp at ha
      subst ha
      simp only [AVC]
      exact ⟨mid', c2, by simp, hv, h2⟩
  | i + 1, sz, .cons a b, v, cs, h, hc => by
    simp only [chainGet] at h
    cases he : Nat.beq a.nsz sz with
    | false => simp [he] at h
    | true =>
      have h0 : a.nsz = sz := Nat.eq_of_beq_eq_true he
      simp only [he, cond_true] at h
      simp only [AVC] at hc
      obtain ⟨c1, c2, e, h1, h2⟩ := hc
      obtain ⟨hs, ⟨pre, mid, post, e2, hl, hm, hset⟩⟩ := chainGet_focus (M := M) (μ := μ) i sz b v c2 h h2
      refine ⟨hs, ⟨⟨c1 ++ pre, mid, post, by rw [e, e2]; simp, by rw [List.length_append, hl, h1.length, h0, Nat.succ_mul, Nat.add_comm], hm, ?_⟩⟩⟩
      intro v' mid' hv hn a' ha
      simp only [chainSet, he, cond_true] at ha
      split at ha
      · rename_i r hr
        simp at ha
        subst ha
        simp only [AVC]
        exact ⟨c1, pre ++ mid' ++ post, by simp, h1, hset v' mid' hv hn r hr⟩
      · simp at ha
  | 0, _, .tv _ _, _, _, h, _ | 0, _, .ptr _ _, _, _, h, _ | 0, _, .row _, _, _, h, _ | 0, _, .fp _ _, _, _, h, _ | 0, _, .obj _, _, _, h, _ | 0, _, .mp _, _, _, h, _ | 0, _, .sln _ _ _, _, _, h, _ | 0, _, .nilp, _, _, h, _ | 0, _, .nilf, _, _, h, _ | 0, _, .nil, _, _, h, _ | 0, _, .fn _ _ _, _, _, h, _ | 0, _, .tup _, _, _, h, _ | 0, _, .junk, _, _, h, _ | 0, _, .dead, _, _, h, _
  | _ + 1, _, .tv _ _, _, _, h, _ | _ + 1, _, .ptr _ _, _, _, h, _ | _ + 1, _, .row _, _, _, h, _ | _ + 1, _, .fp _ _, _, _, h, _ | _ + 1, _, .obj _, _, _, h, _ | _ + 1, _, .mp _, _, _, h, _ | _ + 1, _, .sln _ _ _, _, _, h, _ | _ + 1, _, .nilp, _, _, h, _ | _ + 1, _, .nilf, _, _, h, _ | _ + 1, _, .nil, _, _, h, _ | _ + 1, _, .fn _ _ _, _, _, h, _ | _ + 1, _, .tup _, _, _, h, _ | _ + 1, _, .junk, _, _, h, _ | _ + 1, _, .dead, _, _, h, _ => by
    simp [chainGet] at h

theorem RowC.focus {α : Type} {R : α → List Value → Prop} {sz : Nat} (hR : ∀ x c, R x c → c.length = sz) (z : α) : ∀ (xs : List α) (cs : List Value) (i : Nat), RowC R xs cs → i < xs.length →
    ∃ pre mid post, cs = pre ++ mid ++ post ∧ pre.length = i * sz ∧ R (xs.getD i z) mid ∧ ∀ y mid', R y mid' → RowC R (xs.set i y) (pre ++ mid' ++ post)
  | [], _, _, _, h => by simp at h
  | x :: xs, cs, 0, ⟨c1, c2, e, h1, h2⟩, _ => ⟨[], c1, c2, by simpa using e, by simp, by simpa using h1, fun y mid' hy => by
      simp only [List.set_cons_zero, List.nil_append]; exact ⟨mid', c2, rfl, hy, h2⟩⟩
  | x :: xs, cs, i + 1, ⟨c1, c2, e, h1, h2⟩, h => by
    obtain ⟨pre, mid, post, e2, hl, hm, hset⟩ := RowC.focus hR z xs c2 i h2 (by simpa using h)
    refine ⟨c1 ++ pre, mid, post, by rw [e, e2]; simp, by rw [List.length_append, hl, hR _ _ h1, Nat.succ_mul, Nat.add_comm], by simpa using hm, fun y mid' hy => ?_⟩
    simp only [List.set_cons_succ]
    exact ⟨c1, pre ++ mid' ++ post, by simp, h1, hset y mid' hy⟩

theorem stepGet_focus {M : Mem} {μ : Map} {s : Step} (hs : s.okS) {a v : AV} {cs : List Value} (h : stepGet s a = some v) (hc : AVC M μ a cs) : Focus M μ cs s.off v (stepSet s a) := by
  cases s with
  | fld i off => exact fldGet_focus i off a v cs h hc
  | idx i n sz =>
    simp only [stepGet] at h
    split at h
    · rename_i m e xs
      cases he : (Nat.beq m n && Nat.beq e.n sz) with
      | false => simp [he] at h
      | true =>
        have he' := he
        simp only [Bool.and_eq_true] at he
        have h1 : m = n := Nat.eq_of_beq_eq_true he.1
        have h2 : e.n = sz := Nat.eq_of_beq_eq_true he.2
        subst h1; subst h2
        rw [he'] at h
        simp only [cond_true, Option.some.injEq] at h
        subst h
        simp only [AVC, TC] at hc
        obtain ⟨hl, hr⟩ := hc
        obtain ⟨pre, mid, post, e2, hp, hm, hset⟩ := RowC.focus (fun _ _ h => TC.length h) e.zero xs cs i hr (by rw [hl]; exact hs)
        refine ⟨⟨pre, mid, post, e2, hp, by simpa only [AVC] using hm, ?_⟩⟩
        intro v' mid' hv hn a' ha
        simp only [stepSet] at ha
        split at ha
        · rename_i m1 e1 xs1 e' y hq
          injection hq with hq1 hq2
          injection hq1 with hq3 hq4
          subst hq3; subst hq4
          have hq2 := eq_of_heq hq2
          subst hq2
          simp only [he', cond_true] at ha
          split at ha
          · rename_i h'
            subst h'
            simp at ha
            subst ha
            simp only [AVC, TC] at hv ⊢
            exact ⟨by simpa using hl, hset y mid' hv⟩
          · simp at ha
        · rename_i hq; cases hq
        · simp at ha
    · obtain ⟨_, hf⟩ := chainGet_focus i sz _ v cs h hc
      obtain ⟨pre, mid, post, e2, hp, hm, hset⟩ := hf.split
      refine ⟨⟨pre, mid, post, e2, hp, hm, ?_⟩⟩
      intro v' mid' hv hn a' ha
      exact hset v' mid' hv hn a' (by simpa only [stepSet] using ha)
    · simp at h

theorem pathGet_focus {M : Mem} {μ : Map} : ∀ (p : List Step) (a v : AV) (cs : List Value), (∀ s ∈ p, s.okS) → pathGet p a = some v → AVC M μ a cs → Focus M μ cs (pathOff p) v (pathSet p a)
  | [], a, v, cs, _, h, hc => by
    simp only [pathGet, Option.some.injEq] at h
    subst h
    refine ⟨⟨[], cs, [], by simp, rfl, hc, ?_⟩⟩
    intro v' mid' hv hn a' ha
    simp [pathSet, hn] at ha
    subst ha
    simpa using hv
  | s :: r, a, v, cs, hs, h, hc => by
    simp only [pathGet] at h
    split at h
    · rename_i b hb
      obtain ⟨pre, mid, post, e, hl, hm, hset⟩ := (stepGet_focus (hs s (by simp)) hb hc).split
      obtain ⟨pre2, mid2, post2, e2, hl2, hm2, hset2⟩ := (pathGet_focus r b v mid (fun t ht => hs t (by simp [ht])) h hm).split
      refine ⟨⟨pre ++ pre2, mid2, post2 ++ post, by rw [e, e2]; simp, by simp [pathOff, hl, hl2], hm2, ?_⟩⟩
      intro v' mid' hv hn a' ha
      simp only [pathSet, hb] at ha
      split at ha
      · rename_i b' hb'
        have h3 := hset2 v' mid' hv hn b' hb'
        have hn' : b'.nsz = b.nsz := by
          have l1 := h3.length
          have l2 := hm.length
          rw [e2] at l2
          have l3 := hv.length
          have l4 := hm2.length
          simp only [List.length_append] at l1 l2
          omega
        have := hset b' _ h3 hn' a' ha
        simpa [List.append_assoc] using this
      · simp at ha
    · simp at h

end Go.Av
