/-
  What the statement's data are as trees: an argument that reads as data is a tree, and reads so wherever the old memory stands.
-/
import Derived.Test.YtlmajdbchmnhdaaGreatDoorM3
import GoSem.ClaimChange
import Derived.ChangeArms
import Derived.RowKit3
import Derived.Lib.LaidTab
import Derived.WideShapes
import Derived.OpenShut
namespace Go.Av

def tyFs (P : Program) (rec : TypeId → Ty → Bool) : Nat → List Field → Ty → Bool
  | _, [], .nil => true
  | off, f :: fs, .pr a b => Nat.beq f.offset off && Nat.beq (P.cellsOf f.type) a.n && rec f.type a && tyFs P rec (off + a.n) fs b
  | _, _, _ => false

/-- The trees of a type. -/
def tyOf (P : Program) : Nat → TypeId → Ty → Bool
  | 0, _, _ => false
  | d + 1, t, τ =>
    match P.underlying t with
    | some (.int k) => (match τ with | .int k' => kEq k k' | _ => false)
    | some .bool => (match τ with | .bool => true | _ => false)
    | some .string => (match τ with | .str => true | _ => false)
    | some (.slice e) => (match τ with | .sl σ => tyOf P d e σ && Nat.beq (P.cellsOf e) σ.n && !Nat.beq σ.n 0 | _ => false)
    | some (.array n e) => (match τ with | .arr m σ => Nat.beq n m && tyOf P d e σ && Nat.beq (P.cellsOf e) σ.n && Nat.beq (P.cellsOf t) (n * σ.n) | _ => false)
    | some (.struct fs) => tyFs P (tyOf P d) 0 fs.toList τ && Nat.beq (P.cellsOf t) τ.n
    | _ => false

def wfT : (τ : Ty) → τ.T → Prop
  | .int k, (n : Int) => k.min ≤ n ∧ n ≤ k.max
  | .bool, _ => True
  | .str, s => List.length s ≤ maxLen
  | .sl e, xs => List.length xs ≤ maxLen ∧ ∀ x ∈ xs, wfT e x
  | .arr n e, xs => List.length xs = n ∧ ∀ x ∈ xs, wfT e x
  | .pr a b, x => wfT a x.1 ∧ wfT b x.2
  | .nil, _ => True

def memOf (w : World) : Mem := fun b o => w.cell? ⟨b, o, none⟩

theorem mapM_at {α β : Type} {f : α → Option β} : ∀ {l : List α} {xs : List β}, l.mapM f = some xs → xs.length = l.length ∧ ∀ (i : Nat) (a : α), l[i]? = some a → ∃ b, f a = some b ∧ xs[i]? = some b
  | [], xs, h => by
    simp at h; subst h
    exact ⟨rfl, fun i a h => by simp at h⟩
  | a :: l, xs, h => by
    simp only [List.mapM_cons, Option.bind_eq_bind, Option.pure_def] at h
    cases hf : f a with
    | none => rw [hf] at h; cases h
    | some b =>
      rw [hf] at h
      simp only [Option.bind_some] at h
      cases hl : l.mapM f with
      | none => rw [hl] at h; cases h
      | some ys =>
        rw [hl] at h
        simp only [Option.bind_some, Option.some.injEq] at h
        subst h
        obtain ⟨h1, h2⟩ := mapM_at hl
        refine ⟨by simp [h1], fun i c hc => ?_⟩
        cases i with
        | zero => simp only [List.getElem?_cons_zero, Option.some.injEq] at hc ⊢; subst hc; exact ⟨b, hf, rfl⟩
        | succ i => simpa using h2 i c (by simpa using hc)

theorem mapM_of {α β : Type} {f : α → Option β} : ∀ {l : List α} {xs : List β}, xs.length = l.length → (∀ (i : Nat) (a : α) (b : β), l[i]? = some a → xs[i]? = some b → f a = some b) → l.mapM f = some xs
  | [], [], _, _ => by simp
  | a :: l, x :: xs, hl, h => by
    have h0 := h 0 a x (by simp) (by simp)
    have ih := mapM_of (f := f) (l := l) (xs := xs) (by simpa using hl) fun i a b ha hb => h (i + 1) a b (by simpa using ha) (by simpa using hb)
    simp only [List.mapM_cons, Option.bind_eq_bind, Option.pure_def, h0, Option.bind_some, ih]
  | [], _ :: _, hl, _ => by simp at hl
  | _ :: _, [], hl, _ => by simp at hl

/-- Rows of trees, element by element. -/
theorem RowC_of {α : Type} {R : α → List Value → Prop} : ∀ (css : List (List Value)) (xs : List α), xs.length = css.length → (∀ (i : Nat) (x : α) (c : List Value), xs[i]? = some x → css[i]? = some c → R x c) → RowC R xs css.flatten
  | [], [], _, _ => rfl
  | c :: css, x :: xs, hl, h => by
    rw [List.flatten_cons]
    exact ⟨c, css.flatten, rfl, h 0 x c (by simp) (by simp), RowC_of css xs (by simpa using hl) fun i x c hx hc => h (i + 1) x c (by simpa using hx) (by simpa using hc)⟩
  | [], _ :: _, hl, _ => by simp at hl
  | _ :: _, [], hl, _ => by simp at hl

theorem chooseL {α : Type} {n : Nat} {p : Nat → α → Prop} (h : ∀ i, i < n → ∃ a, p i a) : ∃ l : List α, l.length = n ∧ ∀ (i : Nat) (a : α), l[i]? = some a → p i a := by
  induction n with
  | zero => exact ⟨[], rfl, fun i a h => by simp at h⟩
  | succ n ih =>
    obtain ⟨l, h1, h2⟩ := ih fun i hi => h i (by omega)
    obtain ⟨a, ha⟩ := h n (by omega)
    refine ⟨l ++ [a], by simp [h1], fun i b hb => ?_⟩
    by_cases hi : i < l.length
    · rw [List.getElem?_append_left hi] at hb; exact h2 i b hb
    · rw [List.getElem?_append_right (by omega)] at hb
      have : i - l.length = 0 := by
        cases hq : i - l.length with
        | zero => rfl
        | succ m => rw [hq] at hb; simp at hb
      rw [this] at hb
      simp only [List.getElem?_cons_zero, Option.some.injEq] at hb
      subst hb
      have : i = n := by omega
      subst this; exact ha

section
variable {H : Type} {enc : TypeId × Value → H} {P : Program} {w : World}

/-- What reading gives: a tree, and the same reading wherever the old memory stands. -/
def Opens (enc : TypeId × Value → H) (P : Program) (w : World) (t : TypeId) (τ : Ty) (fuel : Nat) (cs : List Value) (x : DataW H × List MemPlace) : Prop :=
  ∃ y : τ.T, TC (memOf w) τ y cs ∧ wfT τ y ∧ ∀ (w' : World) (sp : Nat → Bool), (∀ a v, w.cell? a = some v → w'.cell? a = some v) → (∀ p ∈ x.2, sp p.block = true) → DataW.trod enc P w' 0 sp true fuel t cs = some x

theorem cells_of_mem {w' : World} (hw : ∀ a v, w.cell? a = some v → w'.cell? a = some v) {a : Addr} {n : Nat} {cs : List Value} (h : w.cells? 0 a n = some cs) : w'.cells? 0 a n = some cs := by
  unfold World.cells? at h ⊢
  rw [if_pos (Nat.zero_le _)] at h ⊢
  obtain ⟨h1, h2⟩ := mapM_at h
  refine mapM_of h1 fun i j v hi hv => ?_
  obtain ⟨v', h3, h4⟩ := h2 i j hi
  rw [hv] at h4
  cases h4
  exact hw _ _ h3

theorem cells_get {a : Addr} {n : Nat} {cs : List Value} (h : w.cells? 0 a n = some cs) : cs.length = n ∧ ∀ (i : Nat) (v : Value), cs[i]? = some v → w.cell? (a.add i) = some v := by
  unfold World.cells? at h
  rw [if_pos (Nat.zero_le _)] at h
  obtain ⟨h1, h2⟩ := mapM_at h
  refine ⟨by simpa using h1, fun i v hv => ?_⟩
  have hi : i < n := by
    have := (List.getElem?_eq_some_iff.1 hv).1
    rw [h1] at this; simpa using this
  obtain ⟨v', h3, h4⟩ := h2 i i (by simp [hi])
  rw [hv] at h4
  cases h4
  exact h3

theorem opens_fs {d fuel : Nat} (ih : ∀ (t : TypeId) (τ : Ty) (cs : List Value) (x : DataW H × List MemPlace), tyOf P d t τ = true → DataW.trod enc P w 0 (fun _ => true) true fuel t cs = some x → Opens enc P w t τ fuel cs x) :
    ∀ (fs : List Field) (τ : Ty) (off : Nat) (cs : List Value) (xs : List (DataW H × List MemPlace)), tyFs P (tyOf P d) off fs τ = true → cs.length = off + τ.n → (fs.mapM fun f => DataW.trod enc P w 0 (fun _ => true) true fuel f.type ((cs.drop f.offset).take (P.cellsOf f.type))) = some xs →
      ∃ y : τ.T, TC (memOf w) τ y (cs.drop off) ∧ wfT τ y ∧ ∀ (w' : World) (sp : Nat → Bool), (∀ a v, w.cell? a = some v → w'.cell? a = some v) → (∀ p ∈ xs.flatMap (·.2), sp p.block = true) → (fs.mapM fun f => DataW.trod enc P w' 0 sp true fuel f.type ((cs.drop f.offset).take (P.cellsOf f.type))) = some xs
  | [], τ, off, cs, xs, ht, hl, h => by
    cases τ <;> simp only [tyFs, Bool.false_eq_true] at ht
    simp only [List.mapM_nil, Option.pure_def, Option.some.injEq] at h
    subst h
    refine ⟨(), ?_, trivial, fun w' sp _ _ => by simp⟩
    simp only [Ty.n, Nat.add_zero] at hl
    simp only [TC]
    rw [List.drop_eq_nil_of_le (by omega)]
  | f :: fs, τ, off, cs, xs, ht, hl, h => by
    cases τ <;> simp only [tyFs, Bool.false_eq_true, Bool.and_eq_true] at ht
    rename_i a b
    obtain ⟨⟨⟨h1, h2⟩, h3⟩, h4⟩ := ht
    have h1 := Nat.eq_of_beq_eq_true h1
    have h2 := Nat.eq_of_beq_eq_true h2
    simp only [List.mapM_cons, Option.bind_eq_bind, Option.pure_def] at h
    cases hf : DataW.trod enc P w 0 (fun _ => true) true fuel f.type ((cs.drop f.offset).take (P.cellsOf f.type)) with
    | none => rw [hf] at h; cases h
    | some x =>
      rw [hf] at h
      simp only [Option.bind_some] at h
      cases hr : fs.mapM fun f => DataW.trod enc P w 0 (fun _ => true) true fuel f.type ((cs.drop f.offset).take (P.cellsOf f.type)) with
      | none => rw [hr] at h; cases h
      | some ys =>
        rw [hr] at h
        simp only [Option.bind_some, Option.some.injEq] at h
        subst h
        obtain ⟨y1, t1, w1, r1⟩ := ih f.type a _ x h3 hf
        obtain ⟨y2, t2, w2, r2⟩ := opens_fs ih fs b (off + a.n) cs ys h4 (by simp only [Ty.n] at hl; omega) hr
        refine ⟨(y1, y2), ?_, ⟨w1, w2⟩, fun w' sp hw hsp => ?_⟩
        · simp only [TC]
          refine ⟨_, _, ?_, t1, t2⟩
          rw [h1, h2, ← List.drop_drop, List.take_append_drop]
        · simp only [List.mapM_cons, Option.bind_eq_bind, Option.pure_def]
          rw [r1 w' sp hw fun p hp => hsp p (by simp [hp])]
          simp only [Option.bind_some]
          rw [r2 w' sp hw fun p hp => hsp p (by
            simp only [List.flatMap_cons, List.mem_append]; exact .inr hp)]
          rfl

theorem add_cell {a : Addr} (ha : a.spot = none) (n : Nat) : a.add n = ⟨a.block, a.off + n, none⟩ := by
  unfold Addr.add
  split
  · rename_i h; subst h; cases a; simp only at ha; subst ha; rfl
  · rfl

theorem spot_of_cell {a : Addr} {v : Value} (h : w.cell? a = some v) : a.spot = none := by
  unfold World.cell? at h
  split at h
  · cases hs : a.spot with
    | none => rfl
    | some s => simp [hs] at h
  · cases h

/-- Elements one behind the other. -/
theorem opens_elems {d fuel : Nat} {e : TypeId} {σ : Ty} (ih : ∀ (cs : List Value) (x : DataW H × List MemPlace), DataW.trod enc P w 0 (fun _ => true) true fuel e cs = some x → Opens enc P w e σ fuel cs x) {n : Nat} {f : Nat → List Value} {xs : List (DataW H × List MemPlace)}
    (h : ((List.range n).mapM fun i => DataW.trod enc P w 0 (fun _ => true) true fuel e (f i)) = some xs) (_ : d = d) :
    ∃ ys : List σ.T, ys.length = n ∧ (∀ (i : Nat) (y : σ.T), ys[i]? = some y → TC (memOf w) σ y (f i) ∧ wfT σ y) ∧ xs.length = n ∧ ∀ (w' : World) (sp : Nat → Bool), (∀ a v, w.cell? a = some v → w'.cell? a = some v) → (∀ p ∈ xs.flatMap (·.2), sp p.block = true) →
      ((List.range n).mapM fun i => DataW.trod enc P w' 0 sp true fuel e (f i)) = some xs := by
  obtain ⟨h1, h2⟩ := mapM_at h
  have h1 : xs.length = n := by simpa using h1
  obtain ⟨ys, hl, hy⟩ := chooseL (n := n) (p := fun i (y : σ.T) => ∃ x, xs[i]? = some x ∧ TC (memOf w) σ y (f i) ∧ wfT σ y ∧ ∀ (w' : World) (sp : Nat → Bool), (∀ a v, w.cell? a = some v → w'.cell? a = some v) → (∀ p ∈ x.2, sp p.block = true) → DataW.trod enc P w' 0 sp true fuel e (f i) = some x) (by
    intro i hi
    obtain ⟨x, h3, h4⟩ := h2 i i (by simp [hi])
    obtain ⟨y, t1, t2, t3⟩ := ih _ _ h3
    exact ⟨y, x, h4, t1, t2, t3⟩)
  refine ⟨ys, hl, fun i y hi => ?_, h1, fun w' sp hw hsp => ?_⟩
  · obtain ⟨x, _, t1, t2, _⟩ := hy i y hi
    exact ⟨t1, t2⟩
  · refine mapM_of (by simpa using h1) fun i j x hi hx => ?_
    have hin : i < n := by
      have := (List.getElem?_eq_some_iff.1 hx).1; omega
    have : j = i := by
      rw [List.getElem?_range hin] at hi; exact (Option.some.inj hi).symm
    subst this
    obtain ⟨x', e1, _, _, t3⟩ := hy j ys[j] (List.getElem?_eq_getElem (by omega))
    rw [hx] at e1
    cases e1
    exact t3 w' sp hw fun p hp => hsp p (List.mem_flatMap.2 ⟨x, List.mem_of_getElem? hx, hp⟩)

theorem rowC_chunks {α : Type} {R : α → List Value → Prop} {c : Nat} : ∀ (ys : List α) (cs : List Value), cs.length = ys.length * c → (∀ (i : Nat) (y : α), ys[i]? = some y → R y ((cs.drop (i * c)).take c)) → RowC R ys cs
  | [], cs, hl, _ => by simp only [List.length_nil, Nat.zero_mul] at hl; exact List.length_eq_zero_iff.1 hl
  | y :: ys, cs, hl, h => by
    refine ⟨cs.take c, cs.drop c, (List.take_append_drop _ _).symm, by simpa using h 0 y (by simp), rowC_chunks (c := c) ys _ (by rw [List.length_drop, hl, List.length_cons, Nat.succ_mul]; omega) fun i y' hi => ?_⟩
    have := h (i + 1) y' (by simpa using hi)
    rw [Nat.succ_mul, Nat.add_comm, ← List.drop_drop] at this
    exact this

theorem flat_get {m : Nat} : ∀ {css : List (List Value)}, (∀ c ∈ css, c.length = m) → ∀ {j : Nat} {v : Value}, css.flatten[j]? = some v → ∃ i r c, css[i]? = some c ∧ c[r]? = some v ∧ j = i * m + r
  | [], _, j, v, h => by simp at h
  | c :: css, hc, j, v, h => by
    have hl : c.length = m := hc c (by simp)
    rw [List.flatten_cons] at h
    by_cases hj : j < c.length
    · rw [List.getElem?_append_left hj] at h
      exact ⟨0, j, c, by simp, h, by omega⟩
    · rw [List.getElem?_append_right (by omega)] at h
      obtain ⟨i, r, c', h1, h2, h3⟩ := flat_get (fun c hc' => hc c (by simp [hc'])) h
      exact ⟨i + 1, r, c', by simpa using h1, h2, by rw [Nat.succ_mul]; omega⟩

theorem mapM_change {A : Type} {n : Nat} {g g' : Nat → Option A} {xs : List A} (h : (List.range n).mapM g = some xs) (hg : ∀ i x, g i = some x → x ∈ xs → g' i = some x) : (List.range n).mapM g' = some xs := by
  obtain ⟨h1, h2⟩ := mapM_at h
  refine mapM_of h1 fun i j x hi hx => ?_
  obtain ⟨x', h3, h4⟩ := h2 i j hi
  rw [hx] at h4
  cases h4
  exact hg j x h3 (List.mem_of_getElem? hx)

theorem openT : ∀ (d : Nat) (fuel : Nat) (t : TypeId) (τ : Ty) (cs : List Value) (x : DataW H × List MemPlace), tyOf P d t τ = true → DataW.trod enc P w 0 (fun _ => true) true fuel t cs = some x → Opens enc P w t τ fuel cs x
  | 0, _, _, _, _, _, h, _ => by simp [tyOf] at h
  | d + 1, 0, _, _, _, _, _, h => by simp [DataW.trod] at h
  | d + 1, fuel + 1, t, τ, cs, x, ht, h => by
    have ih := openT d fuel
    unfold tyOf at ht
    split at ht
    · rename_i k hu
      split at ht
      case h_2 => cases ht
      rename_i k'
      obtain rfl : k = k' := by simpa [kEq] using ht
      obtain ⟨n, rfl, rfl, hw⟩ := DataW.trod_int hu h
      have hw2 := hw
      simp only [Lit.wf, Bool.and_eq_true, decide_eq_true_eq] at hw
      refine ⟨n, rfl, hw, fun w' sp _ _ => ?_⟩
      simp [DataW.trod, hu, hw2]
    · rename_i hu
      split at ht
      case h_2 => cases ht
      obtain ⟨b, rfl, rfl⟩ := DataW.trod_bool hu h
      exact ⟨b, rfl, trivial, fun w' sp _ _ => by simp [DataW.trod, hu]⟩
    · rename_i hu
      split at ht
      case h_2 => cases ht
      obtain ⟨s, rfl, rfl, hl⟩ := DataW.trod_string hu h
      obtain ⟨⟨l⟩⟩ := s
      refine ⟨l, rfl, ?_, fun w' sp _ _ => ?_⟩
      · simpa [wfT, ByteArray.size] using hl
      · simp only [DataW.trod, hu]
        rw [if_pos hl]
    · rename_i e hu
      split at ht
      case h_2 => cases ht
      rename_i σ
      simp only [Bool.and_eq_true, Bool.not_eq_true'] at ht
      obtain ⟨⟨h1, h2⟩, h3⟩ := ht
      have h2 := Nat.eq_of_beq_eq_true h2
      have h3 : 0 < σ.n := by
        rcases Nat.eq_zero_or_pos σ.n with h0 | h0
        · rw [h0] at h3; cases h3
        · exact h0
      rcases DataW.trod_slice hu h with ⟨rfl, rfl⟩ | ⟨a, len, cap, elems, rest, n, hn, rfl, rfl, hb, hlc, hcm, hel, hget, hsp, _⟩
      · refine ⟨[], ⟨none, 0, rfl, [], rfl, .inl rfl, Nat.le_refl _⟩, ⟨Nat.zero_le _, fun x hx => by cases hx⟩, fun w' sp _ _ => ?_⟩
        simp [DataW.trod, hu]
      · obtain rfl : fuel = n := by omega
        obtain ⟨hrl, hrest⟩ := hsp rfl
        obtain ⟨yc, hyl, hy⟩ := chooseL (n := len) (p := fun i (y : σ.T × List Value) => w.cells? 0 (a.add (i * P.cellsOf e)) (P.cellsOf e) = some y.2 ∧ TC (memOf w) σ y.1 y.2 ∧ wfT σ y.1) (by
          intro i hi
          have h4 := hget i hi
          rw [List.getElem?_eq_getElem (by omega)] at h4
          cases hc : w.cells? 0 (a.add (i * P.cellsOf e)) (P.cellsOf e) with
          | none => rw [hc] at h4; cases h4
          | some c =>
            rw [hc] at h4
            obtain ⟨y, t1, t2, _⟩ := ih e σ c _ h1 h4
            exact ⟨(y, c), rfl, t1, t2⟩)
        have hcell : ∀ (i : Nat) (y : σ.T × List Value), yc[i]? = some y → y.2.length = σ.n ∧ a.spot = none ∧ ∀ (r : Nat) (v : Value), y.2[r]? = some v → w.cell? ⟨a.block, a.off + (i * σ.n + r), none⟩ = some v := by
          intro i y hiy
          obtain ⟨q1, q2, q3⟩ := hy i y hiy
          have hi : i < len := by have := (List.getElem?_eq_some_iff.1 hiy).1; omega
          have hspot : a.spot = none := by
            obtain ⟨q4, _, _⟩ := hy 0 yc[0] (List.getElem?_eq_getElem (by omega))
            obtain ⟨q5, q6⟩ := cells_get q4
            have h0 : 0 < yc[0].2.length := by rw [q5, h2]; exact h3
            have := q6 0 yc[0].2[0] (List.getElem?_eq_getElem h0)
            simp only [Nat.zero_mul, Addr.add, if_true] at this
            exact spot_of_cell this
          obtain ⟨q5, q6⟩ := cells_get q1
          refine ⟨by rw [q5, h2], hspot, fun r v hr => ?_⟩
          have := q6 r v hr
          rw [add_cell hspot, add_cell rfl, h2] at this
          simpa only [Nat.add_assoc] using this
        refine ⟨yc.map (·.1), ⟨some a, cap, by rw [List.length_map, hyl], (yc.map (·.2)).flatten, RowC_of _ _ (by simp) (fun i x c hx hc => ?_), ?_, by rw [List.length_map, hyl]; exact hlc⟩, ⟨by rw [List.length_map, hyl]; omega, fun x hx => ?_⟩, fun w' sp hw hsp' => ?_⟩
        · simp only [List.getElem?_map, Option.map_eq_some_iff] at hx hc
          obtain ⟨y, hy1, rfl⟩ := hx
          obtain ⟨y', hy2, rfl⟩ := hc
          rw [hy1] at hy2
          cases hy2
          exact (hy i y hy1).2.1
        · by_cases hne : yc = []
          · left; rw [hne]; rfl
          · right
            obtain ⟨_, hspot, _⟩ := hcell 0 (yc.head hne) (by simp [List.head?_eq_some_head hne, ← List.head?_eq_getElem?])
            refine ⟨a.block, a.off, by cases a; simp only at hspot; subst hspot; rfl, fun j v hv => ?_⟩
            obtain ⟨i, r, c, e1, e2, rfl⟩ := flat_get (m := σ.n) (fun c hc => by
              obtain ⟨y, hym, rfl⟩ := List.mem_map.1 hc
              obtain ⟨i, hi⟩ := List.mem_iff_getElem?.1 hym
              exact (hcell i y hi).1) hv
            simp only [List.getElem?_map, Option.map_eq_some_iff] at e1
            obtain ⟨y, hy1, rfl⟩ := e1
            exact (hcell i y hy1).2.2 r v e2
        · obtain ⟨y, hym, rfl⟩ := List.mem_map.1 hx
          obtain ⟨i, hi⟩ := List.mem_iff_getElem?.1 hym
          exact (hy i y hi).2.2
        · have one : ∀ {i : Nat} {z : DataW H × List MemPlace}, (w.cells? 0 (a.add (i * P.cellsOf e)) (P.cellsOf e)).bind (DataW.trod enc P w 0 (fun _ => true) true fuel e) = some z → (∀ p ∈ z.2, sp p.block = true) →
              (w'.cells? 0 (a.add (i * P.cellsOf e)) (P.cellsOf e)).bind (DataW.trod enc P w' 0 sp true fuel e) = some z := by
            intro i z hz hp
            cases hc : w.cells? 0 (a.add (i * P.cellsOf e)) (P.cellsOf e) with
            | none => rw [hc] at hz; cases hz
            | some c =>
              rw [hc] at hz
              obtain ⟨_, _, _, r1⟩ := ih e σ c _ h1 hz
              rw [cells_of_mem hw hc]
              exact r1 w' sp hw hp
          have he : ((List.range len).mapM fun i => (w'.cells? 0 (a.add (i * P.cellsOf e)) (P.cellsOf e)).bind (DataW.trod enc P w' 0 sp true fuel e)) = some elems := by
            refine mapM_of (by simpa using hel) fun i j z hi hz => ?_
            have hin : i < len := by have := (List.getElem?_eq_some_iff.1 hz).1; omega
            have hji : j = i := by rw [List.getElem?_range hin] at hi; exact (Option.some.inj hi).symm
            rw [hji]
            refine one (by rw [hget i hin, hz]) fun p hp => hsp' p ?_
            simp only [List.mem_append, List.mem_flatMap]
            exact .inr ⟨z, .inl (List.mem_of_getElem? hz), hp⟩
          have hr : (if sp a.block = true then (List.range (cap - len)).mapM fun j => (w'.cells? 0 (a.add ((len + j) * P.cellsOf e)) (P.cellsOf e)).bind (DataW.trod enc P w' 0 sp true fuel e) else some []) = some rest := by
            by_cases h0 : cap - len = 0
            · have : rest = [] := List.length_eq_zero_iff.1 (by omega)
              subst this
              split
              · rw [h0]; simp
              · rfl
            · have hsa : sp a.block = true := by
                refine hsp' (.cell a.block (a.off + 0)) ?_
                simp only [List.mem_append]
                left
                unfold MemPlace.row
                refine List.mem_map.2 ⟨0, ?_, rfl⟩
                rw [List.mem_range, h2]
                exact Nat.mul_pos (by omega) h3
              rw [if_pos hsa]
              refine mapM_of (by simpa using hrl) fun i j z hi hz => ?_
              have hin : i < cap - len := by have := (List.getElem?_eq_some_iff.1 hz).1; omega
              have hji : j = i := by rw [List.getElem?_range hin] at hi; exact (Option.some.inj hi).symm
              rw [hji]
              refine one (by rw [hrest i hin, hz]) fun p hp => hsp' p ?_
              simp only [List.mem_append, List.mem_flatMap]
              exact .inr ⟨z, .inr (List.mem_of_getElem? hz), hp⟩
          unfold DataW.trod
          simp only [hu]
          rw [if_pos ⟨Nat.zero_le _, hlc, hcm⟩]
          simp only [he, Option.bind_some]
          rw [hr]
          rfl
    · rename_i n e hu
      split at ht
      case h_2 => cases ht
      rename_i m σ
      simp only [Bool.and_eq_true] at ht
      obtain ⟨⟨⟨h0, h1⟩, h2⟩, hct⟩ := ht
      obtain rfl := Nat.eq_of_beq_eq_true h0
      have h2 := Nat.eq_of_beq_eq_true h2
      have hct := Nat.eq_of_beq_eq_true hct
      have h9 := h
      unfold DataW.trod at h
      simp only [hu] at h
      split at h
      case isFalse => cases h
      rename_i hlen
      simp only [Option.map_eq_some_iff] at h
      obtain ⟨xs, hxs, rfl⟩ := h
      obtain ⟨ys, hyl, hy, _, hfr⟩ := opens_elems (d := d) (fun cs x => ih e σ cs x h1) hxs rfl
      refine ⟨ys, ⟨hyl, rowC_chunks (c := P.cellsOf e) ys cs (by rw [hlen, hct, hyl, h2]) fun i y hi => (hy i y hi).1⟩, ⟨hyl, fun y hym => ?_⟩, fun w' sp hw hsp => ?_⟩
      · obtain ⟨i, hi⟩ := List.mem_iff_getElem?.1 hym
        exact (hy i y hi).2
      · unfold DataW.trod
        simp only [hu]
        rw [if_pos hlen, hfr w' sp hw hsp]
        rfl
    · rename_i fs hu
      have h9 := h
      unfold DataW.trod at h
      simp only [hu] at h
      split at h
      case isFalse => cases h
      rename_i hlen
      simp only [Option.map_eq_some_iff] at h
      obtain ⟨xs, hxs, rfl⟩ := h
      simp only [Bool.and_eq_true] at ht
      obtain ⟨y, t1, t2, t3⟩ := opens_fs ih fs.toList τ 0 cs xs ht.1 (by rw [hlen, Nat.eq_of_beq_eq_true ht.2, Nat.zero_add]) hxs
      refine ⟨y, by simpa using t1, t2, fun w' sp hw hsp => ?_⟩
      unfold DataW.trod
      simp only [hu]
      rw [if_pos hlen, t3 w' sp hw hsp]
      rfl
    · cases ht
end

end Go.Av

/-
  A law's function: where its typed form answers true, the machine's call does, and leaves the old memory as it was.
-/
namespace Go.Av
open Go.RowKit
section
variable {P : Program} {G : Nat → AV}

theorem law_calls {f : FuncId} {E : UEntry} (hE : FU P G f E) {args : List AV} (hr : E args [] (fun _ o _ => some o) = some [.tv .bool true]) {W : World} {vs : List Value} (hG : GlobOk (memOf W) G) (ha : AVs (memOf W) (fun _ => none) args vs) :
    Calls P f vs.toArray W fun e W' => e = .returned (.bool true) ∧ Grown W W' ∧ ∀ a v, W.cell? a = some v → W'.cell? a = some v := by
  have h0 : Hold ⟨W, fun _ => False, memOf W⟩ (memOf W) (fun _ => none) (enumB 0 []) W := {
    mem := fun b o v h => h
    blks := fun i k h => by simp [enumB, hget, alGet] at h
    inj := fun i j k k' l l' b h => by simp [enumB, hget, alGet] at h
    exc := fun i k l b o v h => by simp [enumB, hget, alGet] at h
    own := fun i k l b h => by simp [enumB, hget, alGet] at h
    mle := Mem.le.refl _
    mown := fun b o v h => .inl h
    os := rfl
    tape := rfl
    output := rfl
    size := Nat.le_refl _
    frame := fun b hb hn => rfl
    fz := fun a => rfl }
  refine ((hE hr).2 (c := ⟨W, fun _ => False, memOf W⟩) rfl rfl h0 hG ha (fun i _ => rfl)).mono ?_
  rintro e W' ⟨v, out, blks', M', μ', rfl, hK, hH, hv, _⟩
  have hK : out = .tv .bool true := by simpa using hK
  rw [hK, AVV_bool] at hv
  subst hv
  refine ⟨rfl, ⟨⟨hH.os, hH.output, fun i hi => ?_⟩, hH.fz, hH.size⟩, fun a v ha => by
    have hb := World.block_lt_of_cell? W _ ha
    unfold World.cell? at ha ⊢
    rw [hH.frame a.block hb (fun h => h)]
    exact ha⟩
  rw [hH.frame i hi (fun h => h)]
  cases hq : W.heap[i]? with
  | none => rfl
  | some o => cases o <;> simp
end
end Go.Av

/-
  The package-level tables of a row, as they lie.
-/
namespace Go.Av
open Go.Lib
section
variable {P : Program}

theorem laid_at {w : World} : ∀ {laid : List (String × DataW Unit)} {ps : List MemPlace}, DataW.LaidVars P w laid ps → ∀ (i : Nat) (n : String) (d : DataW Unit), laid[i]? = some (n, d) → ∃ ps', DataW.LaidVars P w [(n, d)] ps'
  | [], _, _, i, n, d, h => by simp at h
  | (n0, d0) :: r, ps, h, i, n, d, hi => by
    obtain ⟨g, t, cs, fuel, p, q, h1, h2, h3, h4, h5, h6⟩ := h
    cases i with
    | zero =>
      simp only [List.getElem?_cons_zero, Option.some.injEq, Prod.mk.injEq] at hi
      obtain ⟨rfl, rfl⟩ := hi
      exact ⟨_, g, t, cs, fuel, p, [], h1, h2, h3, h4, rfl, rfl⟩
    | succ i => exact laid_at h5 i n d (by simpa using hi)

/-- A table of whole numbers, wherever it stands on the list. -/
theorem tab_fp {W : World} {laid : List (String × DataW Unit)} {name : String} {k : IntKind} {zs : List Int} {g : Nat} {t e : TypeId} {n i : Nat}
    (hg : P.globalNamed name = some g) (hty : (P.globals[g]?).map (·.type) = some t) (ht : P.underlying t = some (.array n e)) (he : P.underlying e = some (.int k)) (hce : P.cellsOf e = 1) (hct : P.cellsOf t = n)
    (hl : laid[i]? = some (name, tabData k zs)) (hz : zs.length = n) (h : laidMet P laid W) : ∀ μ, AVV (memOf W) μ (.fp (.arr n (.int k)) zs) (.pointer (some ⟨g, 0, none⟩)) := by
  intro μ
  obtain ⟨ps, h1, _⟩ := h
  obtain ⟨ps', h2⟩ := laid_at h1 i _ _ hl
  obtain ⟨g', t', cs, fuel, p, q, hg', ht', hvar, hd, _, _⟩ := h2
  obtain rfl := Option.some.inj (hg.symm.trans hg')
  obtain rfl := Option.some.inj (hty.symm.trans ht')
  have htab : TabIs P W name k zs := by
    unfold TabIs
    rw [hvar, ← cells_of_tab ht he hce hct hd]
  rw [AVV_fp]
  refine ⟨g, 0, zs.map (.int k), rfl, ⟨hz, ?_⟩, fun j v hv => ?_⟩
  · clear hz htab hd hl h1
    induction zs with
    | nil => rfl
    | cons z zs ih => exact ⟨[.int k z], zs.map (.int k), rfl, rfl, ih⟩
  · simp only [List.getElem?_map, Option.map_eq_some_iff] at hv
    obtain ⟨z, hz1, rfl⟩ := hv
    have hj := (List.getElem?_eq_some_iff.1 hz1).1
    have := htab.cell hg j hj
    rw [List.getD_eq_getElem?_getD, hz1] at this
    simpa [memOf] using this
end
end Go.Av

/-
  The arguments of a law: each that came in and reads as data is a tree; and they read so behind the call.
-/
namespace Go.Av
open Go.WideShapes
section
variable {H : Type} {enc : TypeId × Value → H} {P : Program} {W : World}

theorem argT {d fuel : Nat} {t : TypeId} {τ : Ty} {base : Nat} {v : Value} {x : DataW H × List MemPlace} (ht : tyOf P d t τ = true) (ho : Value.okWide P W .any base t v)
    (hx : DataW.trod enc P W 0 (fun _ => true) true fuel t v.cells.toList = some x) :
    ∃ y : τ.T, AVV (memOf W) (fun _ => none) (.tv τ y) v ∧ wfT τ y ∧ ∀ (W' : World) (sp : Nat → Bool), (∀ a v, W.cell? a = some v → W'.cell? a = some v) → (∀ p ∈ x.2, sp p.block = true) → DataW.trod enc P W' 0 sp true fuel t v.cells.toList = some x := by
  obtain ⟨y, t0, w0, k0⟩ := openT d fuel t τ _ _ ht hx
  refine ⟨y, AVV_tv.2 ⟨_, t0, ?_⟩, w0, k0⟩
  cases d with
  | zero => cases ht
  | succ d =>
    unfold tyOf at ht
    split at ht
    · rename_i k hu
      split at ht
      · obtain ⟨n, rfl⟩ := okWide_int hu ho; rfl
      · cases ht
    · rename_i hu
      split at ht
      · obtain ⟨n, rfl⟩ := okWide_bool hu ho; rfl
      · cases ht
    · rename_i hu
      split at ht
      · obtain ⟨n, rfl⟩ := okWide_string hu ho; rfl
      · cases ht
    · rename_i e hu
      split at ht
      · obtain ⟨a, l, c, rfl⟩ := okWide_slice hu ho; rfl
      · cases ht
    · rename_i n e hu
      split at ht
      · unfold Value.okWide at ho
        rw [hu] at ho
        obtain ⟨cs, rfl, _⟩ := ho
        simp [VofC, AV.isAgg, Ty.isAgg, Value.cells]
      · cases ht
    · rename_i fs hu
      unfold Value.okWide at ho
      rw [hu] at ho
      obtain ⟨cs, rfl, _⟩ := ho
      have : τ.isAgg = true := by
        cases τ <;> first | rfl | (simp only [Bool.and_eq_true] at ht; obtain ⟨h1, _⟩ := ht; unfold tyFs at h1; split at h1 <;> simp_all)
      simp [VofC, AV.isAgg, Value.cells, this]
    · cases ht
end
end Go.Av
