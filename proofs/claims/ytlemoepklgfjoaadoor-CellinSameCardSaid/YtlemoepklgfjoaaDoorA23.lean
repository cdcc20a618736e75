/-
  What is known of each step of such a statement, when all were tried in the text's order.
-/
import Derived.Test.YtlemoepklgfjoaaDoorA22
namespace Go.Av

def Acts (G : Nat → AV) (orc : Orc) (all : List AItem) (S0 : St) (done : Done) (i : Nat) (it : AItem) (d : Rec) : Prop :=
  actK G orc it.act ⟨envI all S0 done i it.anc, restr d.rf (heapI S0 done it.anc), 0⟩ d.base (fun v u => some (v, u)) = some (d.v, ⟨d.hs, d.na⟩)

def StepFact (G : Nat → AV) (orc : Orc) (all : List AItem) (S0 : St) (done : Done) (i : Nat) (it : AItem) (d : Rec) : Prop :=
  (∃ j g want e, it.guard = some (j, g, want) ∧ (j, e) ∈ done ∧ (e.v = .tv .bool (!want) ∨ e.v = .tup .nil) ∧ d.v = .tup .nil ∧ d.hs = [] ∧ d.na = 0) ∨
  (Acts G orc all S0 done i it d ∧ (it.guard = none ∨ ∃ j g want e, it.guard = some (j, g, want) ∧ (j, e) ∈ done ∧ e.v = .tv .bool want))

structure TOK (G : Nat → AV) (orc : Orc) (all : List AItem) (S0 : St) (n nid : Nat) (done : Done) : Prop where
  desc : Desc n done
  fact : ∀ i d, (i, d) ∈ done → ∃ it, all[i]? = some it ∧ d.dst = it.dst ∧ StepFact G orc all S0 done i it d
  pair : ∀ i d j e, (i, d) ∈ done → (j, e) ∈ done → j < i → memB j (ancAt all i) = false → (∀ id ∈ keysOf d.hs, id ∉ e.rf ∧ id ∉ keysOf e.hs) ∧ (∀ id ∈ keysOf e.hs, id ∉ d.rf)
  lo : S0.nid ≤ nid
  rng : ∀ i d, (i, d) ∈ done → S0.nid ≤ d.base ∧ d.base + d.na ≤ nid
  sep : ∀ i d j e, (i, d) ∈ done → (j, e) ∈ done → j < i → e.base + e.na ≤ d.base

theorem chk_spec {anc rf : List Nat} {hs : Hp} : ∀ {done : Done}, chk anc rf hs done = true → ∀ j e, (j, e) ∈ done → memB j anc = false → (∀ id ∈ keysOf hs, id ∉ e.rf ∧ id ∉ keysOf e.hs) ∧ (∀ id ∈ keysOf e.hs, id ∉ rf)
  | [], _, j, e, hm, _ => by cases hm
  | (k, d) :: r, h, j, e, hm, hj => by
    simp only [chk, Bool.and_eq_true] at h
    rcases List.mem_cons.1 hm with h1 | h1
    · cases h1
      have h2 := h.1
      rw [hj] at h2
      simp only [cond_false, Bool.and_eq_true] at h2
      refine ⟨fun id hid => ?_, fun id hid => disj_spec h2.2 id hid⟩
      have := disj_spec h2.1 id hid
      simp only [List.mem_append, not_or] at this
      exact this
    · exact chk_spec h.2 j e h1 hj

section
variable {G : Nat → AV} {orc : Orc} {all : List AItem} {S0 : St}

theorem TOK.cons (hanc : ∀ i it, all[i]? = some it → ∀ j, memB j it.anc = true → j < i) {n nid : Nat} {done : Done} (h : TOK G orc all S0 n nid done) {it : AItem} {d : Rec} (hit : all[n]? = some it) (hd : d.dst = it.dst)
    (hs : StepFact G orc all S0 done n it d) (hc : chk it.anc d.rf d.hs done = true) (hb : d.base = nid) : TOK G orc all S0 (n + 1) (nid + d.na) ((n, d) :: done) := by
  have keepE : ∀ i it, all[i]? = some it → i ≤ n → envI all S0 ((n, d) :: done) i it.anc = envI all S0 done i it.anc ∧ heapI S0 ((n, d) :: done) it.anc = heapI S0 done it.anc := by
    intro i it' hi hle
    have : memB n it'.anc = false := by
      cases hq : memB n it'.anc with
      | false => rfl
      | true => have := hanc i it' hi n hq; omega
    constructor
    · simp only [envI, envOf, this, cond_false]
    · simp only [heapI, heapOf, this, cond_false]
  have keepS : ∀ i it e, all[i]? = some it → i ≤ n → StepFact G orc all S0 done i it e → StepFact G orc all S0 ((n, d) :: done) i it e := by
    intro i it' e hi hle hf
    rcases hf with ⟨j, g, want, e', h1, h2, h3⟩ | ⟨h1, h2⟩
    · exact .inl ⟨j, g, want, e', h1, List.mem_cons_of_mem _ h2, h3⟩
    · refine .inr ⟨?_, ?_⟩
      · obtain ⟨k1, k2⟩ := keepE i it' hi hle
        unfold Acts at h1 ⊢
        rw [k1, k2]; exact h1
      · rcases h2 with h2 | ⟨j, g, want, e', h3, h4, h5⟩
        · exact .inl h2
        · exact .inr ⟨j, g, want, e', h3, List.mem_cons_of_mem _ h4, h5⟩
  have hanN : ancAt all n = it.anc := by simp only [ancAt, hit]
  exact {
    desc := ⟨d, done, rfl, h.desc⟩
    fact := fun i e hm => by
      rcases List.mem_cons.1 hm with h1 | h1
      · cases h1; exact ⟨it, hit, hd, keepS n it d hit (Nat.le_refl _) hs⟩
      · obtain ⟨it', h2, h3, h4⟩ := h.fact i e h1
        exact ⟨it', h2, h3, keepS i it' e h2 (Nat.le_of_lt (h.desc.lt h1)) h4⟩
    pair := fun i e j e' hm hm' hji ha => by
      rcases List.mem_cons.1 hm with h1 | h1
      · cases h1
        rcases List.mem_cons.1 hm' with h2 | h2
        · cases h2; omega
        · exact chk_spec hc j e' h2 (by rw [← hanN]; exact ha)
      · rcases List.mem_cons.1 hm' with h2 | h2
        · cases h2; have := h.desc.lt h1; omega
        · exact h.pair i e j e' h1 h2 hji ha
    lo := Nat.le_trans h.lo (Nat.le_add_right _ _)
    rng := fun i e hm => by
      rcases List.mem_cons.1 hm with h1 | h1
      · cases h1; exact ⟨by rw [hb]; exact h.lo, by rw [hb]; exact Nat.le_refl _⟩
      · obtain ⟨h2, h3⟩ := h.rng i e h1; exact ⟨h2, by omega⟩
    sep := fun i e j e' hm hm' hji => by
      rcases List.mem_cons.1 hm with h1 | h1
      · cases h1
        rcases List.mem_cons.1 hm' with h2 | h2
        · cases h2; omega
        · rw [hb]; exact (h.rng j e' h2).2
      · rcases List.mem_cons.1 hm' with h2 | h2
        · cases h2; have := h.desc.lt h1; omega
        · exact h.sep i e j e' h1 h2 hji }

theorem chk_nil {anc : List Nat} : ∀ (done : Done), chk anc [] [] done = true
  | [] => rfl
  | (j, d) :: r => by
    simp only [chk, Bool.and_eq_true]
    refine ⟨?_, chk_nil r⟩
    cases memB j anc with
    | true => rfl
    | false =>
      simp only [cond_false, keysOf, disj, Bool.true_and]
      have : ∀ l : List Nat, disj l [] = true := by
        intro l
        induction l with
        | nil => rfl
        | cons x r ih => simp [disj, memB, ih]
      exact this _

theorem evDraw_trace {R : Type} {r : R} {K : St → Option R} (ho : ∀ f, Natural (orc f)) (hanc : ∀ i it, all[i]? = some it → ∀ j, memB j it.anc = true → j < i) : ∀ (its : List AItem) (i nid : Nat) (done : Done), (∀ k, its[k]? = all[i + k]?) →
    TOK G orc all S0 i nid done → evDraw G orc all S0 its i nid done K = some r → ∃ nid' done', TOK G orc all S0 all.length nid' done' ∧ K ⟨envOf (fun _ => true) done' S0.env, heapOf (fun _ => true) done' S0.H, nid'⟩ = some r
  | [], i, nid, done, hk, ht, hr => by
    have h1 : all[i]? = none := by simpa using (hk 0).symm
    have h2 : all.length ≤ i := by simpa using h1
    have h3 : i ≤ all.length := by
      cases i with
      | zero => omega
      | succ n =>
        obtain ⟨e, he⟩ := ht.desc.has (i := n) (by omega)
        obtain ⟨it, h4, _⟩ := ht.fact n e he
        have := (List.getElem?_eq_some_iff.1 h4).1
        omega
    have : i = all.length := by omega
    subst this
    exact ⟨nid, done, ht, hr⟩
  | it :: its, i, nid, done, hk, ht, hr => by
    have hit : all[i]? = some it := by simpa using (hk 0).symm
    have hk' : ∀ k, its[k]? = all[i + 1 + k]? := fun k => by
      have := hk (k + 1)
      rw [List.getElem?_cons_succ] at this
      rw [this]; congr 1; omega
    have run : ∀ {cont : Rec → Option R}, runD G orc all S0 i it nid done cont = some r → (it.guard = none ∨ ∃ j g want e, it.guard = some (j, g, want) ∧ (j, e) ∈ done ∧ e.v = .tv .bool want) → ∃ d, cont d = some r ∧ TOK G orc all S0 (i + 1) (nid + d.na) ((i, d) :: done) := by
      intro cont h hg
      unfold runD at h
      obtain ⟨v, u, h1, h2⟩ := actK_some ho h
      cases hc : chk it.anc (foot G ⟨envI all S0 done i it.anc, heapI S0 done it.anc, 0⟩ it.act) u.hs done with
      | false => rw [hc] at h2; cases h2
      | true =>
        rw [hc] at h2
        exact ⟨_, h2, ht.cons hanc hit rfl (.inr ⟨h1, hg⟩) hc rfl⟩
    have skip : ∀ {j g want e}, it.guard = some (j, g, want) → (j, e) ∈ done → (e.v = .tv .bool (!want) ∨ e.v = .tup .nil) → TOK G orc all S0 (i + 1) nid ((i, ⟨it.dst, .tup .nil, [], [], nid, 0⟩) :: done) := by
      intro j g want e h1 h2 h3
      exact ht.cons (d := ⟨it.dst, .tup .nil, [], [], nid, 0⟩) hanc hit rfl (.inl ⟨j, g, want, e, h1, h2, h3, rfl, rfl, rfl⟩) (chk_nil done) rfl
    simp only [evDraw] at hr
    split at hr
    · rename_i hg
      obtain ⟨d, h1, h2⟩ := run hr (.inl hg)
      exact evDraw_trace ho hanc its _ _ _ hk' h2 h1
    · rename_i j g hg
      split at hr
      case h_2 => cases hr
      rename_i e he
      split at hr
      case h_3 => cases hr
      case h_2 =>
        rename_i hb
        exact evDraw_trace ho hanc its _ _ _ hk' (skip hg (alGet_mem he) (.inr hb)) hr
      rename_i b hb
      have hme := alGet_mem he
      cases b with
      | true =>
        simp only [cond_true] at hr
        rw [donePut_same he hb] at hr
        obtain ⟨d, h1, h2⟩ := run hr (.inr ⟨j, g, true, e, hg, hme, hb⟩)
        exact evDraw_trace ho hanc its _ _ _ hk' h2 h1
      | false =>
        simp only [cond_false] at hr
        rw [donePut_same he hb] at hr
        exact evDraw_trace ho hanc its _ _ _ hk' (skip hg hme (.inl hb)) hr
    · rename_i j g hg
      split at hr
      case h_2 => cases hr
      rename_i e he
      split at hr
      case h_3 => cases hr
      case h_1 =>
        rename_i hb
        exact evDraw_trace ho hanc its _ _ _ hk' (skip hg (alGet_mem he) (.inr hb)) hr
      rename_i b hb
      have hme := alGet_mem he
      cases b with
      | false =>
        simp only [cond_false] at hr
        rw [donePut_same he hb] at hr
        obtain ⟨d, h1, h2⟩ := run hr (.inr ⟨j, g, false, e, hg, hme, hb⟩)
        exact evDraw_trace ho hanc its _ _ _ hk' h2 h1
      | true =>
        simp only [cond_true] at hr
        rw [donePut_same he hb] at hr
        exact evDraw_trace ho hanc its _ _ _ hk' (skip hg hme (.inl hb)) hr

/-! ### What the static check tells -/
variable {P : Program}

theorem all_memB {l : List Nat} {f : Nat → Bool} (h : l.all f = true) {j : Nat} (hj : memB j l = true) : f j = true := List.all_eq_true.1 h j (memB_iff.1 hj)

theorem mdraw_at {N : Nat} {kills : List Nat} {ops : Array Oper} : ∀ (its : List AItem) (os : List Oper) (i : Nat), mdraw P N kills ops all i its os = true → its.length = os.length ∧ ∀ k it o, its[k]? = some it → os[k]? = some o →
    mitem P N kills ops it o = true ∧ (∀ j, memB j it.anc = true → j < i + k ∧ ∃ e ∈ o.after, Region.binds .any e = true ∧ (e.on = j ∨ memB j (ancAt all e.on) = true)) ∧ (∀ e ∈ o.after, Region.binds .any e = true → e.on < i + k) ∧ ∀ j g want, it.guard = some (j, g, want) → memB j it.anc = true
  | [], [], _, _ => ⟨rfl, fun k it o h => by simp at h⟩
  | it :: its, o :: os, i, h => by
    simp only [mdraw, Bool.and_eq_true] at h
    obtain ⟨⟨⟨h1, h2, h3⟩, h4⟩, h5⟩ := h
    obtain ⟨l, ih⟩ := mdraw_at its os (i + 1) h5
    refine ⟨by simp [l], fun k it' o' hk ho => ?_⟩
    cases k with
    | zero =>
      simp only [List.getElem?_cons_zero, Option.some.injEq] at hk ho
      subst hk; subst ho
      refine ⟨h1, fun j hj => ?_, fun e he hb => ?_, fun j g want hg => ?_⟩
      · have := all_memB h2 hj
        simp only [Bool.and_eq_true, Nat.blt_eq, Array.any_eq_true', Bool.or_eq_true] at this
        obtain ⟨h6, e, h7, h8, h9⟩ := this
        refine ⟨by omega, e, h7, h8, h9.imp (fun h => Nat.eq_of_beq_eq_true h) id⟩
      · have := Array.all_eq_true_iff_forall_mem.1 h3 e he
        simp only [hb, Bool.not_true, Bool.false_or, Nat.blt_eq] at this
        omega
      · rw [hg] at h4; exact h4
    | succ k =>
      have := ih k it' o' (by simpa using hk) (by simpa using ho)
      have e : i + (k + 1) = i + 1 + k := by omega
      rw [e]; exact this
  | [], _ :: _, _, h => by simp [mdraw] at h
  | _ :: _, [], _, h => by simp [mdraw] at h

theorem dsts_inj : ∀ {l : List AItem}, distinct (dstsOf l) = true → ∀ {i j : Nat} {a b : AItem} {t : Nat}, l[i]? = some a → l[j]? = some b → a.dst = some t → b.dst = some t → i = j
  | [], _, i, j, a, b, t, h, _, _, _ => by simp at h
  | it :: r, hd, i, j, a, b, t, hi, hj, ha, hb => by
    have hmem : ∀ {k : Nat} {c : AItem}, r[k]? = some c → c.dst = some t → t ∈ dstsOf r := by
      intro k c hk hc
      clear hd hi hj
      induction r generalizing k with
      | nil => simp at hk
      | cons x r ih =>
        cases k with
        | zero =>
          simp only [List.getElem?_cons_zero, Option.some.injEq] at hk
          subst hk
          simp [dstsOf, hc]
        | succ k => simp only [dstsOf, List.mem_append]; exact .inr (ih (by simpa using hk))
    have htail : distinct (dstsOf r) = true := by
      simp only [dstsOf] at hd
      cases hq : it.dst with
      | none => rw [hq] at hd; exact hd
      | some d =>
        rw [hq] at hd
        simp only [List.singleton_append, distinct, Bool.and_eq_true] at hd
        exact hd.2
    have hhead : it.dst = some t → t ∈ dstsOf r → False := by
      intro hq hm
      simp only [dstsOf, hq, List.singleton_append, distinct, Bool.and_eq_true, Bool.not_eq_true'] at hd
      rw [memB_iff.2 hm] at hd
      cases hd.1
    cases i with
    | zero =>
      simp only [List.getElem?_cons_zero, Option.some.injEq] at hi
      subst hi
      cases j with
      | zero => rfl
      | succ j => exact (hhead ha (hmem (by simpa using hj) hb)).elim
    | succ i =>
      cases j with
      | zero =>
        simp only [List.getElem?_cons_zero, Option.some.injEq] at hj
        subst hj
        exact (hhead hb (hmem (by simpa using hi) ha)).elim
      | succ j =>
        have := dsts_inj htail (i := i) (j := j) (by simpa using hi) (by simpa using hj) ha hb
        omega
end
end Go.Av
