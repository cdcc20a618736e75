/-
  A statement whose steps may come in several orders is what it is in the text's order.
-/
import Derived.Test.YtlemoepklgfjoaaDoorA23
namespace Go.Av

def lst (l : Array Bool) (j : Nat) : Bool := l.getD j false

theorem lst_set {l : Array Bool} {i j : Nat} (hi : i < l.size) : lst (l.setIfInBounds i true) j = if j = i then true else lst l j := by
  unfold lst
  by_cases h : j = i
  · subst h; simp [hi]
  · rw [if_neg h]; simp [Array.getElem?_setIfInBounds_ne (Ne.symm h)]

theorem EnvOk.congr {M : Mem} {μ : Map} {S S' : St} {a : Act} (h : EnvOk M μ S a) (hg : ∀ t, S'.get t = S.get t) : EnvOk M μ S' a := fun t => by rw [hg t]; exact h t

theorem get_of_alGet {env env' : List (Nat × AV)} {H H' : Hp} {n n' t : Nat} (h : alGet env t = alGet env' t) : (St.mk env H n).get t = (St.mk env' H' n').get t := by simp only [St.get, h]

section
variable {P : Program} {G : Nat → AV} {orc : Orc} {B : Base} {all : List AItem} {S0 : St} {ops : Array Oper} {done : Done} {nid' : Nat}

structure Inv (B : Base) (P : Program) (G : Nat → AV) (all : List AItem) (S0 : St) (ops : Array Oper) (done : Done) (l : Array Bool) (a : Act) (w : World) : Prop where
  down : ∀ j, lst l j = true → ∀ k, memB k (ancAt all j) = true → lst l k = true
  size : l.size = ops.size
  real : ∃ M μ, Hold B.c M μ (heapOf (lst l) done S0.H) w ∧ GlobOk M G ∧ EnvOk M μ ⟨envOf (lst l) done S0.env, [], 0⟩ a ∧
    (∀ id, μ id ≠ none → id < S0.nid ∨ ∃ i d, (i, d) ∈ done ∧ lst l i = true ∧ d.base ≤ id ∧ id < d.base + d.na) ∧
    a.defers = [] ∧ a.tmps.size = B.a0.tmps.size ∧ B.μ0.le μ ∧ ∀ t, memB t B.kills = false → a.tmps.getD t undef = B.a0.tmps.getD t undef

structure Stat (B : Base) (P : Program) (ops : Array Oper) (all : List AItem) : Prop where
  m : mdraw P B.a0.tmps.size B.kills ops all 0 all ops.toList = true
  d : distinct (dstsOf all) = true

theorem Stat.item (hs : Stat B P ops all) {i : Nat} {o : Oper} (ho : ops[i]? = some o) : ∃ it, all[i]? = some it ∧ mitem P B.a0.tmps.size B.kills ops it o = true ∧ (∀ j, memB j it.anc = true → j < i ∧ ∃ e ∈ o.after, Region.binds .any e = true ∧ (e.on = j ∨ memB j (ancAt all e.on) = true)) ∧
    (∀ e ∈ o.after, Region.binds .any e = true → e.on < i) ∧ ∀ j g want, it.guard = some (j, g, want) → memB j it.anc = true := by
  obtain ⟨hl, h⟩ := mdraw_at _ _ _ hs.m
  have hi : i < ops.size := (Array.getElem?_eq_some_iff.1 ho).1
  have hi' : i < all.length := by rw [hl]; simpa using hi
  refine ⟨all[i], List.getElem?_eq_getElem hi', ?_⟩
  have := h i all[i] o (List.getElem?_eq_getElem hi') (by rw [← ho]; simp)
  simpa only [Nat.zero_add] using this

theorem Stat.len (hs : Stat B P ops all) : all.length = ops.size := by
  obtain ⟨hl, _⟩ := mdraw_at _ _ _ hs.m
  rw [hl]; simp

theorem Stat.anc (hs : Stat B P ops all) : ∀ i it, all[i]? = some it → ∀ j, memB j it.anc = true → j < i := by
  intro i it hi j hj
  have h1 : i < ops.size := by rw [← hs.len]; exact (List.getElem?_eq_some_iff.1 hi).1
  obtain ⟨it', h2, _, h3, _⟩ := hs.item (Array.getElem?_eq_getElem h1)
  rw [hi] at h2
  cases h2
  exact (h3 j hj).1

theorem Inv.start {M : Mem} {μ : Map} {a : Act} {w : World} (h : SOk B P G M μ S0 a w) : Inv B P G all S0 ops done (Array.replicate ops.size false) a w where
  down := fun j hj => by
    unfold lst at hj
    have : (Array.replicate ops.size false).getD j false = false := by
      rw [Array.getD_eq_getD_getElem?, Array.getElem?_replicate]; split <;> rfl
    rw [this] at hj; cases hj
  size := by simp
  real := by
    have hf : ∀ j, lst (Array.replicate ops.size false) j = false := fun j => by
      unfold lst
      rw [Array.getD_eq_getD_getElem?, Array.getElem?_replicate]; split <;> rfl
    have he : ∀ (ds : Done) env, envOf (lst (Array.replicate ops.size false)) ds env = env := by
      intro ds env
      induction ds with
      | nil => rfl
      | cons x r ih => obtain ⟨j, e⟩ := x; simp only [envOf, hf, cond_false, ih]
    have hh : ∀ (ds : Done) H, heapOf (lst (Array.replicate ops.size false)) ds H = H := by
      intro ds H
      induction ds with
      | nil => rfl
      | cons x r ih => obtain ⟨j, e⟩ := x; simp only [heapOf, hf, cond_false, ih]
    refine ⟨M, μ, by rw [hh]; exact h.hold, h.glob, by rw [he]; exact h.env.congr fun t => rfl, fun id hid => ?_, h.defs, h.size, h.base, h.keep⟩
    by_cases hlt : id < S0.nid
    · exact .inl hlt
    · exact absurd (h.fresh id (by omega)) hid

theorem Inv.step (hs : Stat B P ops all) (ho : OrcOK P G orc) (ht : TOK G orc all S0 all.length nid' done) {Q : Exit → Act → World → Prop} {l : Array Bool} {a : Act} {w : World} {i : Nat} (h : Inv B P G all S0 ops done l a w) (hi : i ∈ Region.ready .any ops l) :
    wpOp P ops Q i (fun a' w' => Inv B P G all S0 ops done (l.setIfInBounds i true) a' w') a w := by
  obtain ⟨hun, o, hoi, hedge⟩ := mem_ready.1 hi
  have hio : i < ops.size := (Array.getElem?_eq_some_iff.1 hoi).1
  have hil : i < l.size := by rw [h.size]; exact hio
  have hpi : lst l i = false := by
    unfold lst
    rw [Array.getD_eq_getD_getElem?, Array.getElem?_eq_getElem hil] at hun ⊢
    simpa using hun
  obtain ⟨it, hit, hm, hanc, _, hgu⟩ := hs.item hoi
  have hai : ancAt all i = it.anc := by simp only [ancAt, hit]
  have hin : ∀ j, memB j it.anc = true → lst l j = true := by
    intro j hj
    obtain ⟨_, e, he, hb, hor⟩ := hanc j hj
    have := hedge e he hb
    rcases hor with rfl | hor
    · exact this
    · exact h.down _ this j hor
  obtain ⟨d, hd⟩ := ht.desc.has (i := i) (by rw [hs.len]; exact hio)
  obtain ⟨it', hit', hdst, hfact⟩ := ht.fact i d hd
  rw [hit] at hit'
  cases hit'
  simp only [mitem, Bool.and_eq_true] at hm
  obtain ⟨⟨⟨⟨m1, m2⟩, m3⟩, m4⟩, m5⟩ := hm
  have hod : it.dst = o.dst := eqO_eq m1
  have un : ∀ j e, (j, e) ∈ done → lst l j = true → memB j it.anc = false → (∀ id ∈ keysOf e.hs, id ∉ d.rf) ∧ (∀ id ∈ keysOf d.hs, id ∉ keysOf e.hs) := by
    intro j e hje hpj hnj
    rcases Nat.lt_trichotomy j i with h1 | h1 | h1
    · obtain ⟨h2, h3⟩ := ht.pair i d j e hd hje h1 (by rw [hai]; exact hnj)
      exact ⟨h3, fun id hid => (h2 id hid).2⟩
    · subst h1; rw [hpi] at hpj; cases hpj
    · have hni : memB i (ancAt all j) = false := by
        cases hq : memB i (ancAt all j) with
        | false => rfl
        | true => have := h.down j hpj i hq; rw [hpi] at this; cases this
      obtain ⟨h2, h3⟩ := ht.pair j e i d hje hd h1 hni
      exact ⟨fun id hid => (h2 id hid).1, fun id hid hid' => (h2 id hid').2 hid⟩
  have dnot : ∀ {t : Nat}, d.dst = some t → ∀ j e, (j, e) ∈ done → j ≠ i → e.dst ≠ some t := by
    intro t hdt j e hje hne het
    obtain ⟨it2, h2, h3, _⟩ := ht.fact j e hje
    exact hne (dsts_inj hs.d h2 hit (by rw [← h3]; exact het) (by rw [← hdst]; exact hdt))
  obtain ⟨M, μ, hH, hG, hE, hF, hD, hS, hB, hK⟩ := h.real
  -- what follows any outcome
  have next : ∀ {M' μ' v' w'}, M.le M' → μ.le μ' → Hold B.c M' μ' (d.hs ++ heapOf (lst l) done S0.H) w' → AVV M' μ' d.v v' → (∀ id, μ' id ≠ none → μ id ≠ none ∨ (d.base ≤ id ∧ id < d.base + d.na)) → Inv B P G all S0 ops done (l.setIfInBounds i true) (a.put o.dst v') w' := by
    intro M' μ' v' w' lM lμ hH' hv hn
    have pq : ∀ j, j ≠ i → lst (l.setIfInBounds i true) j = lst l j := fun j hj => by rw [lst_set hil, if_neg hj]
    have pi : lst (l.setIfInBounds i true) i = true := by rw [lst_set hil, if_pos rfl]
    refine ⟨fun j hj k hk => ?_, by simpa using h.size, M', μ', hH'.sub ?_, hG.mono lM, ?_, fun id hid => ?_, (put_defs _ _ _).trans hD, (put_size _ _ _).trans hS, hB.trans lμ, fun t htt => (put_keep m3 htt).trans (hK t htt)⟩
    · have hk' : lst l k = true := by
        by_cases e : j = i
        · subst e; rw [hai] at hk; exact hin k hk
        · rw [pq j e] at hj; exact h.down j hj k hk
      by_cases e : k = i
      · subst e; exact pi
      · rw [pq k e]; exact hk'
    · intro id k hk
      rw [hget_app]
      cases hx : alGet d.hs id with
      | none =>
        rw [← heapOf_congr (q := lst (l.setIfInBounds i true)) done fun j e hje => ?_]
        · exact hk
        · by_cases hj : j = i
          · subst hj
            rw [ht.desc.uniq hje hd]; exact .inr hx
          · exact .inl (pq j hj)
      | some x =>
        have := heapOf_hit (H0 := S0.H) pi hx ht.desc hd fun j e hje hij hpj => by
          rw [pq j (by omega)] at hpj
          have hnj : memB j it.anc = false := by
            cases hq : memB j it.anc with
            | false => rfl
            | true => have := (hanc j hq).1; omega
          cases hq : alGet e.hs id with
          | none => rfl
          | some y => exact absurd (keysOf_mem (by rw [hq]; simp)) ((un j e hje hpj hnj).2 id (keysOf_mem (by rw [hx]; simp)))
        rw [this] at hk
        exact hk
    · have h1 : EnvOk M' μ' ⟨envPut o.dst d.v (envOf (lst l) done S0.env), [], 0⟩ (a.put o.dst v') := EnvOk.put (H := []) (n := 0) (fun t => (hE t).mono lM lμ) hv (by rw [hS]; exact m2)
      refine h1.congr fun t => get_of_alGet ?_
      rw [alGet_envPut]
      by_cases e : o.dst = some t
      · rw [if_pos e]
        exact envOf_hit pi (by rw [hdst, hod]; exact e) ht.desc hd (dnot (by rw [hdst, hod]; exact e))
      · rw [if_neg e]
        refine envOf_congr done fun j e' hje => ?_
        by_cases hj : j = i
        · subst hj
          rw [ht.desc.uniq hje hd, hdst, hod]; exact .inr e
        · exact .inl (pq j hj)
    · rcases hn id hid with h1 | h1
      · rcases hF id h1 with h2 | ⟨j, e, h2, h3, h4⟩
        · exact .inl h2
        · refine .inr ⟨j, e, h2, ?_, h4⟩
          by_cases hj : j = i
          · subst hj; exact pi
          · rw [pq j hj]; exact h3
      · exact .inr ⟨i, d, hd, pi, h1⟩
  -- the guard
  have gval0 : ∀ {j g want e}, it.guard = some (j, g, want) → (j, e) ∈ done → o.guard = some (j, want) ∧ dstOf ops j = some g ∧ (St.mk (envOf (lst l) done S0.env) [] 0).get g = e.v := by
    intro j g want e hg hje
    rw [hg] at m4
    obtain ⟨h1, h2⟩ := mguard_some m4
    refine ⟨h1, h2, ?_⟩
    have hpj : lst l j = true := hin j (hgu j g want hg)
    obtain ⟨it2, h3, h4, _⟩ := ht.fact j e hje
    have hed : e.dst = some g := by
      unfold dstOf at h2
      cases hoj : ops[j]? with
      | none => rw [hoj] at h2; cases h2
      | some oj =>
        rw [hoj] at h2
        obtain ⟨it3, h5, h6, _⟩ := hs.item hoj
        rw [h3] at h5
        cases h5
        simp only [mitem, Bool.and_eq_true] at h6
        rw [h4, eqO_eq h6.1.1.1.1]; exact h2
    have : alGet (envOf (lst l) done S0.env) g = some e.v := envOf_hit hpj hed ht.desc hje fun j' e' hje' hne het => by
      obtain ⟨it3, h5, h6, _⟩ := ht.fact j' e' hje'
      exact hne (dsts_inj hs.d h5 h3 (by rw [← h6]; exact het) (by rw [← h4]; exact hed))
    simp only [St.get, this]
  have gval : ∀ {j g want e b}, it.guard = some (j, g, want) → (j, e) ∈ done → e.v = .tv .bool b → o.guard = some (j, want) ∧ yielded ops a.tmps j = some b := by
    intro j g want e b hg hje hv
    obtain ⟨h1, h2, h3⟩ := gval0 hg hje
    exact ⟨h1, yielded_of hE h2 (by rw [h3, hv])⟩
  unfold wpOp
  simp only [hoi]
  rcases hfact with ⟨j, g, want, e, h1, h2, h3, h4, h5, h6⟩ | ⟨hact, hguard⟩
  · have : ¬ Region.wanted o (yielded ops a.tmps) = true := by
      rcases h3 with h3 | h3
      · obtain ⟨h7, h8⟩ := gval h1 h2 h3
        simp only [Region.wanted, h7, h8]
        cases want <;> simp
      · obtain ⟨h7, h8⟩ := gval0 h1 h2
        simp only [Region.wanted, h7, yielded_undef hE h8.1 (by rw [h8.2, h3])]
        simp
    rw [if_neg this]
    refine next (Mem.le.refl _) (Map.le.refl _) ?_ (by rw [h4]; exact AVV_undef) (fun _ h => .inl h)
    rw [h5]; exact hH
  · have hw : Region.wanted o (yielded ops a.tmps) = true := by
      rcases hguard with hg | ⟨j, g, want, e, h1, h2, h3⟩
      · rw [hg] at m4
        simp only [Region.wanted, mguard_none m4]
      · obtain ⟨h7, h8⟩ := gval h1 h2 h3
        simp only [Region.wanted, h7, h8, beq_self_eq_true]
    rw [if_pos hw]
    refine .inl ?_
    have hsub : ∀ id k, hget (restr d.rf (heapI S0 done it.anc)) id = some k → hget (heapOf (lst l) done S0.H) id = some k := by
      intro id k hk
      obtain ⟨h1, h2⟩ := hget_restr _ _ _ _ hk
      unfold heapI at h2
      rw [← h2]
      symm
      refine heapOf_congr done fun j e hje => ?_
      cases hq : memB j it.anc with
      | true => rw [hin j hq]; exact .inl rfl
      | false =>
        cases hp : lst l j with
        | false => exact .inl rfl
        | true =>
          refine .inr ?_
          cases hx : alGet e.hs id with
          | none => rfl
          | some x => exact absurd h1 ((un j e hje hp hq).1 id (keysOf_mem (by rw [hx]; simp)))
    have hEi : EnvOk M μ ⟨envI all S0 done i it.anc, restr d.rf (heapI S0 done it.anc), 0⟩ a := by
      intro t
      have key : (St.mk (envI all S0 done i it.anc) (restr d.rf (heapI S0 done it.anc)) 0).get t = .dead ∨ (St.mk (envI all S0 done i it.anc) (restr d.rf (heapI S0 done it.anc)) 0).get t = (St.mk (envOf (lst l) done S0.env) [] 0).get t := by
        simp only [St.get, envI, alGet_append]
        rcases deadsOf_get (i := i) (anc := it.anc) (t := t) (l := all) (n := 0) with h1 | ⟨h1, h2⟩
        · left; rw [h1]
        · right
          rw [h1]
          simp only
          rw [envOf_congr (q := fun j => memB j it.anc) (p := lst l) done fun j e hje => ?_]
          cases hq : memB j it.anc with
          | true => rw [hin j hq]; exact .inl rfl
          | false =>
            cases hp : lst l j with
            | false => exact .inl rfl
            | true =>
              refine .inr ?_
              obtain ⟨it2, h3, h4, _⟩ := ht.fact j e hje
              rw [h4]
              refine h2 j it2 h3 (fun e => ?_) (by simpa using hq) ?_
              · have e : j = i := by omega
                subst e; rw [hpi] at hp; cases hp
              · cases hq2 : memB i it2.anc with
                | false => rfl
                | true =>
                  have := h.down j hp i (by simp only [ancAt, h3]; exact hq2)
                  rw [hpi] at this; cases this
      rcases key with h1 | h1
      · rw [h1]; trivial
      · rw [h1]; exact hE t
    refine act_ok (c := ⟨w, ownOf μ (restr d.rf (heapI S0 done it.anc)), M⟩) (S := ⟨envI all S0 done i it.anc, restr d.rf (heapI S0 done it.anc), 0⟩) ⟨hH.part hsub, hG, hEi⟩ ho m5 hact ?_ ?_
    · intro id h1 h2
      cases hq : μ id with
      | none => rfl
      | some x =>
        simp only at h2
        obtain ⟨r1, r2⟩ := ht.rng i d hd
        rcases hF id (by rw [hq]; simp) with h3 | ⟨j, e, h3, h4, h5, h6⟩
        · omega
        · have hne : j ≠ i := fun e => by subst e; rw [hpi] at h4; cases h4
          rcases Nat.lt_or_gt_of_ne hne with h7 | h7
          · have := ht.sep i d j e hd h3 h7; omega
          · have := ht.sep j e i d h3 hd h7; omega
    · intro v' w' M' μ' l1 l2 hH' hv hn
      exact next l1 l2 (hH.unpart hsub hH' l2) hv hn

theorem filter_lt {α : Type} {p q : α → Bool} {x : α} : ∀ {l : List α}, (∀ y, q y = true → p y = true) → x ∈ l → p x = true → q x = false → (l.filter q).length < (l.filter p).length
  | [], _, hx, _, _ => by cases hx
  | y :: r, hle, hx, hp, hq => by
    have hmono : (r.filter q).length ≤ (r.filter p).length := by
      clear hx
      induction r with
      | nil => exact Nat.le_refl _
      | cons z r ih =>
        simp only [List.filter_cons]
        cases hqz : q z with
        | true => rw [hle z hqz]; simp; exact ih
        | false => cases p z <;> simp <;> omega
    rcases List.mem_cons.1 hx with e | e
    · subst e
      simp only [List.filter_cons, hp, hq]
      simp; omega
    · have := filter_lt hle e hp hq
      simp only [List.filter_cons]
      cases hqy : q y with
      | true => rw [hle y hqy]; simp; exact this
      | false => cases p y <;> simp <;> omega

theorem ready_nil (hs : Stat B P ops all) {l : Array Bool} (hsz : l.size = ops.size) (h : Region.ready .any ops l = []) : ∀ i, i < ops.size → lst l i = true := by
  intro i
  induction i using Nat.strongRecOn with
  | _ i ih =>
    intro hi
    cases hq : lst l i with
    | true => rfl
    | false =>
      obtain ⟨it, _, _, _, hed, _⟩ := hs.item (Array.getElem?_eq_getElem hi)
      have : i ∈ Region.ready .any ops l := by
        rw [mem_ready]
        refine ⟨?_, ops[i], Array.getElem?_eq_getElem hi, fun e he hb => ?_⟩
        · unfold lst at hq
          rw [Array.getD_eq_getD_getElem?, Array.getElem?_eq_getElem (by omega)] at hq ⊢
          simpa using hq
        · have := hed e he hb
          exact ih e.on this (by omega)
      rw [h] at this; cases this

theorem Inv.fin (hs : Stat B P ops all) (ht : TOK G orc all S0 all.length nid' done) {l : Array Bool} {a : Act} {w : World} (h : Inv B P G all S0 ops done l a w) (hl : ∀ i, i < ops.size → lst l i = true) :
    ∃ M μ, SOk B P G M μ ⟨envOf (fun _ => true) done S0.env, heapOf (fun _ => true) done S0.H, nid'⟩ a w := by
  obtain ⟨M, μ, hH, hG, hE, hF, hD, hS, hB, hK⟩ := h.real
  have hp : ∀ j e, (j, e) ∈ done → lst l j = true := fun j e hje => hl j (by rw [← hs.len]; exact ht.desc.lt hje)
  refine ⟨M, μ, hH.sub fun id k hk => ?_, hG, hE.congr fun t => get_of_alGet ?_, fun id hid => ?_, hD, hS, hB, hK⟩
  · rw [← heapOf_congr (q := fun _ => true) done fun j e hje => .inl (hp j e hje).symm]
    exact hk
  · exact envOf_congr done fun j e hje => .inl (hp j e hje).symm
  · cases hq : μ id with
    | none => rfl
    | some x =>
      simp only at hid
      rcases hF id (by rw [hq]; simp) with h1 | ⟨j, e, h2, h3, h4, h5⟩
      · have := ht.lo; omega
      · have := (ht.rng j e h2).2; omega

theorem Inv.any (hs : Stat B P ops all) (ho : OrcOK P G orc) (ht : TOK G orc all S0 all.length nid' done) {Q : Exit → Act → World → Prop} (hQ : ∀ M μ a w, SOk B P G M μ ⟨envOf (fun _ => true) done S0.env, heapOf (fun _ => true) done S0.H, nid'⟩ a w → Q .normal a w) :
    ∀ (fuel : Nat) (l : Array Bool) (a : Act) (w : World), Inv B P G all S0 ops done l a w → ((List.range ops.size).filter fun i => !lst l i).length ≤ fuel → wpAny P .any ops Q fuel l a w := by
  intro fuel
  have fin : ∀ {l a w}, Inv B P G all S0 ops done l a w → (∀ i, i < ops.size → lst l i = true) → Q .normal a w := by
    intro l a w h hl
    obtain ⟨M, μ, h1⟩ := h.fin hs ht hl
    exact hQ M μ a w h1
  induction fuel with
  | zero =>
    intro l a w h hc
    have hl : ∀ i, i < ops.size → lst l i = true := by
      intro i hi
      cases hq : lst l i with
      | true => rfl
      | false =>
        have : i ∈ (List.range ops.size).filter fun i => !lst l i := by simp [hi, hq]
        have := List.length_pos_of_mem this
        omega
    refine ⟨?_, fin h hl⟩
    cases hr : Region.ready .any ops l with
    | nil => rfl
    | cons x r =>
      have hx : x ∈ Region.ready .any ops l := by rw [hr]; exact List.mem_cons_self ..
      obtain ⟨h1, o, h2, _⟩ := mem_ready.1 hx
      have hxs : x < ops.size := (Array.getElem?_eq_some_iff.1 h2).1
      have := hl x hxs
      unfold lst at this
      rw [Array.getD_eq_getD_getElem?, Array.getElem?_eq_getElem (by rw [h.size]; exact hxs)] at this h1
      simp at this h1
      rw [this] at h1; cases h1
  | succ fuel ih =>
    intro l a w h hc
    refine ⟨fun hr => fin h (ready_nil hs h.size hr), fun i hi => ?_⟩
    refine wpOp_mono (fun a' w' h' => ih _ a' w' h' ?_) (h.step hs ho ht hi)
    obtain ⟨h1, o, h2, _⟩ := mem_ready.1 hi
    have hio : i < ops.size := (Array.getElem?_eq_some_iff.1 h2).1
    have hil : i < l.size := by rw [h.size]; exact hio
    have hlt := filter_lt (p := fun i => !lst l i) (q := fun j => !lst (l.setIfInBounds i true) j) (x := i) (l := List.range ops.size) (fun y hy => by
      rw [lst_set hil] at hy
      split at hy
      · cases hy
      · exact hy) (by simpa using hio) (by
        unfold lst
        rw [Array.getD_eq_getD_getElem?, Array.getElem?_eq_getElem hil] at h1 ⊢
        simpa using h1) (by rw [lst_set hil, if_pos rfl]; rfl)
    omega

theorem wp_draw {R : Type} {r : R} {K : St → Option R} {id : Nat} {Q : Exit → Act → World → Prop} {M : Mem} {μ : Map} {a : Act} {w : World} (hmo : P.follows .mixedOrders = true) (hs : Stat B P ops all) (ho : OrcOK P G orc) (h : SOk B P G M μ S0 a w)
    (hr : evDraw G orc all S0 all 0 S0.nid [] K = some r) (hQ : ∀ M' μ' S' a' w', K S' = some r → SOk B P G M' μ' S' a' w' → Q .normal a' w') : (Code.region id ops true).wp P Q a w := by
  obtain ⟨nid', done, ht, hK⟩ := evDraw_trace ho.nat hs.anc all 0 S0.nid [] (fun k => by rw [Nat.zero_add]) { desc := rfl, fact := (fun _ _ h => nomatch h), pair := (fun _ _ _ _ h => nomatch h), lo := Nat.le_refl _, rng := (fun _ _ h => nomatch h), sep := (fun _ _ _ _ h => nomatch h) } hr
  refine wp_region_any hmo ?_
  have hw : SOk B P G M μ S0 a { w with drawn := w.drawn + 1 } := { h with hold := h.hold.grow ((Grows.refl w).drew) }
  refine Inv.any hs ho ht (fun M' μ' a' w' h' => hQ M' μ' _ a' w' hK h') _ _ _ _ (Inv.start (done := done) hw) ?_
  refine Nat.le_trans (List.length_filter_le _ _) ?_
  simp
end
end Go.Av
