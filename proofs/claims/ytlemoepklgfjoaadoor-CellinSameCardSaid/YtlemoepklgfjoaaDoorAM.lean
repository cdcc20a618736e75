/-
  Each operation of the abstract machine is the machine's: maps to whole numbers.
-/
import Derived.Test.YtlemoepklgfjoaaDoorA16
namespace Go.Av
section
variable {P : Program}

theorem mapOk_ty {t : TypeId} {κ : Ty} (h : mapOk P t κ = true) : ∃ k e i, P.underlying t = some (.map k e) ∧ P.info? e = some i ∧ i.zero = some (.int .i64 0) ∧
    ((∃ q, κ = .int q ∧ P.underlying k = some (.int q)) ∨ (κ = .str ∧ P.underlying k = some .string)) := by
  unfold mapOk mapOf at h
  split at h
  case h_2 => cases h
  rename_i k e h1
  split at h1
  case h_2 => cases h1
  rename_i k' e' h2
  cases h1
  simp only [Bool.and_eq_true] at h
  obtain ⟨h3, h4⟩ := h
  split at h4
  case h_2 => cases h4
  rename_i i hi
  split at h4
  case h_2 => cases h4
  rename_i hz
  refine ⟨k, e, i, h2, hi, hz, ?_⟩
  split at h3
  · rename_i q
    left
    unfold isInt at h3
    split at h3
    · rename_i q' hq
      have := of_decide_eq_true h3
      subst this
      exact ⟨q, rfl, hq⟩
    · cases h3
  · right
    exact ⟨rfl, isStr_ty h3⟩
  · cases h3

/-- The description of a key's type. -/
def kdesc : Ty → TypeDesc
  | .int q => .int q
  | _ => .string

theorem kdesc_ok {k : TypeId} {κ : Ty} (h : (∃ q, κ = .int q ∧ P.underlying k = some (.int q)) ∨ (κ = .str ∧ P.underlying k = some .string)) : P.underlying k = some (kdesc κ) ∧ keyOk κ = true := by
  rcases h with ⟨q, rfl, h⟩ | ⟨rfl, h⟩
  · exact ⟨h, rfl⟩
  · exact ⟨h, rfl⟩

theorem beq_arr (a b : List UInt8) : ((⟨a.toArray⟩ : ByteArray) == ⟨b.toArray⟩) = (a == b) := by
  rw [Bool.eq_iff_iff, Go.MapKept.bytes_beq, beq_iff_eq]
  constructor
  · intro h
    have h1 := congrArg (fun x : ByteArray => x.data.toList) h
    simpa using h1
  · rintro rfl; rfl

theorem sameNow_key {κ : Ty} (hk : keyOk κ = true) (x y : κ.T) : Instr.sameNow (kdesc κ) (keyV κ x) (keyV κ y) = some (κ.eqB x y) := by
  cases κ <;> simp only [keyOk, Bool.false_eq_true] at hk
  · simp [kdesc, keyV, Instr.sameNow, Ty.eqB]
  · simp only [kdesc, keyV, Instr.sameNow, Ty.eqB]
    exact congrArg some (beq_arr _ _)

theorem findNow_ents {κ : Ty} (hk : keyOk κ = true) (x : κ.T) : ∀ (l : List (κ.T × Int)) (i j : Nat), Instr.findNow (kdesc κ) (keyV κ x) (mEnts κ i l) j = some ((mget κ x l).map fun v => (j + mpos κ x l, .int .i64 v))
  | [], i, j => rfl
  | (y, v) :: r, i, j => by
    simp only [mEnts, Instr.findNow, sameNow_key hk, mget, mpos]
    cases κ.eqB x y with
    | true => simp
    | false =>
      simp only [cond_false]
      rw [findNow_ents hk x r (i + 1) (j + 1)]
      cases mget κ x r with
      | none => rfl
      | some u => simp; omega

theorem mEnts_length (κ : Ty) : ∀ (l : List (κ.T × Int)) (i : Nat), (mEnts κ i l).length = l.length
  | [], _ => rfl
  | (_, _) :: r, i => by simp [mEnts, mEnts_length κ r]

theorem eqB_eq {κ : Ty} (hk : keyOk κ = true) {x y : κ.T} (h : κ.eqB x y = true) : x = y := by
  cases κ <;> simp only [keyOk, Bool.false_eq_true] at hk
  · simpa [Ty.eqB] using h
  · simpa [Ty.eqB] using h

theorem mget_none {κ : Ty} {x : κ.T} : ∀ {l : List (κ.T × Int)}, mget κ x l = none → mpos κ x l = l.length ∧ (∀ v, mset κ x v l = l ++ [(x, v)]) ∧ mtouch κ x l = l ++ [(x, 0)]
  | [], _ => ⟨rfl, fun _ => rfl, rfl⟩
  | (y, u) :: r, h => by
    simp only [mget] at h
    cases he : κ.eqB x y with
    | true => rw [he] at h; cases h
    | false =>
      rw [he] at h
      obtain ⟨h1, h2, h3⟩ := mget_none (l := r) h
      simp only [mpos, mset, mtouch, he, cond_false, h1, h2, h3, List.length_cons, List.cons_append]
      exact ⟨trivial, fun _ => trivial, trivial⟩

theorem mEnts_append (κ : Ty) : ∀ (a b : List (κ.T × Int)) (i : Nat), mEnts κ i (a ++ b) = mEnts κ i a ++ mEnts κ (i + a.length) b
  | [], _, _ => rfl
  | (x, v) :: r, b, i => by
    simp only [List.cons_append, mEnts, mEnts_append κ r b, List.length_cons]
    have : i + 1 + r.length = i + (r.length + 1) := by omega
    rw [this]

/-- The entries when one was found: its place, its stamp, and what writing it does. -/
theorem mget_some {κ : Ty} (hk : keyOk κ = true) {x : κ.T} : ∀ {l : List (κ.T × Int)} {u : Int} (i : Nat), mget κ x l = some u → ∃ e, (mEnts κ i l)[mpos κ x l]? = some e ∧ e.key = keyV κ x ∧ e.val = .int .i64 u ∧ e.born = i + mpos κ x l ∧ mpos κ x l < l.length ∧
      (∀ v, (mEnts κ i l).modify (mpos κ x l) (fun e => { e with key := keyV κ x, val := .int .i64 v }) = mEnts κ i (mset κ x v l)) ∧
      (mEnts κ i l).modify (mpos κ x l) (fun e => { e with key := keyV κ x }) = mEnts κ i (mtouch κ x l) ∧
      (∀ v, (mset κ x v l).length = l.length) ∧ (mtouch κ x l).length = l.length
  | [], _, _, h => by cases h
  | (y, v0) :: r, u, i, h => by
    simp only [mget] at h
    cases he : κ.eqB x y with
    | true =>
      rw [he] at h
      cases h
      have := eqB_eq hk he
      subst this
      exact ⟨{ key := keyV κ x, val := .int .i64 v0, born := i }, by simp only [mpos, he, cond_true, mEnts, List.getElem?_cons_zero], rfl, rfl, by simp [mpos, he], by simp [mpos, he], by simp [mpos, he, mEnts, mset], by simp [mpos, he, mEnts, mtouch], by simp [mset, he], by simp [mtouch, he]⟩
    | false =>
      rw [he] at h
      obtain ⟨e, h1, h2, h3, h4, h5, h6, h7, h8, h9⟩ := mget_some hk (l := r) (i + 1) h
      refine ⟨e, ?_, h2, h3, ?_, ?_, ?_, ?_, ?_, ?_⟩
      · simpa only [mpos, he, cond_false, mEnts, List.getElem?_cons_succ] using h1
      · simp only [mpos, he, cond_false, h4]; omega
      · simp only [mpos, he, cond_false, List.length_cons]; omega
      · intro v
        simp only [mpos, he, cond_false, mEnts, mset, List.modify_succ_cons, h6]
      · simp only [mpos, he, cond_false, mEnts, mtouch, List.modify_succ_cons, h7]
      · intro v; simp only [mset, he, cond_false, List.length_cons, h8]
      · simp only [mtouch, he, cond_false, List.length_cons, h9]

theorem mstore_length {α : Type} (v : Int) : ∀ (n : Nat) (l : List (α × Int)), (mstore v n l).length = l.length
  | _, [] => by simp [mstore]
  | 0, (y, _) :: r => by simp [mstore]
  | n + 1, p :: r => by simp [mstore, mstore_length v n r]

theorem mEnts_store (κ : Ty) (v : Int) : ∀ (l : List (κ.T × Int)) (i n : Nat), (mEnts κ i l).modify n (fun e => { e with val := .int .i64 v }) = mEnts κ i (mstore v n l)
  | [], i, n => by simp [mEnts, mstore]
  | (x, u) :: r, i, 0 => by simp [mEnts, mstore]
  | (x, u) :: r, i, n + 1 => by simp only [mEnts, mstore, List.modify_succ_cons, mEnts_store κ v r]

theorem mEnts_born (κ : Ty) : ∀ (l : List (κ.T × Int)) (i n : Nat), n < l.length → (mEnts κ i l).findIdx? (fun e => (e.born : Int) == ((i + n : Nat) : Int)) = some n
  | [], _, _, h => by cases h
  | (x, u) :: r, i, 0, _ => by
    simp only [mEnts, List.findIdx?_cons, Nat.add_zero, beq_self_eq_true, if_true]
  | (x, u) :: r, i, n + 1, h => by
    simp only [mEnts, List.findIdx?_cons]
    have h1 : ((i : Int) == ((i + (n + 1) : Nat) : Int)) = false := by
      rw [beq_eq_false_iff_ne]; omega
    rw [h1]
    have h2 := mEnts_born κ r (i + 1) n (by simpa using h)
    have h3 : i + 1 + n = i + (n + 1) := by omega
    rw [h3] at h2
    simp only [Bool.false_eq_true, if_false, h2, Option.map_some]

theorem checkKey_ok {k : TypeId} {κ : Ty} (hd : P.underlying k = some (kdesc κ)) (hk : keyOk κ = true) (b : Bool) (x : κ.T) (w : World) : (Instr.checkKey b 10000 k (keyV κ x)).run P w = .ok () w := by
  show (Instr.checkKey b (9999 + 1) k (keyV κ x)).run P w = _
  rw [Instr.checkKey]
  cases κ <;> simp only [keyOk, Bool.false_eq_true] at hk <;> simp only [Sem.run_bind, run_underlying hd, Result.andThen_ok, kdesc, keyV, Sem.run_pure]

theorem findKey_ok {k : TypeId} {κ : Ty} (hd : P.underlying k = some (kdesc κ)) (hk : keyOk κ = true) (x : κ.T) (l : List (κ.T × Int)) (w : World) : (Instr.findKey k (keyV κ x) (mEnts κ 0 l)).run P w = .ok ((mget κ x l).map fun v => (mpos κ x l, .int .i64 v)) w := by
  simp only [Instr.findKey, Sem.run_bind, run_underlying hd, Result.andThen_ok, findNow_ents hk x l 0 0, Nat.zero_add, Sem.run_pure]

theorem keyV_AVV {M : Mem} {μ : Map} {κ : Ty} (hk : keyOk κ = true) {x : κ.T} {v : Value} (h : AVV M μ (.tv κ x) v) : v = keyV κ x := by
  cases κ <;> simp only [keyOk, Bool.false_eq_true] at hk
  · exact AVV_int.1 h
  · exact AVV_str.1 h

theorem keyStays_ok {κ : Ty} (hk : keyOk κ = true) (x : κ.T) (w : World) : (Instr.keyThatStays (keyV κ x) (keyV κ x)).run P w = .ok (keyV κ x) w := by
  have : Instr.sameBits 10000 (keyV κ x) (keyV κ x) = true := by
    cases κ <;> simp only [keyOk, Bool.false_eq_true] at hk
    · simp [keyV, Instr.sameBits]
    · simp only [keyV, Instr.sameBits, beq_arr, beq_self_eq_true]
  simp [Instr.keyThatStays, this]

theorem AVV_mp {M : Mem} {μ : Map} {id : Nat} {v : Value} (h : AVV M μ (.mp id) v) : ∃ b, μ id = some (.obj b) ∧ v = .map (some b) := by
  obtain ⟨cs, hc, hv⟩ := h
  simp only [AVC] at hc
  obtain ⟨b, hl, rfl⟩ := hc
  exact ⟨b, hl, by simpa [VofC, AV.isAgg] using hv.symm⟩

theorem sound_mkmap (κ : Ty) : Sound P (.mkmap κ) := by
  intro c M μ G S a w nid o v u hp hm hr hfr
  generalize hq : o.op = q at hm
  cases q <;> try simp only [mop, Bool.false_eq_true] at hm
  rename_i t rs
  cases rs <;> simp only [Bool.false_eq_true] at hm
  simp only [aopO, aop, Option.some.injEq, Prod.mk.injEq] at hr
  obtain ⟨rfl, rfl⟩ := hr
  have hn : μ nid = none := hfr nid (Nat.le_refl _) (by simp)
  have hb : BR M (μ.ins nid (.obj w.heap.size)) (w.alloc (.map #[] 0)) (.obj w.heap.size) (.mp κ []) := heap_alloc_new' w _
  refine ⟨M, μ.ins nid (.obj w.heap.size), .map (some w.heap.size), w.alloc (.map #[] 0), .inl ?_, Mem.le.refl _, Map.le_ins hn, hp.hold.alloc hn rfl hb, ?_, ?_⟩
  · simp [execOp, hq, Instr.makeMap]
  · refine AVV_of (a := .mp nid) (c := [.map (some w.heap.size)]) ?_ rfl
    simp only [AVC]
    exact ⟨w.heap.size, Map.ins_same _ _ _, rfl⟩
  · intro j hj
    by_cases e : j = nid
    · subst e; right; simp
    · rw [Map.ins_other _ _ _ e] at hj; exact .inl hj

theorem sound_mlook (κ : Ty) (ok : Bool) (m k : Opd) : Sound P (.mlook κ ok m k) := by
  intro c M μ G S a w nid o v u hp hm hr hfr
  generalize hq : o.op = q at hm
  cases q <;> simp only [mop, Bool.false_eq_true, Bool.and_eq_true] at hm
  rename_i t m' k' ok'
  obtain ⟨⟨⟨hok, ht⟩, h2⟩, h3⟩ := hm
  rw [beq_iff_eq] at hok
  subst hok
  have hx := mo_ok hp.glob hp.env h2
  have hy := mo_ok hp.glob hp.env h3
  obtain ⟨kt, et, i, hmt, hi, hz, hkd⟩ := mapOk_ty ht
  obtain ⟨hd, hko⟩ := kdesc_ok hkd
  simp only [aopO, aop] at hr
  split at hr
  case h_2 => cases hr
  rename_i id he
  split at hr
  case h_2 => cases hr
  rename_i κ' l hH
  split at hr
  case h_2 => cases hr
  rename_i σ x hk
  split at hr
  case isFalse => cases hr
  rename_i e1
  subst e1
  cases hdk : decide (σ = κ) with
  | false => rw [hdk] at hr; cases hr
  | true =>
    have := of_decide_eq_true hdk
    subst this
    rw [hdk, hko] at hr
    simp only [Bool.and_true, cond_true, Option.some.injEq, Prod.mk.injEq] at hr
    obtain ⟨rfl, rfl⟩ := hr
    rw [he] at hx
    rw [hk] at hy
    obtain ⟨b, hl, hv⟩ := AVV_mp hx
    obtain ⟨l2, hl', hbr⟩ := hp.hold.blks id _ hH
    rw [hl] at hl'
    cases hl'
    have hbr : w.heap[b]? = some (.map (mEnts σ 0 l).toArray l.length) := hbr
    have hget : (getObj b).run P w = .ok (.map (mEnts σ 0 l).toArray l.length) w := by simp only [getObj, Sem.run, hbr]
    have hkv := keyV_AVV hko hy
    have hrun : (Instr.lookup t (.map (some b)) (keyV σ x) ok).run P w = .ok (if ok then .tuple #[.int .i64 (mval σ x l), .bool (mhas σ x l)] else .int .i64 (mval σ x l)) w := by
      simp only [Instr.lookup, Sem.run_bind, run_underlying hmt, Result.andThen_ok, hget, Sem.run_pure, checkKey_ok hd hko, findKey_ok hd hko]
      cases hg : mget σ x l with
      | none => simp [mval, mhas, hg, run_zeroValue hi hz]
      | some u => simp [mval, mhas, hg]
    cases ok with
    | false =>
      refine OpOk.same hp.hold (v' := .int .i64 (mval σ x l)) ?_ (AVV_int.2 rfl)
      simp only [execOp, hq, hv, hkv, Sem.run_bind, hrun, Result.andThen_ok, Sem.run_pure]; rfl
    | true =>
      refine OpOk.same hp.hold (v' := .tuple #[.int .i64 (mval σ x l), .bool (mhas σ x l)]) ?_ ⟨[.int .i64 (mval σ x l), .bool (mhas σ x l)], rfl, ?_⟩
      · simp only [execOp, hq, hv, hkv, Sem.run_bind, hrun, Result.andThen_ok, Sem.run_pure]; rfl
      · simp only [AVL]
        exact ⟨_, _, [_], rfl, by simp only [AVC, TC], rfl, _, _, [_], rfl, by simp only [AVC, TC], rfl, rfl⟩

/-- The map in a block is another one. -/
theorem Hold.setMap {c : Ctx} {M : Mem} {μ : Map} {H : Hp} {w : World} (h : Hold c M μ H w) {id b : Nat} {κ : Ty} {l l' : List (κ.T × Int)} (hH : hget H id = some (.mp κ l)) (hl : μ id = some (.obj b)) (hbr : w.heap[b]? = some (.map (mEnts κ 0 l).toArray l.length)) :
    Hold c M μ ((id, some (.mp κ l')) :: H) { w with heap := w.heap.setIfInBounds b (.map (mEnts κ 0 l').toArray l'.length) } := by
  have hb : b < w.heap.size := (Array.getElem?_eq_some_iff.1 hbr).1
  have hw : Writes w { w with heap := w.heap.setIfInBounds b (.map (mEnts κ 0 l').toArray l'.length) } b := ⟨rfl, rfl, rfl, by simp, fun k hk => by
    simp only [Array.getElem?_setIfInBounds]
    rw [if_neg (fun h => hk h.symm)], fun a => by
    simp only [World.frozen?, Array.getElem?_setIfInBounds]
    by_cases e : b = a.block
    · rw [if_pos e, ← e, hbr, if_pos hb]
    · rw [if_neg e]⟩
  have hbr' : BR M μ { w with heap := w.heap.setIfInBounds b (.map (mEnts κ 0 l').toArray l'.length) } (.obj b) (.mp κ l') := by
    show (w.heap.setIfInBounds b _)[b]? = _
    rw [Array.getElem?_setIfInBounds, if_pos rfl, if_pos hb]
  refine h.write hH hl rfl hw hbr' ?_
  intro o1 v1 hv1
  obtain ⟨_, _, h, _⟩ := h.exc id _ _ b o1 v1 hH hl rfl hv1
  cases h

theorem run_setObj {w : World} {b : Nat} {es : Array MapEntry} {cl : Nat} (h : w.heap[b]? = some (.map es cl)) (ob : Obj) : (setObj b ob).run P w = .ok () { w with heap := w.heap.setIfInBounds b ob } := by
  simp only [setObj, Sem.run, h]

theorem sound_mput (κ : Ty) (m k n : Opd) : Sound P (.mput κ m k n) := by
  intro c M μ G S a w nid o v u hp hm hr hfr
  generalize hq : o.op = q at hm
  cases q <;> simp only [mop, Bool.false_eq_true, Bool.and_eq_true] at hm
  rename_i t m' k' n'
  obtain ⟨⟨⟨ht, h2⟩, h3⟩, h4⟩ := hm
  have hx := mo_ok hp.glob hp.env h2
  have hy := mo_ok hp.glob hp.env h3
  have hn := mo_ok hp.glob hp.env h4
  obtain ⟨kt, et, i, hmt, hi, hz, hkd⟩ := mapOk_ty ht
  obtain ⟨hd, hko⟩ := kdesc_ok hkd
  simp only [aopO, aop] at hr
  split at hr
  case h_2 => cases hr
  rename_i id he
  split at hr
  case h_2 => cases hr
  rename_i κ' l hH
  split at hr
  case h_2 => cases hr
  rename_i σ x nn hk hnn
  split at hr
  case isFalse => cases hr
  rename_i e1
  subst e1
  cases hdk : decide (σ = κ) with
  | false => rw [hdk] at hr; cases hr
  | true =>
    have := of_decide_eq_true hdk
    subst this
    rw [hdk, hko] at hr
    simp only [Bool.and_true, cond_true, Option.some.injEq, Prod.mk.injEq] at hr
    obtain ⟨rfl, rfl⟩ := hr
    rw [he] at hx
    rw [hk] at hy
    rw [hnn, AVV_int] at hn
    obtain ⟨b, hl, hv⟩ := AVV_mp hx
    obtain ⟨l2, hl', hbr⟩ := hp.hold.blks id _ hH
    rw [hl] at hl'
    cases hl'
    have hbr : w.heap[b]? = some (.map (mEnts σ 0 l).toArray l.length) := hbr
    have hget : (getObj b).run P w = .ok (.map (mEnts σ 0 l).toArray l.length) w := by simp only [getObj, Sem.run, hbr]
    have hkv := keyV_AVV hko hy
    have hrun : (Instr.mapUpdate t (.map (some b)) (keyV σ x) (.int .i64 nn)).run P w = .ok () { w with heap := w.heap.setIfInBounds b (.map (mEnts σ 0 (mset σ x nn l)).toArray (mset σ x nn l).length) } := by
      simp only [Instr.mapUpdate, Sem.run_bind, run_underlying hmt, Result.andThen_ok, hget, checkKey_ok hd hko, findKey_ok hd hko]
      cases hg : mget σ x l with
      | none =>
        obtain ⟨h1, h2, h3⟩ := mget_none hg
        simp only [Option.map_none, run_setObj hbr, h2, mEnts_append, List.length_append, List.length_cons, List.length_nil, Nat.zero_add, mEnts]
        simp
      | some u0 =>
        obtain ⟨e, h1, h2, h3, h4, h5, h6, h7, h8, h9⟩ := mget_some hko 0 hg
        simp only [Option.map_some, Sem.run_bind, List.getElem?_toArray, h1, Option.map_some, Option.getD_some, h2, keyStays_ok hko, Result.andThen_ok, run_setObj hbr, h8]
        have : (mEnts σ 0 l).toArray.modify (mpos σ x l) (fun e => { e with key := keyV σ x, val := .int .i64 nn }) = (mEnts σ 0 (mset σ x nn l)).toArray := by
          rw [← h6 nn]; simp
        rw [this]
    refine ⟨M, μ, undef, _, ?_, Mem.le.refl _, Map.le.refl _, hp.hold.setMap hH hl hbr, trivial, fun _ h => .inl h⟩
    simp only [execOp, hq, hv, hkv, hn, Sem.run_bind, hrun, Result.andThen_ok, Sem.run_pure]
    simp

theorem sound_ment (κ : Ty) (m k : Opd) : Sound P (.ment κ m k) := by
  intro c M μ G S a w nid o v u hp hm hr hfr
  generalize hq : o.op = q at hm
  cases q <;> simp only [mop, Bool.false_eq_true, Bool.and_eq_true] at hm
  rename_i t m' k'
  obtain ⟨⟨ht, h2⟩, h3⟩ := hm
  have hx := mo_ok hp.glob hp.env h2
  have hy := mo_ok hp.glob hp.env h3
  obtain ⟨kt, et, i, hmt, hi, hz, hkd⟩ := mapOk_ty ht
  obtain ⟨hd, hko⟩ := kdesc_ok hkd
  simp only [aopO, aop] at hr
  split at hr
  case h_2 => cases hr
  rename_i id he
  split at hr
  case h_2 => cases hr
  rename_i κ' l hH
  split at hr
  case h_2 => cases hr
  rename_i σ x hk
  split at hr
  case isFalse => cases hr
  rename_i e1
  subst e1
  cases hdk : decide (σ = κ) with
  | false => rw [hdk] at hr; cases hr
  | true =>
    have := of_decide_eq_true hdk
    subst this
    rw [hdk, hko] at hr
    simp only [Bool.and_true, cond_true, Option.some.injEq, Prod.mk.injEq] at hr
    obtain ⟨rfl, rfl⟩ := hr
    rw [he] at hx
    rw [hk] at hy
    obtain ⟨b, hl, hv⟩ := AVV_mp hx
    obtain ⟨l2, hl', hbr⟩ := hp.hold.blks id _ hH
    rw [hl] at hl'
    cases hl'
    have hbr : w.heap[b]? = some (.map (mEnts σ 0 l).toArray l.length) := hbr
    have hget : (getObj b).run P w = .ok (.map (mEnts σ 0 l).toArray l.length) w := by simp only [getObj, Sem.run, hbr]
    have hkv := keyV_AVV hko hy
    have hrun : (Instr.mapEntry t (.map (some b)) (keyV σ x)).run P w = .ok (.tuple #[.int .i64 (mval σ x l), .int .i64 (mpos σ x l : Int)]) { w with heap := w.heap.setIfInBounds b (.map (mEnts σ 0 (mtouch σ x l)).toArray (mtouch σ x l).length) } := by
      simp only [Instr.mapEntry, Sem.run_bind, run_underlying hmt, Result.andThen_ok, hget, checkKey_ok hd hko, findKey_ok hd hko]
      cases hg : mget σ x l with
      | none =>
        obtain ⟨h1, h2, h3⟩ := mget_none hg
        simp only [Option.map_none, Sem.run_bind, run_zeroValue hi hz, Result.andThen_ok, run_setObj hbr, h3, h1, mEnts_append, List.length_append, List.length_cons, List.length_nil, Nat.zero_add, mEnts, Sem.run_pure]
        simp [mval, hg, goInt]
      | some u0 =>
        obtain ⟨e, h1, h2, h3, h4, h5, h6, h7, h8, h9⟩ := mget_some hko 0 hg
        simp only [Option.map_some, Sem.run_bind, List.getElem?_toArray, h1, Option.map_some, Option.getD_some, h2, h4, keyStays_ok hko, Result.andThen_ok, run_setObj hbr, h9, Sem.run_pure]
        have : (mEnts σ 0 l).toArray.modify (mpos σ x l) (fun e => { e with key := keyV σ x }) = (mEnts σ 0 (mtouch σ x l)).toArray := by
          rw [← h7]; simp
        rw [this]
        simp [mval, hg, goInt]
    refine ⟨M, μ, .tuple #[.int .i64 (mval σ x l), .int .i64 (mpos σ x l : Int)], _, .inl ?_, Mem.le.refl _, Map.le.refl _, hp.hold.setMap hH hl hbr, ⟨[.int .i64 (mval σ x l), .int .i64 (mpos σ x l : Int)], rfl, ?_⟩, fun _ h => .inl h⟩
    · simp only [execOp, hq, hv, hkv, Sem.run_bind, hrun, Result.andThen_ok, Sem.run_pure]
    · simp only [AVL]
      exact ⟨_, _, [_], rfl, by simp only [AVC, TC], rfl, _, _, [_], rfl, by simp only [AVC, TC], rfl, rfl⟩

theorem sound_mest (m s n : Opd) : Sound P (.mest m s n) := by
  intro c M μ G S a w nid o v u hp hm hr hfr
  generalize hq : o.op = q at hm
  cases q <;> simp only [mop, Bool.false_eq_true, Bool.and_eq_true] at hm
  rename_i t m' s' n'
  obtain ⟨⟨h2, h3⟩, h4⟩ := hm
  have hx := mo_ok hp.glob hp.env h2
  have hy := mo_ok hp.glob hp.env h3
  have hn := mo_ok hp.glob hp.env h4
  simp only [aopO, aop] at hr
  split at hr
  case h_2 => cases hr
  rename_i id he
  split at hr
  case h_2 => cases hr
  rename_i κ l hH
  split at hr
  case h_2 => cases hr
  rename_i ss nn hs hnn
  cases hdk : inR ss l.length with
  | false => rw [hdk] at hr; cases hr
  | true =>
    rw [hdk] at hr
    simp only [cond_true, Option.some.injEq, Prod.mk.injEq] at hr
    obtain ⟨rfl, rfl⟩ := hr
    obtain ⟨g1, g2⟩ := of_decide_eq_true hdk
    rw [he] at hx
    rw [hs, AVV_int] at hy
    rw [hnn, AVV_int] at hn
    obtain ⟨b, hl, hv⟩ := AVV_mp hx
    obtain ⟨l2, hl', hbr⟩ := hp.hold.blks id _ hH
    rw [hl] at hl'
    cases hl'
    have hbr : w.heap[b]? = some (.map (mEnts κ 0 l).toArray l.length) := hbr
    have hget : (getObj b).run P w = .ok (.map (mEnts κ 0 l).toArray l.length) w := by simp only [getObj, Sem.run, hbr]
    have hrun : (Instr.entryStore t (.map (some b)) (.int .i64 ss) (.int .i64 nn)).run P w = .ok () { w with heap := w.heap.setIfInBounds b (.map (mEnts κ 0 (mstore nn (ss : Int).toNat l)).toArray (mstore nn (ss : Int).toNat l).length) } := by
      have hf : (mEnts κ 0 l).toArray.findIdx? (fun e => (e.born : Int) == ss) = some (ss : Int).toNat := by
        have := mEnts_born κ l 0 (ss : Int).toNat (by omega)
        have h1 : ((0 + (ss : Int).toNat : Nat) : Int) = ss := by omega
        rw [h1] at this
        rw [List.findIdx?_toArray]; exact this
      simp only [Instr.entryStore, Sem.run_bind, hget, Result.andThen_ok, asInt, asIntOf, Sem.run_pure, hf, run_setObj hbr, mstore_length]
      have : (mEnts κ 0 l).toArray.modify (ss : Int).toNat (fun e => { e with val := .int .i64 nn }) = (mEnts κ 0 (mstore nn (ss : Int).toNat l)).toArray := by
        rw [← mEnts_store]; simp
      rw [this]
    refine ⟨M, μ, undef, _, ?_, Mem.le.refl _, Map.le.refl _, hp.hold.setMap hH hl hbr, trivial, fun _ h => .inl h⟩
    simp only [execOp, hq, hv, hy, hn, Sem.run_bind, hrun, Result.andThen_ok, Sem.run_pure]
    simp
end
end Go.Av
