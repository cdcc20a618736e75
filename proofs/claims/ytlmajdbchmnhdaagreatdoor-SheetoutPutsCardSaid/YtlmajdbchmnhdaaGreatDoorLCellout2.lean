/-
  The program's writer of cells writes the bits that are told of the cell.
-/
import Derived.Test.YtlmajdbchmnhdaaGreatDoorLCellout
set_option maxRecDepth 100000
namespace Go.Proofs.YtlmajdbchmnhdaaGreatDoor
open Go Go.Av

/-- Which blocks have events: the first counts most. -/
def codedN (c : DCell) : Nat := numB ((evW c).map fun l => !l.isEmpty)
def again (inter : Bool) : List Bool := bif inter then [false] else []
noncomputable def wStuff (inter : Bool) (n : Nat) : List Bool := (List.replicate n (again inter ++ wMcbpc inter 5 0)).flatten
noncomputable def wHead (inter : Bool) (c : DCell) : List Bool := wStuff inter c.1.toNat ++ (bif c.2.1 then [true] else again inter ++ wMcbpc inter c.2.2.1.toNat (codedN c % 4))
noncomputable def wVec (p0 p1 : Int) (c : DCell) : List Bool := bif intraI c.2.2.1 then [] else wMvd (wrapI ((mvW c).getD 0 0 - wrapI p0)) ++ wMvd (wrapI ((mvW c).getD 1 0 - wrapI p1))
noncomputable def wBlocks (c : DCell) (i : Nat) : List Bool := (List.range' i (6 - i)).flatMap fun j => wBlock (intraI c.2.2.1) ((dcW c).getD j 0) ((evW c).getD j [])
noncomputable def wSteps (c : DCell) : List Bool := bif steppedI c.2.2.1 then wStep c.2.2.2.1 else []
noncomputable def wBody (p0 p1 : Int) (c : DCell) : List Bool := wCbpy (intraI c.2.2.1) (codedN c / 4) ++ (wSteps c ++ (wVec p0 p1 c ++ wBlocks c 0))
noncomputable def wCell (inter : Bool) (p0 p1 : Int) (c : DCell) : List Bool := wHead inter c ++ (bif c.2.1 then [] else wBody p0 p1 c)

theorem rowBits_len {rows : List (List UInt8)} (h : ∀ r ∈ rows, r.length ≤ 24) (i : Nat) : (rowBits rows i).length ≤ 24 := by
  simp only [rowBits, bitsRow, List.length_map, List.getD_eq_getElem?_getD]
  cases hi : rows[i]? with
  | none => simp
  | some r => exact h r (List.mem_of_getElem? hi)
theorem wMcbpc_len (inter : Bool) (kind ch : Nat) : (wMcbpc inter kind ch).length ≤ 24 := rowBits_len (short_of (rows6_short inter).1) _
theorem wCbpy_len (intra : Bool) (p : Nat) : (wCbpy intra p).length ≤ 24 := rowBits_len (short_of rows7_short.1) _
theorem wMvd_len (d : Int) : (wMvd d).length ≤ 24 := rowBits_len (short_of rows8_short) _
theorem wStep_len (d : Int) : (wStep d).length ≤ 2 := by unfold wStep; split <;> (try simp) <;> split <;> (try simp) <;> split <;> (try simp) <;> split <;> simp
theorem again_len (inter : Bool) : (again inter).length ≤ 1 := by cases inter <;> simp [again]
theorem wStuff_len (inter : Bool) : ∀ n : Nat, (wStuff inter n).length ≤ 25 * n
  | 0 => by simp [wStuff]
  | n + 1 => by
    have h1 := wStuff_len inter n
    have h2 := wMcbpc_len inter 5 0
    have h3 := again_len inter
    simp only [wStuff, List.replicate_succ, List.flatten_cons, List.length_append] at h1 ⊢
    omega
theorem codedN_lt {c : DCell} (h : (evW c).length = 6) : codedN c < 64 := by
  have := numB_lt ((evW c).map fun l => !l.isEmpty)
  rw [List.length_map, h] at this
  exact this

theorem coded_loop (k : Nat) {l : List (List DEvent)} (hl : l.length = 6) : ∀ (n i : Nat), i ≤ 6 → 6 < n + i →
    cellout_codedu0 k n ((numB ((l.take i).map fun l => !l.isEmpty) : Nat) : Int) l (i : Int) = some ((numB (l.map fun l => !l.isEmpty) : Nat) : Int)
  | 0, i, h1, h2 => by omega
  | n + 1, i, h1, h2 => by
    simp only [cellout_codedu0]
    by_cases h : i < 6
    · have hlt := numB_lt_of (B := (l.take i).map fun l => !l.isEmpty) (n := 6) (by simp; omega)
      have ht : l.take (i + 1) = l.take i ++ [l.getD i []] := by
        rw [List.take_succ_eq_append_getElem (by omega)]; simp [hl, h]
      have ew : wr .i64 ((i : Int) + 1) = ((i + 1 : Nat) : Int) := by rw [wr, wrap64 (by omega) (by omega)]; simp
      have ih := coded_loop k hl n (i + 1) h (by omega)
      rw [ht, List.map_append, List.map_cons, List.map_nil, numB_snoc] at ih
      have e1 : decide ((0 : Int) < (((l.getD i []).length : Nat) : Int)) = !(l.getD i []).isEmpty := by
        cases l.getD i [] with
        | nil => rfl
        | cons a b => simp <;> omega
      have e2 : wr .i64 (((numB ((l.take i).map fun l => !l.isEmpty) : Nat) : Int) * 2) = ((2 * numB ((l.take i).map fun l => !l.isEmpty) : Nat) : Int) := by
        rw [wr, wrap64 (by omega) (by omega)]; omega
      simp only [show decide ((i : Int) < 6) = true by simp <;> omega, cond_true, inR_nat, h, decide_true, Int.toNat_natCast, e1, e2, ew]
      cases hq : (l.getD i []).isEmpty with
      | true =>
        rw [hq] at ih
        simp only [Bool.not_true, cond_false]
        have ih' : cellout_codedu0 k n ((2 * numB ((l.take i).map fun l => !l.isEmpty) : Nat) : Int) l ((i + 1 : Nat) : Int) = _ := ih
        rw [ih']; rfl
      | false =>
        rw [hq] at ih
        simp only [Bool.not_false, cond_true]
        rw [show wr .i64 (((2 * numB ((l.take i).map fun l => !l.isEmpty) : Nat) : Int) + 1) = ((2 * numB ((l.take i).map fun l => !l.isEmpty) + (!false).toNat : Nat) : Int) by rw [wr, wrap64 (by omega) (by omega)]; simp, ih]; rfl
    · have : i = 6 := by omega
      subst this
      rw [List.take_of_length_le (by omega)]; rfl
theorem coded_spec {k : Nat} (hk : 10 < k) {c : DCell} (hc : (evW c).length = 6) : cellout_coded k c = some ((codedN c : Nat) : Int) := by
  have h := coded_loop k hc k 0 (by omega) (by omega)
  have h' : cellout_codedu0 k k 0 c.2.2.2.2.2.2.1 0 = _ := h
  simp only [cellout_coded, h', Option.bind_some, codedN]

theorem head_stuff (k : Nat) {A C : List Bool} (hC : A.length + C.length ≤ 100) {st : Nat} : ∀ (n i : Nat) (B : List Bool), i ≤ st → st < n + i → st ≤ 64 → B.length ≤ 900000000 + 100 * i →
    cellout_headu1 (k + 200) n (chs A) (chs C) (st : Int) (i : Int) ((B.length : Nat) : Int) (pk B) = some ((), Wr (B ++ (List.replicate (st - i) (A ++ C)).flatten))
  | 0, i, B, h1, h2, h3, h4 => by omega
  | n + 1, i, B, h1, h2, h3, h4 => by
    simp only [cellout_headu1]
    by_cases h : i < st
    · have ew : wr .i64 ((i : Int) + 1) = ((i + 1 : Nat) : Int) := by rw [wr, wrap64 (by omega) (by omega)]; simp
      have hmx : decide ((chs A).length + (chs C).length ≤ strMax) = true := by rw [chs_length, chs_length, decide_eq_true_eq]; simp only [strMax]; omega
      have ih := head_stuff k hC n (i + 1) (B ++ (A ++ C)) h (by omega) h3 (by simp only [List.length_append]; omega)
      have ha := Add_spec (k := k + 200) (B := B) (C := A ++ C) (by rw [List.length_append]; omega) (by rw [List.length_append]; omega)
      rw [chs_append] at ha
      simp only [show decide ((i : Int) < (st : Int)) = true by simp [h], cond_true, hmx, ha, Option.bind_some, ew]
      have ih' : cellout_headu1 (k + 200) n (chs A) (chs C) (st : Int) ((i + 1 : Nat) : Int) (Wr (B ++ (A ++ C))).1.2.1 (Wr (B ++ (A ++ C))).2 = _ := ih
      rw [ih', show st - i = (st - (i + 1)) + 1 by omega, List.replicate_succ, List.flatten_cons, List.append_assoc B]; rfl
    · have : i = st := by omega
      subst this
      simp

theorem head_spec_w (k : Nat) {c : DCell} (hc : (evW c).length = 6) {inter : Bool} (hok : cellOK inter c = true) {B : List Bool} (hB : B.length ≤ 800000000) :
    cellout_head (k + 200) inter c ((B.length : Nat) : Int) (pk B) = some ((), Wr (B ++ wHead inter c)) := by
  simp only [cellOK, Bool.and_eq_true, decide_eq_true_eq] at hok
  obtain ⟨⟨h1, h2⟩, h3⟩ := hok
  obtain ⟨st, hst⟩ : ∃ st : Nat, c.1 = st := ⟨c.1.toNat, by omega⟩
  have hal := again_len inter
  have hml := wMcbpc_len inter 5 0
  have hu0 : cellout_headu0 (k + 200) ([] : List UInt8) inter = some (chs (again inter)) := by cases inter <;> rfl
  have hu1 := head_stuff k (A := again inter) (C := wMcbpc inter 5 0) (by omega) (st := st) (k + 200) 0 B (by omega) (by omega) (by omega) (by omega)
  have hu1' : cellout_headu1 (k + 200) (k + 200) (chs (again inter)) (chs (wMcbpc inter 5 0)) (st : Int) 0 ((B.length : Nat) : Int) (pk B) = _ := hu1
  have hsl := wStuff_len inter st
  have hss : (List.replicate (st - 0) (again inter ++ wMcbpc inter 5 0)).flatten = wStuff inter st := rfl
  rw [hss] at hu1'
  have htn : c.1.toNat = st := by omega
  simp only [cellout_head, hu0, Option.bind_some, mcbpc_stuff, hst, hu1', wHead, Int.toNat_natCast]
  cases hsk : c.2.1 with
  | true =>
    have ha := Add_spec (k := k + 200) (B := B ++ wStuff inter st) (C := [true]) (by simp) (by simp only [List.length_append, List.length_cons, List.length_nil]; omega)
    have ha' : outbits_Writer_Add (k + 200) ([49] : List UInt8) (((B ++ wStuff inter st).length : Nat) : Int) (pk (B ++ wStuff inter st)) = _ := ha
    simp only [cond_true, ha', Option.bind_some, List.append_assoc]
  | false =>
    rw [hsk] at h3
    simp only [cond_false, Bool.and_eq_true] at h3
    have hkd := h3.1.1
    have hkr : ∃ kd : Nat, c.2.2.1 = kd ∧ (kd ≤ 4 ∧ kd ≠ 2) ∧ (inter = false → 3 ≤ kd) := by
      simp only [kindOK, intraI, Bool.or_eq_true, Bool.and_eq_true, decide_eq_true_eq] at hkd
      refine ⟨c.2.2.1.toNat, by omega, by omega, fun h => ?_⟩
      rcases hkd with hkd | hkd
      · omega
      · rw [h] at hkd; cases hkd.1
    obtain ⟨kd, hkd1, hkd2, hkd3⟩ := hkr
    have hcn := codedN_lt hc
    have e3 : bitop .and .i64 ((codedN c : Nat) : Int) 3 = ((codedN c % 4 : Nat) : Int) := by
      have h := bitop_and (a := codedN c) (b := 3) (by omega) (by decide)
      have h' : bitop .and .i64 ((codedN c : Nat) : Int) 3 = ((codedN c &&& 3 : Nat) : Int) := h
      rw [h', show (3 : Nat) = 2 ^ 2 - 1 from rfl, Nat.and_two_pow_sub_one_eq_mod]
    have hml2 := wMcbpc_len inter kd (codedN c % 4)
    have hmx : decide ((chs (again inter)).length + (chs (wMcbpc inter kd (codedN c % 4))).length ≤ strMax) = true := by rw [chs_length, chs_length, decide_eq_true_eq]; simp only [strMax]; omega
    have ha := Add_spec (k := k + 200) (B := B ++ wStuff inter st) (C := again inter ++ wMcbpc inter kd (codedN c % 4)) (by simp only [List.length_append]; omega) (by simp only [List.length_append]; omega)
    rw [chs_append] at ha
    simp only [cond_false, coded_spec (k := k + 200) (by omega) hc, Option.bind_some, e3, hkd1, Int.toNat_natCast, mcbpc_Row_spec k hkd2 hkd3 (show codedN c % 4 < 4 by omega), hmx, cond_true, ha, List.append_assoc]

theorem putVec_loop {k m : Nat} (p0 p1 : Int) {c : DCell} (hc : CellF m c) (hv : vecOK c = true) {B : List Bool} (hB : B.length ≤ 850000000) :
    cellout_Putu1 (k + 200) (k + 200) 0 ((B.length : Nat) : Int) [p0, p1] c (pk B) = some ((), (((), ((((B ++ wVec p0 p1 c).length : Nat) : Int), ())), ([p0, p1], (c, pk (B ++ wVec p0 p1 c))))) := by
  have d0 : decide ((0 : Int) < 2) = true := rfl
  have d1 : decide ((1 : Int) < 2) = true := rfl
  have d2 : decide ((2 : Int) < 2) = false := rfl
  have w0 : wr .i64 ((0 : Int) + 1) = 1 := rfl
  have w1 : wr .i64 ((1 : Int) + 1) = 2 := rfl
  have i0 : inR 0 2 = true := rfl
  have i1 : inR 1 2 = true := rfl
  obtain ⟨n, hn⟩ : ∃ n, k + 200 = n + 3 := ⟨k + 197, by omega⟩
  cases hi : intraI c.2.2.1 with
  | true =>
    have hw : wVec p0 p1 c = [] := by simp only [wVec, hi, cond_true]
    rw [hw, List.append_nil]
    have : ∀ k' : Nat, cellout_Putu1 k' (n + 3) 0 ((B.length : Nat) : Int) [p0, p1] c (pk B) = some ((), (((), (((B.length : Nat) : Int), ())), ([p0, p1], (c, pk B)))) := fun k' => by
      simp only [cellout_Putu1, d0, d1, d2, w0, w1, cond_true, cond_false, intra_w, hi, Option.bind_some, Bool.not_true]
    conv => lhs; arg 2; rw [hn]
    exact this _
  | false =>
    simp only [vecOK, hi, cond_false, Bool.and_eq_true, decide_eq_true_eq] at hv
    have r0 := wrapI_range ((mvW c).getD 0 0)
    have r1 := wrapI_range ((mvW c).getD 1 0)
    have q0 := wrapI_range p0
    have q1 := wrapI_range p1
    rw [hv.1] at r0
    rw [hv.2] at r1
    have t0 := wrapI_range ((mvW c).getD 0 0 - wrapI p0)
    have t1 := wrapI_range ((mvW c).getD 1 0 - wrapI p1)
    have s0 : wr .i64 ((mvW c).getD 0 0 - wrapI p0) = (mvW c).getD 0 0 - wrapI p0 := by rw [wr, wrap64 (by omega) (by omega)]
    have s1 : wr .i64 ((mvW c).getD 1 0 - wrapI p1) = (mvW c).getD 1 0 - wrapI p1 := by rw [wr, wrap64 (by omega) (by omega)]
    have l0 := wMvd_len (wrapI ((mvW c).getD 0 0 - wrapI p0))
    have l1 := wMvd_len (wrapI ((mvW c).getD 1 0 - wrapI p1))
    have a0 := Add_spec (k := k + 200) (B := B) (C := wMvd (wrapI ((mvW c).getD 0 0 - wrapI p0))) (by omega) (by omega)
    have a1 := Add_spec (k := k + 200) (B := B ++ wMvd (wrapI ((mvW c).getD 0 0 - wrapI p0))) (C := wMvd (wrapI ((mvW c).getD 1 0 - wrapI p1))) (by omega) (by simp only [List.length_append]; omega)
    have m0 : mvd_Row (k + 200) (wrapI ((mvW c).getD 0 0 - wrapI p0)) = _ := mvd_Row_spec (k + 100) t0.1 t0.2
    have m1 : mvd_Row (k + 200) (wrapI ((mvW c).getD 1 0 - wrapI p1)) = _ := mvd_Row_spec (k + 100) t1.1 t1.2
    have g0 : ([p0, p1] : List Int).getD 0 0 = p0 := rfl
    have g1 : ([p0, p1] : List Int).getD 1 0 = p1 := rfl
    have z0 : Int.toNat 0 = 0 := rfl
    have z1 : Int.toNat 1 = 1 := rfl
    have hw : wVec p0 p1 c = wMvd (wrapI ((mvW c).getD 0 0 - wrapI p0)) ++ wMvd (wrapI ((mvW c).getD 1 0 - wrapI p1)) := by simp only [wVec, hi, cond_false]
    rw [hw, ← List.append_assoc]
    conv => lhs; arg 2; rw [hn]
    simp only [cellout_Putu1, d0, d1, d2, w0, w1, i0, i1, cond_true, cond_false, intra_w, hi, Option.bind_some, Bool.not_false, Wrap_spec, g0, g1, z0, z1, s0, s1, m0, m1, a0, a1]

theorem putBlocks_loop {k m : Nat} (hm : m ≤ 100000) (hk : m + 300 < k) {c : DCell} (hc : CellF m c) : ∀ (n i : Nat) (B : List Bool), i ≤ 6 → 6 < n + i → blocksOK c i = true → B.length ≤ 870000000 + 3000000 * i →
    cellout_Putu2 k n (i : Int) ((B.length : Nat) : Int) c (pk B) = some ((), (((), ((((B ++ wBlocks c i).length : Nat) : Int), ())), (c, pk (B ++ wBlocks c i))))
  | 0, i, B, h1, h2, h3, h4 => by omega
  | n + 1, i, B, h1, h2, h3, h4 => by
    simp only [cellout_Putu2]
    by_cases h : i < 6
    · have ew : wr .i64 ((i : Int) + 1) = ((i + 1 : Nat) : Int) := by rw [wr, wrap64 (by omega) (by omega)]; simp
      have hb : blocksOK c i = (blockOK (intraI c.2.2.1) ((dcW c).getD i 0) ((evW c).getD i []) && blocksOK c (i + 1)) := by
        unfold blocksOK
        rw [show 6 - i = (6 - (i + 1)) + 1 by omega, List.range'_succ, List.all_cons]
      have hw : wBlocks c i = wBlock (intraI c.2.2.1) ((dcW c).getD i 0) ((evW c).getD i []) ++ wBlocks c (i + 1) := by
        unfold wBlocks
        rw [show 6 - i = (6 - (i + 1)) + 1 by omega, List.range'_succ, List.flatMap_cons]
      rw [hb, Bool.and_eq_true] at h3
      have hfew := hc.few i
      have hbl : (wBlock (intraI c.2.2.1) ((dcW c).getD i 0) ((evW c).getD i [])).length ≤ 8 + 22 * m := by
        have h5 := h3.1
        simp only [blockOK, Bool.and_eq_true] at h5
        have h6 := wEvents_length (levOK_right h5.2)
        unfold wBlock
        rw [List.length_append]
        cases intraI c.2.2.1 <;> simp only [cond_true, cond_false, bitsN_length, List.length_nil] <;> omega
      have hp := PutBlock_ok (k := k) (B := B) (by omega) (by omega) (by omega) h3.1
      have ih := putBlocks_loop hm hk hc n (i + 1) (B ++ wBlock (intraI c.2.2.1) ((dcW c).getD i 0) ((evW c).getD i [])) h (by omega) h3.2 (by simp only [List.length_append]; omega)
      simp only [show decide ((i : Int) < 6) = true by simp <;> omega, cond_true, inR_nat, h, decide_true, Int.toNat_natCast, intra_w, Option.bind_some, hp, ew]
      have ih' : cellout_Putu2 k n ((i + 1 : Nat) : Int) (Wr (B ++ wBlock (intraI c.2.2.1) ((dcW c).getD i 0) ((evW c).getD i []))).1.2.1 c (Wr (B ++ wBlock (intraI c.2.2.1) ((dcW c).getD i 0) ((evW c).getD i []))).2 = _ := ih
      rw [hw, ← List.append_assoc]
      exact ih'.symm ▸ rfl
    · have : i = 6 := by omega
      subst this
      have : wBlocks c 6 = [] := rfl
      rw [this, List.append_nil]; rfl

/-- A cell that may be is written behind what is there. -/
theorem PutCell_ok {k m : Nat} (hm : m ≤ 100000) (hk : m + 500 < k) {c : DCell} (hc : CellF m c) {inter : Bool} (hok : cellOK inter c = true) (p0 p1 : Int) {B : List Bool} (hB : B.length ≤ 800000000) :
    cellout_Put k inter [p0, p1] c ((B.length : Nat) : Int) (pk B) = some (0, Wr (B ++ wCell inter p0 p1 c)) := by
  obtain ⟨k', rfl⟩ : ∃ k', k = k' + 200 := ⟨k - 200, by omega⟩
  have hh := head_spec_w k' hc.ev hok hB
  simp only [cellout_Put, Right_spec_w (k := k' + 200) hm (by omega) hc, hok, Option.bind_some, Bool.not_true, cond_false, hh, wCell]
  have hsl := wStuff_len inter c.1.toNat
  have hhl : (wHead inter c).length ≤ 2000 := by
    simp only [cellOK, Bool.and_eq_true, decide_eq_true_eq] at hok
    have h1 := again_len inter
    have h2 := wMcbpc_len inter c.2.2.1.toNat (codedN c % 4)
    unfold wHead
    rw [List.length_append]
    cases c.2.1 <;> simp only [cond_true, cond_false, List.length_append, List.length_cons, List.length_nil] <;> omega
  cases hsk : c.2.1 with
  | true => simp only [cond_true, List.append_nil]
  | false =>
    simp only [cellOK, hsk, cond_false, Bool.and_eq_true] at hok
    obtain ⟨_, ⟨_, ⟨hst, _⟩, hv⟩, hbl⟩ := hok
    have hcn := codedN_lt hc.ev
    have e2 : shrI .i64 ((codedN c : Nat) : Int) 2 = ((codedN c / 4 : Nat) : Int) := by
      have h := shrI_nat (a := codedN c) (n := 2) (by decide)
      exact h
    have cl := wCbpy_len (intraI c.2.2.1) (codedN c / 4)
    have ac := Add_spec (k := k' + 200) (B := B ++ wHead inter c) (C := wCbpy (intraI c.2.2.1) (codedN c / 4)) (by omega) (by simp only [List.length_append]; omega)
    have sl := wStep_len c.2.2.2.1
    have ssl : (wSteps c).length ≤ 2 := by unfold wSteps; cases steppedI c.2.2.1 <;> simp; exact sl
    have hu0 : cellout_Putu0 (k' + 200) (steppedI c.2.2.1) (((B ++ wHead inter c ++ wCbpy (intraI c.2.2.1) (codedN c / 4)).length : Nat) : Int) c (pk (B ++ wHead inter c ++ wCbpy (intraI c.2.2.1) (codedN c / 4))) =
        some ((), (((), ((((B ++ wHead inter c ++ wCbpy (intraI c.2.2.1) (codedN c / 4) ++ wSteps c).length : Nat) : Int), ())), (c, pk (B ++ wHead inter c ++ wCbpy (intraI c.2.2.1) (codedN c / 4) ++ wSteps c)))) := by
      unfold wSteps
      cases steppedI c.2.2.1 with
      | false => simp only [cellout_Putu0, cond_false, List.append_nil]
      | true =>
        have ast := Add_spec (k := k' + 200) (B := B ++ wHead inter c ++ wCbpy (intraI c.2.2.1) (codedN c / 4)) (C := wStep c.2.2.2.1) (by omega) (by simp only [List.length_append]; omega)
        simp only [cellout_Putu0, cond_true, steps_Row_spec, Option.bind_some, ast]
    have hvl : (wVec p0 p1 c).length ≤ 48 := by
      have t0 := wMvd_len (wrapI ((mvW c).getD 0 0 - wrapI p0))
      have t1 := wMvd_len (wrapI ((mvW c).getD 1 0 - wrapI p1))
      unfold wVec
      cases intraI c.2.2.1 <;> simp only [cond_true, cond_false, List.length_append, List.length_nil] <;> omega
    have hu1 := putVec_loop (k := k') p0 p1 hc hv (B := B ++ wHead inter c ++ wCbpy (intraI c.2.2.1) (codedN c / 4) ++ wSteps c) (by simp only [List.length_append]; omega)
    have hu2 := putBlocks_loop hm (k := k' + 200) (by omega) hc (k' + 200) 0 (B ++ wHead inter c ++ wCbpy (intraI c.2.2.1) (codedN c / 4) ++ wSteps c ++ wVec p0 p1 c) (by omega) (by omega) hbl (by simp only [List.length_append]; omega)
    have hu2' : cellout_Putu2 (k' + 200) (k' + 200) 0 (((B ++ wHead inter c ++ wCbpy (intraI c.2.2.1) (codedN c / 4) ++ wSteps c ++ wVec p0 p1 c).length : Nat) : Int) c (pk (B ++ wHead inter c ++ wCbpy (intraI c.2.2.1) (codedN c / 4) ++ wSteps c ++ wVec p0 p1 c)) = _ := hu2
    simp only [cond_false, intra_w, coded_spec (k := k' + 200) (by omega) hc.ev, Option.bind_some, e2, cbpy_Row_spec (k' + 200) (intraI c.2.2.1) (show codedN c / 4 < 16 by omega), ac, stepped_w, hu0, hu1, hu2']
    simp only [wBody, List.append_assoc]
theorem PutCell_bad {k m : Nat} (hm : m ≤ 100000) (hk : m + 500 < k) {c : DCell} (hc : CellF m c) {inter : Bool} (hok : cellOK inter c = false) (p0 p1 : Int) (B : List Bool) :
    cellout_Put k inter [p0, p1] c ((B.length : Nat) : Int) (pk B) = some (12, Wr B) := by
  simp only [cellout_Put, Right_spec_w hm (show m + 300 < k by omega) hc, hok, Option.bind_some, Bool.not_false, cond_true]
end Go.Proofs.YtlmajdbchmnhdaaGreatDoor
