/-
  A text's bits, as the page shows them.
-/
import Derived.Test.YtlemoepklgfjoaaDoorLCellin2
import Derived.Test.YtlemoepklgfjoaaDoorM4
set_option maxRecDepth 100000
namespace Go.Proofs.YtlemoepklgfjoaaDoor
open Go Go.Av

theorem chs_cut (B : List Bool) (a m : Nat) : (((chs B).take (a + m)).drop a) = chs ((B.drop a).take m) := by
  simp only [chs, ← List.map_take, ← List.map_drop]
  congr 1
  rw [List.drop_take]; congr 1; omega
/-! ### A text's bits, as the page tells them -/
theorem ref02_Row_byte (k : Nat) : ((List.range 256).all fun v => decide (overspillref02_Row (k + 20) (v : Int) 8 = some (chs (bitsN 8 v)))) = true := by kernel_rfl
theorem ref02_Row8 (k : Nat) (b : UInt8) : overspillref02_Row (k + 20) (wr .i64 ((b.toNat : Nat) : Int)) 8 = some (chs (byteBits b)) := by
  have hb := u8_lt b
  rw [wr, wrap64 (by omega) (by omega), ← bitsN_8]
  have := List.all_eq_true.1 (ref02_Row_byte k) b.toNat (List.mem_range.2 hb)
  exact of_decide_eq_true this
theorem toU8_chs (B : List Bool) : List.map toU8 (List.map (fun (b : UInt8) => (b.toNat : Int)) (chs B)) = chs B := by
  rw [List.map_map]
  conv => rhs; rw [← List.map_id (chs B)]
  apply List.map_congr_left
  intro b _
  simp [toU8]
theorem Show_loop (k : Nat) {s : List UInt8} (hs : s.length ≤ 100000000) : ∀ (n i : Nat) (acc : List Bool), i ≤ s.length → s.length < n + i → acc.length = 8 * i →
    overspillref02_Showu0 (k + 20) n s (i : Int) (List.map (fun (b : UInt8) => (b.toNat : Int)) (chs acc)) = some ((), List.map (fun (b : UInt8) => (b.toNat : Int)) (chs (acc ++ bitsOf (s.drop i))))
  | 0, i, acc, h1, h2, h3 => by omega
  | n + 1, i, acc, h1, h2, h3 => by
    simp only [overspillref02_Showu0]
    by_cases h : i < s.length
    · have hd : s.drop i = s.getD i 0 :: s.drop (i + 1) := by
        rw [List.drop_eq_getElem_cons h]; simp [h]
      have hl : decide ((List.map (fun (b : UInt8) => (b.toNat : Int)) (chs acc)).length + (List.map (fun (b : UInt8) => (b.toNat : Int)) (chs (byteBits (s.getD i 0)))).length ≤ rowMax) = true := by
        simp only [List.length_map, chs_length, h3, rowMax, decide_eq_true_eq]
        have : (byteBits (s.getD i 0)).length = 8 := rfl
        omega
      have ih := Show_loop k hs n (i + 1) (acc ++ byteBits (s.getD i 0)) h (by omega) (by
        have hbl : ∀ b, (byteBits b).length = 8 := fun _ => rfl
        simp only [List.length_append, h3, hbl]; omega)
      rw [chs_append, List.map_append] at ih
      simp only [Int.ofNat_lt, h, decide_true, cond_true, inR_nat, Int.toNat_natCast, ref02_Row8, Option.bind_some, hl]
      rw [show wr .i64 ((i : Int) + 1) = ((i + 1 : Nat) : Int) by rw [wr, wrap64 (by omega) (by omega)]; simp, ih, hd, bitsOf]
      simp only [Option.bind_some, List.append_assoc]
    · have : i = s.length := by omega
      subst this
      simp [bitsOf]
theorem Show_spec {k : Nat} {s : List UInt8} (hs : s.length ≤ 100000000) (hk : s.length + 20 < k) : overspillref02_Show k s = some (chs (bitsOf s)) := by
  obtain ⟨k', rfl⟩ : ∃ k', k = k' + 20 := ⟨k - 20, by omega⟩
  have h := Show_loop k' hs (k' + 20) 0 [] (by omega) (by omega) rfl
  have h' : overspillref02_Showu0 (k' + 20) (k' + 20) s 0 [] = _ := h
  simp only [overspillref02_Show, h', Option.bind_some, List.nil_append, List.drop_zero, toU8_chs]

theorem getD_len {l : List (List DEvent)} {m : Nat} (h : ∀ x ∈ l, x.length ≤ m) (i : Nat) : (l.getD i []).length ≤ m := by
  by_cases hi : i < l.length
  · rw [List.getD_eq_getElem?_getD, List.getElem?_eq_getElem hi]; exact h _ (List.getElem_mem _)
  · rw [List.getD_eq_getElem?_getD, List.getElem?_eq_none (by omega)]; simp
theorem Ze_len : ∀ x ∈ Ze, x.length ≤ 65 := by
  intro x hx
  have : x = [] := by
    simp only [Ze, Ty.zero, List.mem_replicate] at hx
    exact hx.2
  subst this; simp
theorem rdCell_events {inter : Bool} {p0 p1 : Int} {rest : List Bool} {c : DCell} {m : Nat} (h : rdCell inter p0 p1 rest = .inr (c, m)) : m ≤ rest.length ∧ ∀ x ∈ c.2.2.2.2.2.2.1, x.length ≤ 65 := by
  unfold rdCell at h
  cases hb : rdBegin 65 inter 0 rest with
  | inl e => rw [hb] at h; cases h
  | inr q =>
    obtain ⟨⟨st, o⟩, m0⟩ := q
    have hr := rdBegin_range (by omega) hb
    rw [hb] at h
    cases o with
    | none =>
      simp only [Sum.inr.injEq, Prod.mk.injEq] at h
      obtain ⟨rfl, rfl⟩ := h
      exact ⟨hr.1, Ze_len⟩
    | some x =>
      simp only [rdTail_mid] at h
      cases hm : rdMid x.1 p0 p1 (rest.drop m0) with
      | inl e => rw [hm] at h; cases h
      | inr z =>
        obtain ⟨y, m1⟩ := z
        have hr1 := rdMid_range hm
        rw [List.length_drop] at hr1
        rw [hm] at h
        simp only at h
        cases hq : rdBlocks (isIntra x.1) (4 * y.1 + x.2) 6 Z6 Ze ((rest.drop m0).drop m1) with
        | inl e => rw [hq] at h; cases h
        | inr w =>
          obtain ⟨w, m4⟩ := w
          have hr2 := rdBlocks_range hq
          rw [List.length_drop, List.length_drop] at hr2
          rw [hq] at h
          simp only [Sum.inr.injEq, Prod.mk.injEq] at h
          obtain ⟨rfl, rfl⟩ := h
          exact ⟨by omega, hr2.2.2.2 Ze_len⟩

end Go.Proofs.YtlemoepklgfjoaaDoor
