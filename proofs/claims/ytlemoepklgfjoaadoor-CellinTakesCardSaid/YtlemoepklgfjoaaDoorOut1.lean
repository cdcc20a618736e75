/-
  The functions of the program as typed functions; each is what the machine's call tells. Printed by a program of mine.
-/
import Derived.Test.YtlemoepklgfjoaaDoorM3
import Derived.Test.YtlemoepklgfjoaaDoorProg
set_option maxRecDepth 100000
namespace Go.Proofs.YtlemoepklgfjoaaDoor
open Go Go.Av

noncomputable abbrev P : Program := Tryd.prog
theorem hmo : P.follows .mixedOrders = true := by kernel_rfl
abbrev wr (k : IntKind) (x : Int) : Int := k.wrap x
def tbl0 : List Int := [1, 1, 1, 1, 3, 5, 4, 3, 11, 10, 9, 17, 16, 15, 14, 13, 12, 11, 10, 9, 8, 7, 6, 5, 4, 7, 6, 5, 4, 3, 2, 3, 2]
def tbl1 : List Int := [2, 15, 21, 23, 31, 37, 36, 33, 32, 7, 6, 32, 6, 20, 30, 15, 33, 80, 14, 29, 14, 81, 13, 35, 13, 12, 34, 82, 11, 12, 83, 19, 11, 84, 18, 10, 17, 9, 16, 8, 22, 85, 21, 20, 28, 27, 33, 32, 31, 30, 29, 28, 27, 26, 34, 35, 86, 87, 7, 25, 5, 15, 4, 14, 13, 12, 19, 18, 17, 16, 26, 25, 24, 23, 22, 21, 20, 19, 24, 23, 22, 21, 20, 19, 18, 17, 7, 6, 5, 4, 36, 37, 38, 39, 88, 89, 90, 91, 92, 93, 94, 95]
def tbl2 : List Int := [2, 4, 6, 7, 8, 9, 9, 10, 10, 11, 11, 11, 3, 6, 8, 10, 11, 12, 4, 8, 10, 12, 5, 9, 10, 5, 9, 12, 5, 10, 12, 6, 10, 12, 6, 10, 6, 10, 6, 10, 7, 12, 7, 7, 8, 8, 9, 9, 9, 9, 9, 9, 9, 9, 11, 11, 12, 12, 4, 9, 11, 6, 11, 6, 6, 6, 7, 7, 7, 7, 8, 8, 8, 8, 8, 8, 8, 8, 9, 9, 9, 9, 9, 9, 9, 9, 10, 10, 10, 10, 11, 11, 11, 11, 12, 12, 12, 12, 12, 12, 12, 12]
def tbl3 : List Int := [0, 0, 0, 0, 0, 0, 0, 0, 0, 1, 1, 1, 1, 1, 0, 0, 0, 0, 0, 0, 0, 0, 0, 0, 0, 0, 0, 0, 0, 0, 0, 0, 1, 0, 0, 0, 0, 0, 0, 0, 0, 0, 0, 0, 0, 0, 0, 0, 0, 0, 0, 0, 0, 0, 0, 0, 0, 0, 0, 0, 0, 0, 0, 0, 0, 0, 0, 0, 0, 0, 0, 0, 0, 0, 0, 0, 0, 0, 0, 0, 0, 0, 0, 0, 0, 0, 0, 0, 0, 0, 0, 0, 0, 0, 0, 0, 0, 0, 0, 0, 0, 0, 0, 0, 0, 0, 0, 0, 0, 0, 0, 0, 0, 0, 0, 0, 0, 0, 0, 0, 0, 0, 0, 0, 0, 0, 0, 0, 0, 0, 0, 0, 0, 0, 0, 0, 0, 0, 0, 0, 0, 0, 0, 0, 0, 0, 0, 0, 0, 0, 0, 0, 0, 0, 0, 0, 0, 0, 0, 0, 0, 0, 0, 0, 0, 0, 0, 0, 0, 0, 0, 0, 0, 0, 0, 0, 0, 0, 0, 0, 0, 0, 0, 0, 0, 0, 0, 0, 0, 0, 0, 0, 0, 0, 0, 0, 0, 0, 0, 0, 0, 0, 0, 0, 0, 0, 0, 0, 0, 0, 0, 0, 0, 0, 0, 0, 0, 0, 0, 0, 0, 0, 0, 0, 0, 0, 0, 0, 0, 0, 0, 0, 0, 0, 0, 0, 0, 0, 0, 0, 0, 0, 0, 0, 0, 0, 0, 0, 0, 0, 0, 0, 0, 0, 0, 0]
noncomputable def GL : Nat → AV := fun n => bif Nat.beq n 0 then .fp (.arr 33 (.int .i64)) tbl0 else bif Nat.beq n 1 then .fp (.arr 102 (.int .i64)) tbl1 else bif Nat.beq n 2 then .fp (.arr 102 (.int .i64)) tbl2 else bif Nat.beq n 3 then .fp (.arr 256 (.int .u8)) tbl3 else .dead
noncomputable def T0 (_ : Nat) : List (Nat × Ent) := []
theorem T0_ok (k : Nat) : TabOK P GL (T0 k) := TabOK.nil
abbrev YReader : Ty := (.pr .str (.pr (.int .i64) .nil))
abbrev DReader : Type := (List UInt8) × Int × Unit
/-! ### overspill.inbits.New -/
noncomputable def z1U0 (_ : Nat) : List (Nat × Ent) := []
theorem z1U0_k (k : Nat) : UTab (z1U0 k) := UTab.nil
noncomputable def inbits_New (k : Nat) (x0 : List UInt8) : Option ((Unit) × (DReader)) :=
  some ((), (x0, (0, ())))
noncomputable def z1b : AC :=
  (.seq (.region [(iO 2 (.mv (.c .nilp)))])
  (.seq (.region [(iO 3 (.mv (.t 0))),
    (iO 4 (.build 55 (.tv YReader) [(0, (.fld 0 0), 1, (.t 3))])),
    (iO 5 (.box (.t 4))),
    (iO 2 (.mv (.t 5)))])
  .ret))
noncomputable def z1f : FDef := ⟨1, 6, [.tmp 2 none], z1b⟩
noncomputable def z1p : XPat := ⟨.normal, [(.tv .str)], []⟩
noncomputable def z1x : List XPat := [⟨.ret, [(.ptr 0 [])], [(.box (.tv YReader))]⟩]
noncomputable def z1t (k : Nat) (d : z1p.D) : Option (XD z1x) := inbits_New k d
noncomputable def z1_e (k : Nat) : UEntry := mkU z1p z1x (z1t k) nilU
theorem z1_n (k : Nat) : UNat (z1_e k) := mkU_nat nilU_nat
theorem z1_fu (k : Nat) : FU P GL 7 (z1_e k) :=
  fn_typed (uorc := uorT (z1U0 k)) hmo (T0_ok k).oo (z1U0_k k) (fd := z1f) (AllU.no (by kernel_rfl)) (fn := Tryd.f7) (by kernel_rfl) (by kernel_rfl) (fun d => by kernel_rfl) FU_nil
noncomputable def T1 (k : Nat) : List (Nat × Ent) := (7, ⟨z1_e k⟩) :: T0 k
theorem T1_ok (k : Nat) : TabOK P GL (T1 k) := (T0_ok k).cons (z1_fu k) (z1_n k)
/-! ### (*overspill.inbits.Reader).Seek -/
noncomputable def z2U0 (_ : Nat) : List (Nat × Ent) := []
theorem z2U0_k (k : Nat) : UTab (z2U0 k) := UTab.nil
noncomputable def inbits_Reader_Seek (k : Nat) (x0 : Int) (x1 : DReader) : Option ((Int) × (DReader)) :=
  bif (decide (x0 < 0)) then
    some (1, x1)
  else
  bif (decide ((wr .i64 (8 * ((List.length x1.1 : Nat) : Int))) < x0)) then
    some (1, x1)
  else
  some (0, (x1.1, (x0, x1.2.2)))
noncomputable def z2b : AC :=
  (.seq (.region [(iO 4 (.mv (nI 0)))])
  (.seq (.seq (.region [(iO 5 (.mv (.t 0))),
    (iO 6 (.eqp false (.t 5) (.c .nilp))),
    (iO 7 (.mv (.t 6))),
    ⟨some 8, some (2, 7, false), (.op (.mv (.t 1))), []⟩,
    ⟨some 9, some (2, 7, false), (.op (.bin .lss (.t 8) (nI 0))), []⟩,
    (iO 10 (.pick (.t 7) (.c (.tv .bool (true : Bool))) (.t 9))),
    (iO 11 (.mv (.t 10))),
    ⟨some 12, some (6, 11, false), (.op (.mv (.t 1))), []⟩,
    ⟨some 13, some (6, 11, false), (.op (.mv (.t 0))), []⟩,
    ⟨some 14, some (6, 11, false), (.op (.nilc (.t 13))), []⟩,
    ⟨some 15, some (6, 11, false), (.op (.fad 0 0 (.t 14))), []⟩,
    ⟨some 16, some (6, 11, false), (.op (.load false 1 (.t 15))), []⟩,
    ⟨some 17, some (6, 11, false), (.op (.lens (.t 16))), []⟩,
    ⟨some 18, some (6, 11, false), (.op (.bin .mul (nI 8) (.t 17))), []⟩,
    ⟨some 19, some (6, 11, false), (.op (.bin .gtr (.t 12) (.t 18))), []⟩,
    (iO 20 (.pick (.t 11) (.c (.tv .bool (true : Bool))) (.t 19)))])
  (.cond (.t 20)
  (.seq (.region [(iO 4 (.mv (nI 1)))])
    .ret)
  .skip))
  (.seq (.region [(iO 21 (.mv (.t 0))),
    (iO 22 (.mv (.t 1))),
    (iO 23 (.nilc (.t 21))),
    (iO 24 (.fad 1 1 (.t 23))),
    (iS (.store 1 none (.t 24) (.t 22)))])
  (.seq (.region [(iO 4 (.mv (nI 0)))])
  .ret))))
noncomputable def z2f : FDef := ⟨2, 25, [.tmp 4 none], z2b⟩
noncomputable def z2p : XPat := ⟨.normal, [(.ptr 0 []), (.tv (.int .i64))], [(.box (.tv YReader))]⟩
noncomputable def z2x : List XPat := [⟨.ret, [(.tv (.int .i64))], [(.box (.tv YReader))]⟩]
noncomputable def z2t (k : Nat) (d : z2p.D) : Option (XD z2x) := inbits_Reader_Seek k d.1.2 d.2
noncomputable def z2_e (k : Nat) : UEntry := mkU z2p z2x (z2t k) nilU
theorem z2_n (k : Nat) : UNat (z2_e k) := mkU_nat nilU_nat
theorem z2_fu (k : Nat) : FU P GL 8 (z2_e k) :=
  fn_typed (uorc := uorT (z2U0 k)) hmo (T1_ok k).oo (z2U0_k k) (fd := z2f) (AllU.no (by kernel_rfl)) (fn := Tryd.f8) (by kernel_rfl) (by kernel_rfl) (fun d => by kernel_rfl) FU_nil
noncomputable def T2 (k : Nat) : List (Nat × Ent) := (8, ⟨z2_e k⟩) :: T1 k
theorem T2_ok (k : Nat) : TabOK P GL (T2 k) := (T1_ok k).cons (z2_fu k) (z2_n k)
abbrev YEvent : Ty := (.pr .bool (.pr (.int .i64) (.pr (.int .i64) .nil)))
abbrev YCell : Ty := (.pr (.int .i64) (.pr .bool (.pr (.int .i64) (.pr (.int .i64) (.pr (.arr 2 (.int .i64)) (.pr (.arr 6 (.int .i64)) (.pr (.arr 6 (.sl YEvent)) .nil)))))))
/-! ### (*overspill.inbits.Reader).At -/
noncomputable def z3U0 (_ : Nat) : List (Nat × Ent) := []
theorem z3U0_k (k : Nat) : UTab (z3U0 k) := UTab.nil
noncomputable def inbits_Reader_At (k : Nat) (x0 : DReader) : Option ((Int) × (DReader)) :=
  some (x0.2.1, x0)
noncomputable def z3b : AC :=
  (.seq (.region [(iO 2 (.mv (nI 0)))])
  (.seq (.seq (.region [(iO 3 (.mv (.t 0))),
    (iO 4 (.eqp false (.t 3) (.c .nilp)))])
  (.cond (.t 4)
  (.seq (.region [(iO 2 .bad)])
    .ret)
  .skip))
  (.seq (.region [(iO 5 (.mv (.t 0))),
    (iO 6 (.nilc (.t 5))),
    (iO 7 (.fad 1 1 (.t 6))),
    (iO 8 (.load false 1 (.t 7))),
    (iO 2 (.mv (.t 8)))])
  .ret)))
noncomputable def z3f : FDef := ⟨1, 9, [.tmp 2 none], z3b⟩
noncomputable def z3p : XPat := ⟨.normal, [(.ptr 0 [])], [(.box (.tv YReader))]⟩
noncomputable def z3x : List XPat := [⟨.ret, [(.tv (.int .i64))], [(.box (.tv YReader))]⟩]
noncomputable def z3t (k : Nat) (d : z3p.D) : Option (XD z3x) := inbits_Reader_At k d.2
noncomputable def z3_e (k : Nat) : UEntry := mkU z3p z3x (z3t k) nilU
theorem z3_n (k : Nat) : UNat (z3_e k) := mkU_nat nilU_nat
theorem z3_fu (k : Nat) : FU P GL 14 (z3_e k) :=
  fn_typed (uorc := uorT (z3U0 k)) hmo (T2_ok k).oo (z3U0_k k) (fd := z3f) (AllU.no (by kernel_rfl)) (fn := Tryd.f14) (by kernel_rfl) (by kernel_rfl) (fun d => by kernel_rfl) FU_nil
noncomputable def T3 (k : Nat) : List (Nat × Ent) := (14, ⟨z3_e k⟩) :: T2 k
theorem T3_ok (k : Nat) : TabOK P GL (T3 k) := (T2_ok k).cons (z3_fu k) (z3_n k)
/-! ### (*overspill.inbits.Reader).Peek -/
noncomputable def z4U0 (_ : Nat) : List (Nat × Ent) := []
theorem z4U0_k (k : Nat) : UTab (z4U0 k) := UTab.nil
noncomputable def z4u0d : UDef := ⟨[(1, none), (9, none)], [9, 12, 13, 14, 15], [(.normal, [(9, none)])], []⟩
noncomputable def z4u0p : XPat := ⟨.normal, [(.tv (.int .i64)), (.tv .bool)], []⟩
noncomputable def z4u0x : List XPat := [⟨.normal, [(.tv .bool)], []⟩]
noncomputable def inbits_Reader_Peeku0 (k : Nat) (x0 : Int) (x1 : Bool) : Option (Bool) :=
  bif x1 then
    some x1
  else
  bif (decide (x0 < 0)) then
    some (decide (x0 < 0))
  else
  some (decide ((32 : Int) < x0))
noncomputable def z4u0b : AC :=
  (.cond (.t 9)
  .skip
  (.seq (.region [(iO 12 (.mv (.t 1))),
      (iO 13 (.bin .lss (.t 12) (nI 0))),
      (iO 9 (.mv (.t 13)))])
    (.cond (.t 9)
    .skip
    (.region [(iO 14 (.mv (.t 1))),
        (iO 15 (.bin .gtr (.t 14) (nI 32))),
        (iO 9 (.mv (.t 15)))]))))
noncomputable def z4u0t (k : Nat) (d : z4u0p.D) : Option (XD z4u0x) := inbits_Reader_Peeku0 k d.1 d.2
theorem z4u0_k (k : Nat) : UOK P GL (mkU z4u0p z4u0x (z4u0t k) nilU) z4u0d false z4u0b :=
  unit_typed (ud := z4u0d) (body := z4u0b) (uorc := uorT (z4U0 k)) hmo (T3_ok k).oo (z4U0_k k) (AllU.no (by kernel_rfl)) (fun d => by kernel_rfl)
noncomputable def z4U1 (k : Nat) : List (Nat × Ent) := (0, ⟨mkU z4u0p z4u0x (z4u0t k) nilU⟩) :: z4U0 k
theorem z4U1_k (k : Nat) : UTab (z4U1 k) := (z4U0_k k).cons (mkU_nat nilU_nat)
noncomputable def z4u1d : UDef := ⟨[(0, none), (6, none), (30, none), (31, none)], [6, 7, 8, 31, 32, 33, 34, 35, 36, 37, 38, 39, 40, 41, 42, 43, 44, 45, 46, 47, 48, 49, 50, 51, 52, 53, 54, 55, 56, 57], [((.exit 1), [(6, none)])], []⟩
noncomputable def z4u1p : XPat := ⟨.normal, [(.ptr 0 []), (.tv (.int .i64)), (.tv (.int .i64)), (.tv (.int .i64))], [(.box (.tv YReader))]⟩
noncomputable def z4u1x : List XPat := [⟨(.exit 1), [(.tv (.int .i64))], [(.box (.tv YReader))]⟩]
noncomputable def inbits_Reader_Peeku1 (k : Nat) : Nat → (Int) → (Int) → (Int) → (DReader) → Option ((Int) × (DReader))
  | 0, _, _, _, _ => none
  | n + 1, x0, x1, x2, x3 =>
    bif (decide (x2 < x1)) then
      bif (inR (wr .i64 (Int.tdiv (wr .i64 (x3.2.1 + x2)) 8)) (List.length x3.1)) then
        bif (decide ((wr .u64 (wr .i64 (7 - (Int.tmod (wr .i64 (x3.2.1 + x2)) 8)))) < 0)) then
          none
        else
        Option.bind (inbits_Reader_Peeku1 k n (bitop .or .i64 (shlI .i64 x0 1) (wr .i64 (bitop .and .u8 (shrI .u8 ((UInt8.toNat (List.getD x3.1 (Int.toNat (wr .i64 (Int.tdiv (wr .i64 (x3.2.1 + x2)) 8))) 0) : Nat) : Int) (wr .u64 (wr .i64 (7 - (Int.tmod (wr .i64 (x3.2.1 + x2)) 8))))) 1))) x1 (wr .i64 (x2 + 1)) x3) fun r => some r
      else
        none
    else
    some (x0, x3)
noncomputable def z4u1b : AC :=
  (.seq (.region [(iO 32 (.bin .lss (.t 31) (.t 30)))])
  (.seq (.cond (.t 32)
  .skip
  (.exit 1))
  (.seq (.block 2 (.seq (.region [(iO 33 (.mv (.t 31))),
    (iO 7 (.mv (.t 33)))])
  (.seq (.region [(iO 34 (.mv (.t 0))),
    (iO 35 (.nilc (.t 34))),
    (iO 36 (.fad 1 1 (.t 35))),
    (iO 37 (.load false 1 (.t 36))),
    (iO 38 (.mv (.t 7))),
    (iO 39 (.bin .add (.t 37) (.t 38))),
    (iO 8 (.mv (.t 39)))])
  (.region [(iO 40 (.mv (.t 6))),
    (iO 41 (.bin .shl (.t 40) (.c (.tv (.int .u64) (1 : Int))))),
    (iO 42 (.mv (.t 0))),
    (iO 43 (.nilc (.t 42))),
    (iO 44 (.fad 0 0 (.t 43))),
    (iO 45 (.load false 1 (.t 44))),
    (iO 46 (.mv (.t 8))),
    (iO 47 (.bin .quo (.t 46) (nI 8))),
    (iO 48 (.ixs (.t 45) (.t 47))),
    (iO 49 (.mv (.t 8))),
    (iO 50 (.bin .rem (.t 49) (nI 8))),
    (iO 51 (.bin .sub (nI 7) (.t 50))),
    (iO 52 (.conv .u64 (.t 51))),
    (iO 53 (.bin .shr (.t 48) (.t 52))),
    (iO 54 (.bin .and (.t 53) (.c (.tv (.int .u8) (1 : Int))))),
    (iO 55 (.conv .i64 (.t 54))),
    (iO 56 (.bin .or (.t 41) (.t 55))),
    (iO 6 (.mv (.t 56)))]))))
  (.region [(iO 57 (.bin .add (.t 31) (nI 1))),
    (iO 31 (.mv (.t 57)))]))))
noncomputable def z4u1t (k n : Nat) (d : z4u1p.D) : Option (XD z4u1x) := inbits_Reader_Peeku1 k n d.1.2.1 d.1.2.2.1 d.1.2.2.2 d.2
theorem z4u1_k (k : Nat) : UOK P GL (mkU z4u1p z4u1x (z4u1t k k) nilU) z4u1d true z4u1b :=
  loop_typed (ud := z4u1d) (body := z4u1b) (uorc := uorT (z4U1 k)) hmo (T3_ok k).oo (z4U1_k k) (AllU.no (by kernel_rfl)) (t := z4u1t k) (fun d => by kernel_rfl) (fun n d => by kernel_rfl) k
noncomputable def z4U2 (k : Nat) : List (Nat × Ent) := (1, ⟨mkU z4u1p z4u1x (z4u1t k k) nilU⟩) :: z4U1 k
theorem z4U2_k (k : Nat) : UTab (z4U2 k) := (z4U1_k k).cons (mkU_nat nilU_nat)
noncomputable def inbits_Reader_Peek (k : Nat) (x0 : Int) (x1 : DReader) : Option (((Int) × ((Int) × (Unit))) × (DReader)) :=
  Option.bind (inbits_Reader_Peeku0 k x0 false) fun (v7 : Bool) =>
  bif v7 then
    some ((0, (1, ())), x1)
  else
  bif (decide ((wr .i64 ((wr .i64 (8 * ((List.length x1.1 : Nat) : Int))) - x1.2.1)) < x0)) then
    some ((0, (2, ())), x1)
  else
  Option.bind (inbits_Reader_Peeku1 k k 0 x0 0 x1) fun (v8 : (Int) × (DReader)) =>
  some ((v8.1, (0, ())), v8.2)
noncomputable def z4b : AC :=
  (.seq (.region [(iO 4 (.mv (nI 0))),
    (iO 5 (.mv (nI 0)))])
  (.seq (.block 0 (.seq (.seq (.region [(iO 10 (.mv (.t 0))),
    (iO 11 (.eqp false (.t 10) (.c .nilp))),
    (iO 9 (.mv (.t 11)))])
  (.unit 0 z4u0d false z4u0b))
  (.cond (.t 9)
  (.seq (.region [(iO 4 (.mv (nI 0))),
      (iO 5 (.mv (nI 1)))])
    .ret)
  (.seq (.draw [(iO 17 (.mv (.t 1))),
      (iO 18 (.mv (.t 0))),
      (iOa 19 (.nilc (.t 18)) [1]),
      (iOa 20 (.fad 0 0 (.t 19)) [1, 2]),
      (iOa 21 (.load false 1 (.t 20)) [1, 2, 3]),
      (iOa 22 (.lens (.t 21)) (rg [1, 4])),
      (iOa 23 (.bin .mul (nI 8) (.t 22)) (rg [1, 5])),
      (iO 24 (.mv (.t 0))),
      (iOa 25 (.nilc (.t 24)) [7]),
      (iOa 26 (.fad 1 1 (.t 25)) [7, 8]),
      (iOa 27 (.load false 1 (.t 26)) [7, 8, 9]),
      (iOa 28 (.bin .sub (.t 23) (.t 27)) (rg [1, 10])),
      (iOa 29 (.bin .gtr (.t 17) (.t 28)) (rg [0, 12])),
      (iOa 16 (.mv (.t 29)) (rg [0, 13]))])
    (.cond (.t 16)
    (.seq (.region [(iO 4 (.mv (nI 0))),
        (iO 5 (.mv (nI 2)))])
      .ret)
    .skip)))))
  (.seq (.region [(iO 6 (.mv (nI 0)))])
  (.seq (.seq (.region [(iO 30 (.mv (.t 1))),
    (iO 31 (.mv (nI 0)))])
  (.block 1 (.unit 1 z4u1d true z4u1b)))
  (.seq (.region [(iO 58 (.mv (.t 6))),
    (iO 4 (.mv (.t 58))),
    (iO 5 (.mv (nI 0)))])
  .ret)))))
noncomputable def z4f : FDef := ⟨2, 59, [.tmp 4 none, .tmp 5 none], z4b⟩
noncomputable def z4p : XPat := ⟨.normal, [(.ptr 0 []), (.tv (.int .i64))], [(.box (.tv YReader))]⟩
noncomputable def z4x : List XPat := [⟨.ret, [(.tup (.cons (.tv (.int .i64)) (.cons (.tv (.int .i64)) .nil)))], [(.box (.tv YReader))]⟩]
noncomputable def z4t (k : Nat) (d : z4p.D) : Option (XD z4x) := inbits_Reader_Peek k d.1.2 d.2
noncomputable def z4_e (k : Nat) : UEntry := mkU z4p z4x (z4t k) nilU
theorem z4_n (k : Nat) : UNat (z4_e k) := mkU_nat nilU_nat
theorem z4_fu (k : Nat) : FU P GL 95 (z4_e k) :=
  fn_typed (uorc := uorT (z4U2 k)) hmo (T3_ok k).oo (z4U2_k k) (fd := z4f) (AllU.seq (AllU.no (by kernel_rfl)) (AllU.seq (AllU.block (AllU.seq (AllU.seq (AllU.no (by kernel_rfl)) (AllU.unit (uorc := uorT (z4U2 k)) (u := 0) (z4u0_k k))) (AllU.no (by kernel_rfl)))) (AllU.seq (AllU.no (by kernel_rfl)) (AllU.seq (AllU.seq (AllU.no (by kernel_rfl)) (AllU.block (AllU.unit (uorc := uorT (z4U2 k)) (u := 1) (z4u1_k k)))) (AllU.no (by kernel_rfl)))))) (fn := Tryd.f95) (by kernel_rfl) (by kernel_rfl) (fun d => by kernel_rfl) FU_nil
noncomputable def T4 (k : Nat) : List (Nat × Ent) := (95, ⟨z4_e k⟩) :: T3 k
theorem T4_ok (k : Nat) : TabOK P GL (T4 k) := (T3_ok k).cons (z4_fu k) (z4_n k)
/-! ### (*overspill.inbits.Reader).Take -/
noncomputable def z5U0 (_ : Nat) : List (Nat × Ent) := []
theorem z5U0_k (k : Nat) : UTab (z5U0 k) := UTab.nil
noncomputable def inbits_Reader_Take (k : Nat) (x0 : Int) (x1 : DReader) : Option (((Int) × ((Int) × (Unit))) × (DReader)) :=
  Option.bind (inbits_Reader_Peek k x0 x1) fun (v9 : ((Int) × ((Int) × (Unit))) × (DReader)) =>
  bif (decide (v9.1.2.1 = 0)) then
    some ((v9.1.1, (v9.1.2.1, ())), (v9.2.1, ((wr .i64 (v9.2.2.1 + x0)), v9.2.2.2)))
  else
  some ((v9.1.1, (v9.1.2.1, ())), v9.2)
noncomputable def z5b : AC :=
  (.seq (.region [(iO 4 (.mv (nI 0))),
    (iO 5 (.mv (nI 0)))])
  (.seq (.region [(iO 9 (.mv (.t 0))),
    (iO 10 (.mv (.t 1))),
    (iC 11 95 [((.t 9), none), ((.t 10), none)]),
    (iO 8 (.mv (.t 11))),
    (iO 12 (.ext (.t 8) 0)),
    (iO 13 (.ext (.t 8) 1)),
    (iO 6 (.mv (.t 12))),
    (iO 7 (.mv (.t 13)))])
  (.seq (.seq (.region [(iO 14 (.mv (.t 7))),
    (iO 15 (.bin .eql (.t 14) (nI 0)))])
  (.cond (.t 15)
  (.region [(iO 16 (.mv (.t 0))),
      (iO 17 (.nilc (.t 16))),
      (iO 18 (.fad 1 1 (.t 17))),
      (iO 19 (.load false 1 (.t 18))),
      (iO 20 (.mv (.t 1))),
      (iO 21 (.bin .add (.t 19) (.t 20))),
      (iO 22 (.nilc (.t 16))),
      (iO 23 (.fad 1 1 (.t 22))),
      (iS (.store 1 none (.t 23) (.t 21)))])
  .skip))
  (.seq (.region [(iO 24 (.mv (.t 6))),
    (iO 25 (.mv (.t 7))),
    (iO 4 (.mv (.t 24))),
    (iO 5 (.mv (.t 25)))])
  .ret))))
noncomputable def z5f : FDef := ⟨2, 26, [.tmp 4 none, .tmp 5 none], z5b⟩
noncomputable def z5p : XPat := ⟨.normal, [(.ptr 0 []), (.tv (.int .i64))], [(.box (.tv YReader))]⟩
noncomputable def z5x : List XPat := [⟨.ret, [(.tup (.cons (.tv (.int .i64)) (.cons (.tv (.int .i64)) .nil)))], [(.box (.tv YReader))]⟩]
noncomputable def z5t (k : Nat) (d : z5p.D) : Option (XD z5x) := inbits_Reader_Take k d.1.2 d.2
noncomputable def z5_e (k : Nat) : UEntry := mkU z5p z5x (z5t k) nilU
theorem z5_n (k : Nat) : UNat (z5_e k) := mkU_nat nilU_nat
theorem z5_fu (k : Nat) : FU P GL 72 (z5_e k) :=
  fn_typed (uorc := uorT (z5U0 k)) hmo (T4_ok k).oo (z5U0_k k) (fd := z5f) (AllU.no (by kernel_rfl)) (fn := Tryd.f72) (by kernel_rfl) (by kernel_rfl) (fun d => by kernel_rfl) FU_nil
noncomputable def T5 (k : Nat) : List (Nat × Ent) := (72, ⟨z5_e k⟩) :: T4 k
theorem T5_ok (k : Nat) : TabOK P GL (T5 k) := (T4_ok k).cons (z5_fu k) (z5_n k)
/-! ### (*overspill.cellin.reader).bit -/
noncomputable def z6U0 (_ : Nat) : List (Nat × Ent) := []
theorem z6U0_k (k : Nat) : UTab (z6U0 k) := UTab.nil
noncomputable def cellin_reader_bit (k : Nat) (x0 : Int) (x1 : DReader) : Option ((Int) × (((Unit) × ((Int) × (Unit))) × (DReader))) :=
  bif (!(decide (x0 = 0))) then
    some (0, (((), (x0, ())), x1))
  else
  Option.bind (inbits_Reader_Take k 1 x1) fun (v10 : ((Int) × ((Int) × (Unit))) × (DReader)) =>
  some (v10.1.1, (((), (v10.1.2.1, ())), v10.2))
noncomputable def z6b : AC :=
  (.seq (.region [(iO 2 (.mv (nI 0)))])
  (.seq (.seq (.region [(iO 5 (.mv (.t 0))),
    (iO 6 (.nilc (.t 5))),
    (iO 7 (.fad 1 1 (.t 6))),
    (iO 8 (.load false 1 (.t 7))),
    (iO 9 (.bin .neq (.t 8) (nI 0)))])
  (.cond (.t 9)
  (.seq (.region [(iO 2 (.mv (nI 0)))])
    .ret)
  .skip))
  (.seq (.region [(iO 11 (.mv (.t 0))),
    (iO 12 (.nilc (.t 11))),
    (iO 13 (.fad 0 0 (.t 12))),
    (iO 14 (.load false 1 (.t 13))),
    (iC 15 72 [((.t 14), none), ((nI 1), none)]),
    (iO 10 (.mv (.t 15))),
    (iO 16 (.ext (.t 10) 0)),
    (iO 17 (.ext (.t 10) 1)),
    (iO 3 (.mv (.t 16))),
    (iO 4 (.mv (.t 17)))])
  (.seq (.region [(iO 18 (.mv (.t 0))),
    (iO 19 (.mv (.t 4))),
    (iO 20 (.nilc (.t 18))),
    (iO 21 (.fad 1 1 (.t 20))),
    (iS (.store 1 none (.t 21) (.t 19)))])
  (.seq (.region [(iO 22 (.mv (.t 3))),
    (iO 2 (.mv (.t 22)))])
  .ret)))))
noncomputable def z6f : FDef := ⟨1, 23, [.tmp 2 none], z6b⟩
noncomputable def z6p : XPat := ⟨.normal, [(.ptr 0 [])], [(.box (.cons (.ptr 1 []) (.cons (.tv (.int .i64)) .nil))), (.box (.tv YReader))]⟩
noncomputable def z6x : List XPat := [⟨.ret, [(.tv (.int .i64))], [(.box (.cons (.ptr 1 []) (.cons (.tv (.int .i64)) .nil))), (.box (.tv YReader))]⟩]
noncomputable def z6t (k : Nat) (d : z6p.D) : Option (XD z6x) := cellin_reader_bit k d.2.1.2.1 d.2.2
noncomputable def z6_e (k : Nat) : UEntry := mkU z6p z6x (z6t k) nilU
theorem z6_n (k : Nat) : UNat (z6_e k) := mkU_nat nilU_nat
theorem z6_fu (k : Nat) : FU P GL 50 (z6_e k) :=
  fn_typed (uorc := uorT (z6U0 k)) hmo (T5_ok k).oo (z6U0_k k) (fd := z6f) (AllU.no (by kernel_rfl)) (fn := Tryd.f50) (by kernel_rfl) (by kernel_rfl) (fun d => by kernel_rfl) FU_nil
noncomputable def T6 (k : Nat) : List (Nat × Ent) := (50, ⟨z6_e k⟩) :: T5 k
theorem T6_ok (k : Nat) : TabOK P GL (T6 k) := (T5_ok k).cons (z6_fu k) (z6_n k)
/-! ### overspill.mcbpc.row -/
noncomputable def z7U0 (_ : Nat) : List (Nat × Ent) := []
theorem z7U0_k (k : Nat) : UTab (z7U0 k) := UTab.nil
noncomputable def mcbpc_row (k : Nat) (x0 : Bool) (x1 : Int) : Option (List UInt8) :=
  bif (!x0) then
    bif (decide (x1 = 3)) then
      some ([49, 32, 48, 48, 49, 32, 48, 49, 48, 32, 48, 49, 49] : List UInt8)
    else
    bif (decide (x1 = 4)) then
      some ([48, 48, 48, 49, 32, 48, 48, 48, 48, 48, 49, 32, 48, 48, 48, 48, 49, 48, 32, 48, 48, 48, 48, 49, 49] : List UInt8)
    else
    bif (decide (x1 = 5)) then
      some ([48, 48, 48, 48, 48, 48, 48, 48, 49] : List UInt8)
    else
    some ([] : List UInt8)
  else
  bif (decide (x1 = 0)) then
    some ([49, 32, 48, 48, 49, 49, 32, 48, 48, 49, 48, 32, 48, 48, 48, 49, 48, 49] : List UInt8)
  else
  bif (decide (x1 = 1)) then
    some ([48, 49, 49, 32, 48, 48, 48, 48, 49, 49, 49, 32, 48, 48, 48, 48, 49, 49, 48, 32, 48, 48, 48, 48, 48, 48, 49, 48, 49] : List UInt8)
  else
  bif (decide (x1 = 2)) then
    some ([48, 49, 48, 32, 48, 48, 48, 48, 49, 48, 49, 32, 48, 48, 48, 48, 49, 48, 48, 32, 48, 48, 48, 48, 48, 49, 48, 49] : List UInt8)
  else
  bif (decide (x1 = 3)) then
    some ([48, 48, 48, 49, 49, 32, 48, 48, 48, 48, 48, 49, 48, 48, 32, 48, 48, 48, 48, 48, 48, 49, 49, 32, 48, 48, 48, 48, 48, 49, 49] : List UInt8)
  else
  bif (decide (x1 = 4)) then
    some ([48, 48, 48, 49, 48, 48, 32, 48, 48, 48, 48, 48, 48, 49, 48, 48, 32, 48, 48, 48, 48, 48, 48, 48, 49, 49, 32, 48, 48, 48, 48, 48, 48, 48, 49, 48] : List UInt8)
  else
  bif (decide (x1 = 5)) then
    some ([48, 48, 48, 48, 48, 48, 48, 48, 49] : List UInt8)
  else
  some ([] : List UInt8)
noncomputable def z7b : AC :=
  (.seq (.region [(iO 4 (.mv (.c (.tv .str (([] : List UInt8) : List UInt8)))))])
  (.seq (.seq (.region [(iO 5 (.mv (.t 0))),
    (iO 6 (.un .not (.t 5)))])
  (.cond (.t 6)
  (.seq (.seq (.region [(iO 7 (.mv (.t 1)))])
    (.block 0 (.seq (.region [(iO 9 (.bin .eql (.t 7) (nI 3))),
      (iO 8 (.mv (.t 9)))])
    (.cond (.t 8)
    (.seq (.region [(iO 4 (.mv (.c (.tv .str (([49, 32, 48, 48, 49, 32, 48, 49, 48, 32, 48, 49, 49] : List UInt8) : List UInt8)))))])
      .ret)
    (.seq (.region [(iO 11 (.bin .eql (.t 7) (nI 4))),
        (iO 10 (.mv (.t 11)))])
      (.cond (.t 10)
      (.seq (.region [(iO 4 (.mv (.c (.tv .str (([48, 48, 48, 49, 32, 48, 48, 48, 48, 48, 49, 32, 48, 48, 48, 48, 49, 48, 32, 48, 48, 48, 48, 49, 49] : List UInt8) : List UInt8)))))])
        .ret)
      (.seq (.region [(iO 13 (.bin .eql (.t 7) (nI 5))),
          (iO 12 (.mv (.t 13)))])
        (.cond (.t 12)
        (.seq (.region [(iO 4 (.mv (.c (.tv .str (([48, 48, 48, 48, 48, 48, 48, 48, 49] : List UInt8) : List UInt8)))))])
          .ret)
        .skip))))))))
    (.seq (.region [(iO 4 (.mv (.c (.tv .str (([] : List UInt8) : List UInt8)))))])
    .ret))
  .skip))
  (.seq (.seq (.region [(iO 14 (.mv (.t 1)))])
  (.block 1 (.seq (.region [(iO 16 (.bin .eql (.t 14) (nI 0))),
    (iO 15 (.mv (.t 16)))])
  (.cond (.t 15)
  (.seq (.region [(iO 4 (.mv (.c (.tv .str (([49, 32, 48, 48, 49, 49, 32, 48, 48, 49, 48, 32, 48, 48, 48, 49, 48, 49] : List UInt8) : List UInt8)))))])
    .ret)
  (.seq (.region [(iO 18 (.bin .eql (.t 14) (nI 1))),
      (iO 17 (.mv (.t 18)))])
    (.cond (.t 17)
    (.seq (.region [(iO 4 (.mv (.c (.tv .str (([48, 49, 49, 32, 48, 48, 48, 48, 49, 49, 49, 32, 48, 48, 48, 48, 49, 49, 48, 32, 48, 48, 48, 48, 48, 48, 49, 48, 49] : List UInt8) : List UInt8)))))])
      .ret)
    (.seq (.region [(iO 20 (.bin .eql (.t 14) (nI 2))),
        (iO 19 (.mv (.t 20)))])
      (.cond (.t 19)
      (.seq (.region [(iO 4 (.mv (.c (.tv .str (([48, 49, 48, 32, 48, 48, 48, 48, 49, 48, 49, 32, 48, 48, 48, 48, 49, 48, 48, 32, 48, 48, 48, 48, 48, 49, 48, 49] : List UInt8) : List UInt8)))))])
        .ret)
      (.seq (.region [(iO 22 (.bin .eql (.t 14) (nI 3))),
          (iO 21 (.mv (.t 22)))])
        (.cond (.t 21)
        (.seq (.region [(iO 4 (.mv (.c (.tv .str (([48, 48, 48, 49, 49, 32, 48, 48, 48, 48, 48, 49, 48, 48, 32, 48, 48, 48, 48, 48, 48, 49, 49, 32, 48, 48, 48, 48, 48, 49, 49] : List UInt8) : List UInt8)))))])
          .ret)
        (.seq (.region [(iO 24 (.bin .eql (.t 14) (nI 4))),
            (iO 23 (.mv (.t 24)))])
          (.cond (.t 23)
          (.seq (.region [(iO 4 (.mv (.c (.tv .str (([48, 48, 48, 49, 48, 48, 32, 48, 48, 48, 48, 48, 48, 49, 48, 48, 32, 48, 48, 48, 48, 48, 48, 48, 49, 49, 32, 48, 48, 48, 48, 48, 48, 48, 49, 48] : List UInt8) : List UInt8)))))])
            .ret)
          (.seq (.region [(iO 26 (.bin .eql (.t 14) (nI 5))),
              (iO 25 (.mv (.t 26)))])
            (.cond (.t 25)
            (.seq (.region [(iO 4 (.mv (.c (.tv .str (([48, 48, 48, 48, 48, 48, 48, 48, 49] : List UInt8) : List UInt8)))))])
              .ret)
            .skip))))))))))))))
  (.seq (.region [(iO 4 (.mv (.c (.tv .str (([] : List UInt8) : List UInt8)))))])
  .ret))))
noncomputable def z7f : FDef := ⟨2, 27, [.tmp 4 none], z7b⟩
noncomputable def z7p : XPat := ⟨.normal, [(.tv .bool), (.tv (.int .i64))], []⟩
noncomputable def z7x : List XPat := [⟨.ret, [(.tv .str)], []⟩]
noncomputable def z7t (k : Nat) (d : z7p.D) : Option (XD z7x) := mcbpc_row k d.1 d.2
noncomputable def z7_e (k : Nat) : UEntry := mkU z7p z7x (z7t k) nilU
theorem z7_n (k : Nat) : UNat (z7_e k) := mkU_nat nilU_nat
theorem z7_fu (k : Nat) : FU P GL 89 (z7_e k) :=
  fn_typed (uorc := uorT (z7U0 k)) hmo (T6_ok k).oo (z7U0_k k) (fd := z7f) (AllU.no (by kernel_rfl)) (fn := Tryd.f89) (by kernel_rfl) (by kernel_rfl) (fun d => by kernel_rfl) FU_nil
noncomputable def T7 (k : Nat) : List (Nat × Ent) := (89, ⟨z7_e k⟩) :: T6 k
theorem T7_ok (k : Nat) : TabOK P GL (T7 k) := (T6_ok k).cons (z7_fu k) (z7_n k)
/-! ### strings.Fields -/
noncomputable def z8U0 (_ : Nat) : List (Nat × Ent) := []
theorem z8U0_k (k : Nat) : UTab (z8U0 k) := UTab.nil
noncomputable def z8u0d : UDef := ⟨[(0, none), (3, none), (4, none), (5, none), (6, none)], [3, 4, 5, 6, 7, 8, 13, 14, 15, 16, 17, 18, 19, 20, 21, 22, 23, 24, 25, 26, 27, 28, 29, 30, 31, 32, 33, 34, 35], [((.exit 0), [(3, none), (5, none)])], []⟩
noncomputable def z8u0p : XPat := ⟨.normal, [(.tv .str), (.tv (.int .i64)), (.tv (.int .i64)), (.tv (.int .u8)), (.tv (.int .i64))], []⟩
noncomputable def z8u0x : List XPat := [⟨(.exit 0), [(.tv (.int .i64)), (.tv (.int .u8))], []⟩]
noncomputable def strings_Fieldsu0 (k : Nat) : Nat → (List UInt8) → (Int) → (Int) → (Int) → (Int) → Option ((Int) × (Int))
  | 0, _, _, _, _, _ => none
  | n + 1, x0, x1, x2, x3, x4 =>
    bif (decide (x4 < ((List.length x0 : Nat) : Int))) then
      bif (inR x4 (List.length x0)) then
        bif (inR ((UInt8.toNat (List.getD x0 (Int.toNat x4) 0) : Nat) : Int) 256) then
          Option.bind (strings_Fieldsu0 k n x0 (wr .i64 (x1 + (bitop .and .i64 x2 (bitop .xor .i64 (-1) (wr .i64 (List.getD tbl3 (Int.toNat ((UInt8.toNat (List.getD x0 (Int.toNat x4) 0) : Nat) : Int)) 0)))))) (wr .i64 (List.getD tbl3 (Int.toNat ((UInt8.toNat (List.getD x0 (Int.toNat x4) 0) : Nat) : Int)) 0)) (bitop .or .u8 x3 ((UInt8.toNat (List.getD x0 (Int.toNat x4) 0) : Nat) : Int)) (wr .i64 (x4 + 1))) fun r => some r
        else
          none
      else
        none
    else
    some (x1, x3)
noncomputable def z8u0b : AC :=
  (.seq (.seq (.region [(iO 13 (.mv (.t 6))),
    (iO 14 (.mv (.t 0))),
    (iO 15 (.lens (.t 14))),
    (iO 16 (.bin .lss (.t 13) (.t 15)))])
  (.cond (.t 16)
  .skip
  (.exit 0)))
  (.seq (.block 1 (.seq (.region [(iO 19 (.mv (.t 0))),
    (iO 20 (.mv (.t 6))),
    (iO 21 (.ixs (.t 19) (.t 20))),
    (iO 7 (.mv (.t 21)))])
  (.seq (.region [(iO 22 (.mv (.t 5))),
    (iO 23 (.mv (.t 7))),
    (iO 24 (.bin .or (.t 22) (.t 23))),
    (iO 5 (.mv (.t 24)))])
  (.seq (.region [(iO 25 (.mv (.t 7))),
    (iO 26 (.iad 256 1 (.g 3) (.t 25))),
    (iO 27 (.load false 1 (.t 26))),
    (iO 28 (.conv .i64 (.t 27))),
    (iO 8 (.mv (.t 28)))])
  (.seq (.region [(iO 29 (.mv (.t 3))),
    (iO 30 (.mv (.t 4))),
    (iO 31 (.mv (.t 8))),
    (iO 32 (.un .xor (.t 31))),
    (iO 33 (.bin .and (.t 30) (.t 32))),
    (iO 34 (.bin .add (.t 29) (.t 33))),
    (iO 3 (.mv (.t 34)))])
  (.region [(iO 35 (.mv (.t 8))),
    (iO 4 (.mv (.t 35)))]))))))
  (.region [(iO 17 (.mv (.t 6))),
    (iO 18 (.bin .add (.t 17) (nI 1))),
    (iO 6 (.mv (.t 18)))])))
noncomputable def z8u0t (k n : Nat) (d : z8u0p.D) : Option (XD z8u0x) := strings_Fieldsu0 k n d.1 d.2.1 d.2.2.1 d.2.2.2.1 d.2.2.2.2
theorem z8u0_k (k : Nat) : UOK P GL (mkU z8u0p z8u0x (z8u0t k k) nilU) z8u0d true z8u0b :=
  loop_typed (ud := z8u0d) (body := z8u0b) (uorc := uorT (z8U0 k)) hmo (T7_ok k).oo (z8U0_k k) (AllU.no (by kernel_rfl)) (t := z8u0t k) (fun d => by kernel_rfl) (fun n d => by kernel_rfl) k
noncomputable def z8U1 (k : Nat) : List (Nat × Ent) := (0, ⟨mkU z8u0p z8u0x (z8u0t k k) nilU⟩) :: z8U0 k
theorem z8U1_k (k : Nat) : UTab (z8U1 k) := (z8U0_k k).cons (mkU_nat nilU_nat)
noncomputable def z8u1d : UDef := ⟨[(0, none), (12, none)], [12, 42, 43, 44, 45, 46, 47, 48, 49, 50, 51, 52, 53, 54, 55], [((.exit 2), [(12, none)])], []⟩
noncomputable def z8u1p : XPat := ⟨.normal, [(.tv .str), (.tv (.int .i64))], []⟩
noncomputable def z8u1x : List XPat := [⟨(.exit 2), [(.tv (.int .i64))], []⟩]
noncomputable def strings_Fieldsu1 (k : Nat) : Nat → (List UInt8) → (Int) → Option (Int)
  | 0, _, _ => none
  | n + 1, x0, x1 =>
    bif (decide (x1 < ((List.length x0 : Nat) : Int))) then
      bif (inR x1 (List.length x0)) then
        bif (inR ((UInt8.toNat (List.getD x0 (Int.toNat x1) 0) : Nat) : Int) 256) then
          bif (!(decide ((List.getD tbl3 (Int.toNat ((UInt8.toNat (List.getD x0 (Int.toNat x1) 0) : Nat) : Int)) 0) = 0))) then
            Option.bind (strings_Fieldsu1 k n x0 (wr .i64 (x1 + 1))) fun r => some r
          else
          some x1
        else
          none
      else
        none
    else
    some x1
noncomputable def z8u1b : AC :=
  (.seq (.seq (.region [(iO 42 (.mv (.t 12))),
    (iO 43 (.mv (.t 0))),
    (iO 44 (.lens (.t 43))),
    (iO 45 (.bin .lss (.t 42) (.t 44))),
    (iO 46 (.mv (.t 45))),
    ⟨some 47, some (4, 46, true), (.op (.mv (.t 0))), []⟩,
    ⟨some 48, some (4, 46, true), (.op (.mv (.t 12))), []⟩,
    ⟨some 49, some (4, 46, true), (.op (.ixs (.t 47) (.t 48))), []⟩,
    ⟨some 50, some (4, 46, true), (.op (.iad 256 1 (.g 3) (.t 49))), []⟩,
    ⟨some 51, some (4, 46, true), (.op (.load false 1 (.t 50))), []⟩,
    ⟨some 52, some (4, 46, true), (.op (.bin .neq (.t 51) (.c (.tv (.int .u8) (0 : Int))))), []⟩,
    (iO 53 (.pick (.t 46) (.t 52) (.c (.tv .bool (false : Bool)))))])
  (.cond (.t 53)
  .skip
  (.exit 2)))
  (.block 3 (.region [(iO 54 (.mv (.t 12))),
    (iO 55 (.bin .add (.t 54) (nI 1))),
    (iO 12 (.mv (.t 55)))])))
noncomputable def z8u1t (k n : Nat) (d : z8u1p.D) : Option (XD z8u1x) := strings_Fieldsu1 k n d.1 d.2
theorem z8u1_k (k : Nat) : UOK P GL (mkU z8u1p z8u1x (z8u1t k k) nilU) z8u1d true z8u1b :=
  loop_typed (ud := z8u1d) (body := z8u1b) (uorc := uorT (z8U1 k)) hmo (T7_ok k).oo (z8U1_k k) (AllU.no (by kernel_rfl)) (t := z8u1t k) (fun d => by kernel_rfl) (fun n d => by kernel_rfl) k
noncomputable def z8U2 (k : Nat) : List (Nat × Ent) := (1, ⟨mkU z8u1p z8u1x (z8u1t k k) nilU⟩) :: z8U1 k
theorem z8U2_k (k : Nat) : UTab (z8U2 k) := (z8U1_k k).cons (mkU_nat nilU_nat)
noncomputable def z8u2d : UDef := ⟨[(0, none), (12, none)], [12, 80, 81, 82, 83, 84, 85, 86, 87, 88, 89, 90, 91, 92, 93], [((.exit 6), [(12, none)])], []⟩
noncomputable def z8u2p : XPat := ⟨.normal, [(.tv .str), (.tv (.int .i64))], []⟩
noncomputable def z8u2x : List XPat := [⟨(.exit 6), [(.tv (.int .i64))], []⟩]
noncomputable def strings_Fieldsu2 (k : Nat) : Nat → (List UInt8) → (Int) → Option (Int)
  | 0, _, _ => none
  | n + 1, x0, x1 =>
    bif (decide (x1 < ((List.length x0 : Nat) : Int))) then
      bif (inR x1 (List.length x0)) then
        bif (inR ((UInt8.toNat (List.getD x0 (Int.toNat x1) 0) : Nat) : Int) 256) then
          bif (!(decide ((List.getD tbl3 (Int.toNat ((UInt8.toNat (List.getD x0 (Int.toNat x1) 0) : Nat) : Int)) 0) = 0))) then
            Option.bind (strings_Fieldsu2 k n x0 (wr .i64 (x1 + 1))) fun r => some r
          else
          some x1
        else
          none
      else
        none
    else
    some x1
noncomputable def z8u2b : AC :=
  (.seq (.seq (.region [(iO 80 (.mv (.t 12))),
    (iO 81 (.mv (.t 0))),
    (iO 82 (.lens (.t 81))),
    (iO 83 (.bin .lss (.t 80) (.t 82))),
    (iO 84 (.mv (.t 83))),
    ⟨some 85, some (4, 84, true), (.op (.mv (.t 0))), []⟩,
    ⟨some 86, some (4, 84, true), (.op (.mv (.t 12))), []⟩,
    ⟨some 87, some (4, 84, true), (.op (.ixs (.t 85) (.t 86))), []⟩,
    ⟨some 88, some (4, 84, true), (.op (.iad 256 1 (.g 3) (.t 87))), []⟩,
    ⟨some 89, some (4, 84, true), (.op (.load false 1 (.t 88))), []⟩,
    ⟨some 90, some (4, 84, true), (.op (.bin .neq (.t 89) (.c (.tv (.int .u8) (0 : Int))))), []⟩,
    (iO 91 (.pick (.t 84) (.t 90) (.c (.tv .bool (false : Bool)))))])
  (.cond (.t 91)
  .skip
  (.exit 6)))
  (.block 7 (.region [(iO 92 (.mv (.t 12))),
    (iO 93 (.bin .add (.t 92) (nI 1))),
    (iO 12 (.mv (.t 93)))])))
noncomputable def z8u2t (k n : Nat) (d : z8u2p.D) : Option (XD z8u2x) := strings_Fieldsu2 k n d.1 d.2
theorem z8u2_k (k : Nat) : UOK P GL (mkU z8u2p z8u2x (z8u2t k k) nilU) z8u2d true z8u2b :=
  loop_typed (ud := z8u2d) (body := z8u2b) (uorc := uorT (z8U2 k)) hmo (T7_ok k).oo (z8U2_k k) (AllU.no (by kernel_rfl)) (t := z8u2t k) (fun d => by kernel_rfl) (fun n d => by kernel_rfl) k
noncomputable def z8U3 (k : Nat) : List (Nat × Ent) := (2, ⟨mkU z8u2p z8u2x (z8u2t k k) nilU⟩) :: z8U2 k
theorem z8U3_k (k : Nat) : UTab (z8U3 k) := (z8U2_k k).cons (mkU_nat nilU_nat)
noncomputable def z8u3d : UDef := ⟨[(0, none), (9, none), (10, none), (11, none), (12, none)], [10, 11, 12, 57, 58, 59, 60, 61, 62, 63, 64, 65, 66, 67, 68, 69, 70, 71, 72, 73, 74, 75, 76, 77, 78, 79, 80, 81, 82, 83, 84, 85, 86, 87, 88, 89, 90, 91, 92, 93, 94], [((.exit 4), [(9, none), (10, none), (11, none)])], []⟩
noncomputable def z8u3p : XPat := ⟨.normal, [(.tv .str), (.row 0), (.tv (.int .i64)), (.tv (.int .i64)), (.tv (.int .i64))], [(.row .str false)]⟩
noncomputable def z8u3x : List XPat := [⟨(.exit 4), [(.row 0), (.tv (.int .i64)), (.tv (.int .i64))], [(.row .str false)]⟩]
noncomputable def strings_Fieldsu3 (k : Nat) : Nat → (List UInt8) → (Int) → (Int) → (Int) → (List (List UInt8)) → Option (((Unit) × ((Int) × (Int))) × (List (List UInt8)))
  | 0, _, _, _, _, _ => none
  | n + 1, x0, x1, x2, x3, x4 =>
    bif (decide (x3 < ((List.length x0 : Nat) : Int))) then
      bif (inR x3 (List.length x0)) then
        bif (inR ((UInt8.toNat (List.getD x0 (Int.toNat x3) 0) : Nat) : Int) 256) then
          bif (decide ((List.getD tbl3 (Int.toNat ((UInt8.toNat (List.getD x0 (Int.toNat x3) 0) : Nat) : Int)) 0) = 0)) then
            Option.bind (strings_Fieldsu3 k n x0 x1 x2 (wr .i64 (x3 + 1)) x4) fun r => some r
          else
          bif (decide ((0 : Int) ≤ x2 ∧ x2 ≤ x3 ∧ x3 ≤ (((List.length x0) : Nat) : Int))) then
            bif (inR x1 (List.length x4)) then
              Option.bind (strings_Fieldsu2 k k x0 (wr .i64 (x3 + 1))) fun (v19 : Int) =>
              Option.bind (strings_Fieldsu3 k n x0 (wr .i64 (x1 + 1)) v19 v19 (List.set x4 (Int.toNat x1) (List.drop (Int.toNat x2) (List.take (Int.toNat x3) x0)))) fun r => some r
            else
              none
          else
            none
        else
          none
      else
        none
    else
    some (((), (x1, x2)), x4)
noncomputable def z8u3b : AC :=
  (.seq (.seq (.region [(iO 57 (.mv (.t 12))),
    (iO 58 (.mv (.t 0))),
    (iO 59 (.lens (.t 58))),
    (iO 60 (.bin .lss (.t 57) (.t 59)))])
  (.cond (.t 60)
  .skip
  (.exit 4)))
  (.block 5 (.seq (.seq (.region [(iO 61 (.mv (.t 0))),
    (iO 62 (.mv (.t 12))),
    (iO 63 (.ixs (.t 61) (.t 62))),
    (iO 64 (.iad 256 1 (.g 3) (.t 63))),
    (iO 65 (.load false 1 (.t 64))),
    (iO 66 (.bin .eql (.t 65) (.c (.tv (.int .u8) (0 : Int)))))])
  (.cond (.t 66)
  (.seq (.region [(iO 67 (.mv (.t 12))),
      (iO 68 (.bin .add (.t 67) (nI 1))),
      (iO 12 (.mv (.t 68)))])
    (.exit 5))
  .skip))
  (.seq (.region [(iO 69 (.mv (.t 9))),
    (iO 70 (.mv (.t 10))),
    (iO 71 (.mv (.t 0))),
    (iO 72 (.mv (.t 11))),
    (iO 73 (.mv (.t 12))),
    (iO 74 (.slis (.t 71) (some (.t 72)) (some (.t 73)))),
    (iO 75 (.iads .str (.t 69) (.t 70))),
    (iS (.store 1 none (.t 75) (.t 74)))])
  (.seq (.region [(iO 76 (.mv (.t 10))),
    (iO 77 (.bin .add (.t 76) (nI 1))),
    (iO 10 (.mv (.t 77)))])
  (.seq (.region [(iO 78 (.mv (.t 12))),
    (iO 79 (.bin .add (.t 78) (nI 1))),
    (iO 12 (.mv (.t 79)))])
  (.seq (.block 6 (.unit 2 z8u2d true z8u2b))
  (.region [(iO 94 (.mv (.t 12))),
    (iO 11 (.mv (.t 94)))]))))))))
noncomputable def z8u3t (k n : Nat) (d : z8u3p.D) : Option (XD z8u3x) := strings_Fieldsu3 k n d.1.1 d.1.2.2.1 d.1.2.2.2.1 d.1.2.2.2.2 d.2
theorem z8u3_k (k : Nat) : UOK P GL (mkU z8u3p z8u3x (z8u3t k k) nilU) z8u3d true z8u3b :=
  loop_typed (ud := z8u3d) (body := z8u3b) (uorc := uorT (z8U3 k)) hmo (T7_ok k).oo (z8U3_k k) (AllU.seq (AllU.no (by kernel_rfl)) (AllU.block (AllU.seq (AllU.no (by kernel_rfl)) (AllU.seq (AllU.no (by kernel_rfl)) (AllU.seq (AllU.no (by kernel_rfl)) (AllU.seq (AllU.no (by kernel_rfl)) (AllU.seq (AllU.block (AllU.unit (uorc := uorT (z8U3 k)) (u := 2) (z8u2_k k))) (AllU.no (by kernel_rfl))))))))) (t := z8u3t k) (fun d => by kernel_rfl) (fun n d => by kernel_rfl) k
noncomputable def z8U4 (k : Nat) : List (Nat × Ent) := (3, ⟨mkU z8u3p z8u3x (z8u3t k k) nilU⟩) :: z8U3 k
theorem z8U4_k (k : Nat) : UTab (z8U4 k) := (z8U3_k k).cons (mkU_nat nilU_nat)
noncomputable def strings_Fields (k : Nat) (x0 : List UInt8) : Option (List (List UInt8)) :=
  Option.bind (strings_Fieldsu0 k k x0 0 1 0 0) fun (v16 : (Int) × (Int)) =>
  bif (decide ((128 : Int) ≤ v16.2)) then
    none
  else
  bif (decide ((0 : Int) ≤ v16.1 ∧ v16.1 ≤ v16.1 ∧ v16.1 ≤ ((rowMax : Nat) : Int))) then
    Option.bind (strings_Fieldsu1 k k x0 0) fun (v17 : Int) =>
    Option.bind (strings_Fieldsu3 k k x0 0 v17 v17 (List.replicate (Int.toNat v16.1) ([] : List UInt8))) fun (v20 : ((Unit) × ((Int) × (Int))) × (List (List UInt8))) =>
    bif (decide (v20.1.2.2 < ((List.length x0 : Nat) : Int))) then
      bif (decide ((0 : Int) ≤ v20.1.2.2 ∧ v20.1.2.2 ≤ (((List.length x0) : Nat) : Int))) then
        bif (inR v20.1.2.1 (List.length v20.2)) then
          some (List.set v20.2 (Int.toNat v20.1.2.1) (List.drop (Int.toNat v20.1.2.2) (List.take (List.length x0) x0)))
        else
          none
      else
        none
    else
    some v20.2
  else
    none
noncomputable def z8b : AC :=
  (.seq (.region [(iO 2 (.nrow .str))])
  (.seq (.region [(iO 3 (.mv (nI 0)))])
  (.seq (.region [(iO 4 (.mv (nI 1)))])
  (.seq (.region [(iO 5 (.mv (.c (.tv (.int .u8) (0 : Int)))))])
  (.seq (.seq (.region [(iO 6 (.mv (nI 0)))])
  (.block 0 (.unit 0 z8u0d true z8u0b)))
  (.seq (.seq (.region [(iO 36 (.mv (.t 5))),
    (iO 37 (.bin .geq (.t 36) (.c (.tv (.int .u8) (128 : Int)))))])
  (.cond (.t 37)
  (.seq (.region [(iO 38 (.mv (.t 0))),
      (iO 39 .bad),
      (iO 2 .bad)])
    .ret)
  .skip))
  (.seq (.region [(iO 40 (.mv (.t 3))),
    (iO 41 (.mkslice .str (.t 40) (.t 40))),
    (iO 9 (.mv (.t 41)))])
  (.seq (.region [(iO 10 (.mv (nI 0)))])
  (.seq (.region [(iO 11 (.mv (nI 0)))])
  (.seq (.region [(iO 12 (.mv (nI 0)))])
  (.seq (.block 2 (.unit 1 z8u1d true z8u1b))
  (.seq (.region [(iO 56 (.mv (.t 12))),
    (iO 11 (.mv (.t 56)))])
  (.seq (.block 4 (.unit 3 z8u3d true z8u3b))
  (.seq (.seq (.region [(iO 95 (.mv (.t 11))),
    (iO 96 (.mv (.t 0))),
    (iO 97 (.lens (.t 96))),
    (iO 98 (.bin .lss (.t 95) (.t 97)))])
  (.cond (.t 98)
  (.region [(iO 99 (.mv (.t 9))),
      (iO 100 (.mv (.t 10))),
      (iO 101 (.mv (.t 0))),
      (iO 102 (.mv (.t 11))),
      (iO 103 (.slis (.t 101) (some (.t 102)) none)),
      (iO 104 (.iads .str (.t 99) (.t 100))),
      (iS (.store 1 none (.t 104) (.t 103)))])
  .skip))
  (.seq (.region [(iO 105 (.mv (.t 9))),
    (iO 2 (.mv (.t 105)))])
  .ret)))))))))))))))
noncomputable def z8f : FDef := ⟨1, 106, [.tmp 2 (some (.sl .str))], z8b⟩
noncomputable def z8p : XPat := ⟨.normal, [(.tv .str)], []⟩
noncomputable def z8x : List XPat := [⟨.ret, [(.tv (.sl .str))], []⟩]
noncomputable def z8t (k : Nat) (d : z8p.D) : Option (XD z8x) := strings_Fields k d
noncomputable def z8_e (k : Nat) : UEntry := mkU z8p z8x (z8t k) nilU
theorem z8_n (k : Nat) : UNat (z8_e k) := mkU_nat nilU_nat
theorem z8_fu (k : Nat) : FU P GL 88 (z8_e k) :=
  fn_typed (uorc := uorT (z8U4 k)) hmo (T7_ok k).oo (z8U4_k k) (fd := z8f) (AllU.seq (AllU.no (by kernel_rfl)) (AllU.seq (AllU.no (by kernel_rfl)) (AllU.seq (AllU.no (by kernel_rfl)) (AllU.seq (AllU.no (by kernel_rfl)) (AllU.seq (AllU.seq (AllU.no (by kernel_rfl)) (AllU.block (AllU.unit (uorc := uorT (z8U4 k)) (u := 0) (z8u0_k k)))) (AllU.seq (AllU.no (by kernel_rfl)) (AllU.seq (AllU.no (by kernel_rfl)) (AllU.seq (AllU.no (by kernel_rfl)) (AllU.seq (AllU.no (by kernel_rfl)) (AllU.seq (AllU.no (by kernel_rfl)) (AllU.seq (AllU.block (AllU.unit (uorc := uorT (z8U4 k)) (u := 1) (z8u1_k k))) (AllU.seq (AllU.no (by kernel_rfl)) (AllU.seq (AllU.block (AllU.unit (uorc := uorT (z8U4 k)) (u := 3) (z8u3_k k))) (AllU.no (by kernel_rfl))))))))))))))) (fn := Tryd.f88) (by kernel_rfl) (by kernel_rfl) (fun d => by kernel_rfl) FU_nil
noncomputable def T8 (k : Nat) : List (Nat × Ent) := (88, ⟨z8_e k⟩) :: T7 k
theorem T8_ok (k : Nat) : TabOK P GL (T8 k) := (T7_ok k).cons (z8_fu k) (z8_n k)
/-! ### overspill.mcbpc.table$1 -/
noncomputable def z9U0 (_ : Nat) : List (Nat × Ent) := []
theorem z9U0_k (k : Nat) : UTab (z9U0 k) := UTab.nil
noncomputable def z9u0d : UDef := ⟨[(0, none), (2, none), (9, none), (10, none), (11, none)], [4, 5, 11, 12, 13, 14, 15, 16, 17, 18, 19, 20, 21, 22, 23, 24, 25], [((.exit 0), [])], []⟩
noncomputable def z9u0p : XPat := ⟨.normal, [(.tv (.int .i64)), (.ptr 0 []), (.tv (.sl .str)), (.tv (.int .i64)), (.tv (.int .i64))], [(.box (.row 1)), (.row YReader false)]⟩
noncomputable def z9u0x : List XPat := [⟨(.exit 0), [], [(.box (.row 1)), (.row YReader false)]⟩]
noncomputable def mcbpc_table_f1u0 (k : Nat) : Nat → (Int) → (List (List UInt8)) → (Int) → (Int) → (List (DReader)) → Option ((Unit) × ((Unit) × (List (DReader))))
  | 0, _, _, _, _, _ => none
  | n + 1, x0, x1, x2, x3, x4 =>
    bif (decide (x3 < x2)) then
      bif (inR x3 (List.length x1)) then
        bif (decide ((List.length x4) + 1 ≤ rowMax)) then
          Option.bind (mcbpc_table_f1u0 k n x0 x1 x2 (wr .i64 (x3 + 1)) (x4 ++ ([((List.getD x1 (Int.toNat x3) ([] : List UInt8)), ((wr .i64 ((wr .i64 (10 * x0)) + x3)), ()))] : List (DReader)))) fun r => some r
        else
          none
      else
        none
    else
    some ((), ((), x4))
noncomputable def z9u0b : AC :=
  (.seq (.region [(iO 12 (.bin .lss (.t 11) (.t 10)))])
  (.seq (.cond (.t 12)
  .skip
  (.exit 0))
  (.seq (.block 1 (.seq (.region [(iO 13 (.mv (.t 11))),
    (iO 14 (.iads .str (.t 9) (.t 11))),
    (iO 15 (.load false 1 (.t 14))),
    (iO 4 (.mv (.t 13))),
    (iO 5 (.mv (.t 15)))])
  (.region [(iO 16 (.load false 1 (.t 2))),
    (iO 17 (.mv (.t 5))),
    (iO 18 (.mv (.t 0))),
    (iO 19 (.bin .mul (nI 10) (.t 18))),
    (iO 20 (.mv (.t 4))),
    (iO 21 (.bin .add (.t 19) (.t 20))),
    (iO 22 (.build 122 (.tv YReader) [(0, (.fld 0 0), 1, (.t 17)), (1, (.fld 1 1), 1, (.t 21))])),
    (iO 23 (.bslice YReader [(.t 22)])),
    (iO 24 (.app YReader (.t 16) (.t 23))),
    (iS (.store 1 none (.t 2) (.t 24)))])))
  (.region [(iO 25 (.bin .add (.t 11) (nI 1))),
    (iO 11 (.mv (.t 25)))]))))
noncomputable def z9u0t (k n : Nat) (d : z9u0p.D) : Option (XD z9u0x) := mcbpc_table_f1u0 k n d.1.1 d.1.2.2.1 d.1.2.2.2.1 d.1.2.2.2.2 d.2.2
theorem z9u0_k (k : Nat) : UOK P GL (mkU z9u0p z9u0x (z9u0t k k) nilU) z9u0d true z9u0b :=
  loop_typed (ud := z9u0d) (body := z9u0b) (uorc := uorT (z9U0 k)) hmo (T8_ok k).oo (z9U0_k k) (AllU.no (by kernel_rfl)) (t := z9u0t k) (fun d => by kernel_rfl) (fun n d => by kernel_rfl) k
noncomputable def z9U1 (k : Nat) : List (Nat × Ent) := (0, ⟨mkU z9u0p z9u0x (z9u0t k k) nilU⟩) :: z9U0 k
theorem z9U1_k (k : Nat) : UTab (z9U1 k) := (z9U0_k k).cons (mkU_nat nilU_nat)
noncomputable def mcbpc_table_f1 (k : Nat) (x0 : Int) (x1 : Bool) (x2 : List (DReader)) : Option ((Unit) × ((Bool) × ((Unit) × (List (DReader))))) :=
  Option.bind (mcbpc_row k x1 x0) fun (v15 : List UInt8) =>
  Option.bind (strings_Fields k v15) fun (v21 : List (List UInt8)) =>
  Option.bind (mcbpc_table_f1u0 k k x0 v21 ((List.length v21 : Nat) : Int) 0 x2) fun (v22 : (Unit) × ((Unit) × (List (DReader)))) =>
  some ((), (x1, ((), v22.2.2)))
noncomputable def z9b : AC :=
  (.seq (.region [(iO 6 (.load false 1 (.t 1))),
    (iO 7 (.mv (.t 0))),
    (iC 8 89 [((.t 6), none), ((.t 7), none)]),
    (iC 9 88 [((.t 8), none)]),
    (iO 10 (.len (.t 9))),
    (iO 11 (.mv (nI 0)))])
  (.block 0 (.unit 0 z9u0d true z9u0b)))
noncomputable def z9f : FDef := ⟨3, 26, [], z9b⟩
noncomputable def z9p : XPat := ⟨.normal, [(.tv (.int .i64)), (.ptr 0 []), (.ptr 1 [])], [(.box (.tv .bool)), (.box (.row 2)), (.row YReader false)]⟩
noncomputable def z9x : List XPat := [⟨.ret, [(.tup .nil)], [(.box (.tv .bool)), (.box (.row 2)), (.row YReader false)]⟩]
noncomputable def z9t (k : Nat) (d : z9p.D) : Option (XD z9x) := mcbpc_table_f1 k d.1.1 d.2.1 d.2.2.2
noncomputable def z9_e (k : Nat) : UEntry := mkU z9p z9x (z9t k) nilU
theorem z9_n (k : Nat) : UNat (z9_e k) := mkU_nat nilU_nat
theorem z9_fu (k : Nat) : FU P GL 96 (z9_e k) :=
  fn_typed (uorc := uorT (z9U1 k)) hmo (T8_ok k).oo (z9U1_k k) (fd := z9f) (AllU.seq (AllU.no (by kernel_rfl)) (AllU.block (AllU.unit (uorc := uorT (z9U1 k)) (u := 0) (z9u0_k k)))) (fn := Tryd.f96) (by kernel_rfl) (by kernel_rfl) (fun d => by kernel_rfl) FU_nil
noncomputable def T9 (k : Nat) : List (Nat × Ent) := (96, ⟨z9_e k⟩) :: T8 k
theorem T9_ok (k : Nat) : TabOK P GL (T9 k) := (T8_ok k).cons (z9_fu k) (z9_n k)
/-! ### strings.trimRightByte -/
noncomputable def z10U0 (_ : Nat) : List (Nat × Ent) := []
theorem z10U0_k (k : Nat) : UTab (z10U0 k) := UTab.nil
noncomputable def z10u0d : UDef := ⟨[(0, none), (1, none)], [0, 5, 6, 7, 8, 9, 10, 11, 12, 13, 14, 15, 16, 17, 18, 19, 20, 21], [((.exit 0), [(0, none)])], []⟩
noncomputable def z10u0p : XPat := ⟨.normal, [(.tv .str), (.tv (.int .u8))], []⟩
noncomputable def z10u0x : List XPat := [⟨(.exit 0), [(.tv .str)], []⟩]
noncomputable def strings_trimRightByteu0 (k : Nat) : Nat → (List UInt8) → (Int) → Option (List UInt8)
  | 0, _, _ => none
  | n + 1, x0, x1 =>
    bif (decide ((0 : Int) < ((List.length x0 : Nat) : Int))) then
      bif (inR (wr .i64 (((List.length x0 : Nat) : Int) - 1)) (List.length x0)) then
        bif (decide (((UInt8.toNat (List.getD x0 (Int.toNat (wr .i64 (((List.length x0 : Nat) : Int) - 1))) 0) : Nat) : Int) = x1)) then
          bif (decide ((0 : Int) ≤ (wr .i64 (((List.length x0 : Nat) : Int) - 1)) ∧ (wr .i64 (((List.length x0 : Nat) : Int) - 1)) ≤ (((List.length x0) : Nat) : Int))) then
            Option.bind (strings_trimRightByteu0 k n (List.drop 0 (List.take (Int.toNat (wr .i64 (((List.length x0 : Nat) : Int) - 1))) x0)) x1) fun r => some r
          else
            none
        else
        some x0
      else
        none
    else
    some x0
noncomputable def z10u0b : AC :=
  (.seq (.seq (.region [(iO 5 (.mv (.t 0))),
    (iO 6 (.lens (.t 5))),
    (iO 7 (.bin .gtr (.t 6) (nI 0))),
    (iO 8 (.mv (.t 7))),
    ⟨some 9, some (3, 8, true), (.op (.mv (.t 0))), []⟩,
    ⟨some 10, some (3, 8, true), (.op (.mv (.t 0))), []⟩,
    ⟨some 11, some (3, 8, true), (.op (.lens (.t 10))), []⟩,
    ⟨some 12, some (3, 8, true), (.op (.bin .sub (.t 11) (nI 1))), []⟩,
    ⟨some 13, some (3, 8, true), (.op (.ixs (.t 9) (.t 12))), []⟩,
    ⟨some 14, some (3, 8, true), (.op (.mv (.t 1))), []⟩,
    ⟨some 15, some (3, 8, true), (.op (.bin .eql (.t 13) (.t 14))), []⟩,
    (iO 16 (.pick (.t 8) (.t 15) (.c (.tv .bool (false : Bool)))))])
  (.cond (.t 16)
  .skip
  (.exit 0)))
  (.block 1 (.region [(iO 17 (.mv (.t 0))),
    (iO 18 (.mv (.t 0))),
    (iO 19 (.lens (.t 18))),
    (iO 20 (.bin .sub (.t 19) (nI 1))),
    (iO 21 (.slis (.t 17) none (some (.t 20)))),
    (iO 0 (.mv (.t 21)))])))
noncomputable def z10u0t (k n : Nat) (d : z10u0p.D) : Option (XD z10u0x) := strings_trimRightByteu0 k n d.1 d.2
theorem z10u0_k (k : Nat) : UOK P GL (mkU z10u0p z10u0x (z10u0t k k) nilU) z10u0d true z10u0b :=
  loop_typed (ud := z10u0d) (body := z10u0b) (uorc := uorT (z10U0 k)) hmo (T9_ok k).oo (z10U0_k k) (AllU.no (by kernel_rfl)) (t := z10u0t k) (fun d => by kernel_rfl) (fun n d => by kernel_rfl) k
noncomputable def z10U1 (k : Nat) : List (Nat × Ent) := (0, ⟨mkU z10u0p z10u0x (z10u0t k k) nilU⟩) :: z10U0 k
theorem z10U1_k (k : Nat) : UTab (z10U1 k) := (z10U0_k k).cons (mkU_nat nilU_nat)
noncomputable def strings_trimRightByte (k : Nat) (x0 : List UInt8) (x1 : Int) : Option (List UInt8) :=
  Option.bind (strings_trimRightByteu0 k k x0 x1) fun (v29 : List UInt8) =>
  some v29
noncomputable def z10b : AC :=
  (.seq (.region [(iO 4 (.mv (.c (.tv .str (([] : List UInt8) : List UInt8)))))])
  (.seq (.block 0 (.unit 0 z10u0d true z10u0b))
  (.seq (.region [(iO 22 (.mv (.t 0))),
    (iO 4 (.mv (.t 22)))])
  .ret)))
noncomputable def z10f : FDef := ⟨2, 23, [.tmp 4 none], z10b⟩
noncomputable def z10p : XPat := ⟨.normal, [(.tv .str), (.tv (.int .u8))], []⟩
noncomputable def z10x : List XPat := [⟨.ret, [(.tv .str)], []⟩]
noncomputable def z10t (k : Nat) (d : z10p.D) : Option (XD z10x) := strings_trimRightByte k d.1 d.2
noncomputable def z10_e (k : Nat) : UEntry := mkU z10p z10x (z10t k) nilU
theorem z10_n (k : Nat) : UNat (z10_e k) := mkU_nat nilU_nat
theorem z10_fu (k : Nat) : FU P GL 115 (z10_e k) :=
  fn_typed (uorc := uorT (z10U1 k)) hmo (T9_ok k).oo (z10U1_k k) (fd := z10f) (AllU.seq (AllU.no (by kernel_rfl)) (AllU.seq (AllU.block (AllU.unit (uorc := uorT (z10U1 k)) (u := 0) (z10u0_k k))) (AllU.no (by kernel_rfl)))) (fn := Tryd.f115) (by kernel_rfl) (by kernel_rfl) (fun d => by kernel_rfl) FU_nil
noncomputable def T10 (k : Nat) : List (Nat × Ent) := (115, ⟨z10_e k⟩) :: T9 k
theorem T10_ok (k : Nat) : TabOK P GL (T10 k) := (T9_ok k).cons (z10_fu k) (z10_n k)
/-! ### strings.trimLeftByte -/
noncomputable def z11U0 (_ : Nat) : List (Nat × Ent) := []
theorem z11U0_k (k : Nat) : UTab (z11U0 k) := UTab.nil
noncomputable def z11u0d : UDef := ⟨[(0, none), (1, none)], [0, 5, 6, 7, 8, 9, 10, 11, 12, 13, 14, 15], [((.exit 0), [(0, none)])], []⟩
noncomputable def z11u0p : XPat := ⟨.normal, [(.tv .str), (.tv (.int .u8))], []⟩
noncomputable def z11u0x : List XPat := [⟨(.exit 0), [(.tv .str)], []⟩]
noncomputable def strings_trimLeftByteu0 (k : Nat) : Nat → (List UInt8) → (Int) → Option (List UInt8)
  | 0, _, _ => none
  | n + 1, x0, x1 =>
    bif (decide ((0 : Int) < ((List.length x0 : Nat) : Int))) then
      bif (inR 0 (List.length x0)) then
        bif (decide (((UInt8.toNat (List.getD x0 0 0) : Nat) : Int) = x1)) then
          bif (decide ((0 : Int) ≤ 1 ∧ 1 ≤ (((List.length x0) : Nat) : Int))) then
            Option.bind (strings_trimLeftByteu0 k n (List.drop 1 (List.take (List.length x0) x0)) x1) fun r => some r
          else
            none
        else
        some x0
      else
        none
    else
    some x0
noncomputable def z11u0b : AC :=
  (.seq (.seq (.region [(iO 5 (.mv (.t 0))),
    (iO 6 (.lens (.t 5))),
    (iO 7 (.bin .gtr (.t 6) (nI 0))),
    (iO 8 (.mv (.t 7))),
    ⟨some 9, some (3, 8, true), (.op (.mv (.t 0))), []⟩,
    ⟨some 10, some (3, 8, true), (.op (.ixs (.t 9) (nI 0))), []⟩,
    ⟨some 11, some (3, 8, true), (.op (.mv (.t 1))), []⟩,
    ⟨some 12, some (3, 8, true), (.op (.bin .eql (.t 10) (.t 11))), []⟩,
    (iO 13 (.pick (.t 8) (.t 12) (.c (.tv .bool (false : Bool)))))])
  (.cond (.t 13)
  .skip
  (.exit 0)))
  (.block 1 (.region [(iO 14 (.mv (.t 0))),
    (iO 15 (.slis (.t 14) (some (nI 1)) none)),
    (iO 0 (.mv (.t 15)))])))
noncomputable def z11u0t (k n : Nat) (d : z11u0p.D) : Option (XD z11u0x) := strings_trimLeftByteu0 k n d.1 d.2
theorem z11u0_k (k : Nat) : UOK P GL (mkU z11u0p z11u0x (z11u0t k k) nilU) z11u0d true z11u0b :=
  loop_typed (ud := z11u0d) (body := z11u0b) (uorc := uorT (z11U0 k)) hmo (T10_ok k).oo (z11U0_k k) (AllU.no (by kernel_rfl)) (t := z11u0t k) (fun d => by kernel_rfl) (fun n d => by kernel_rfl) k
noncomputable def z11U1 (k : Nat) : List (Nat × Ent) := (0, ⟨mkU z11u0p z11u0x (z11u0t k k) nilU⟩) :: z11U0 k
theorem z11U1_k (k : Nat) : UTab (z11U1 k) := (z11U0_k k).cons (mkU_nat nilU_nat)
noncomputable def strings_trimLeftByte (k : Nat) (x0 : List UInt8) (x1 : Int) : Option (List UInt8) :=
  Option.bind (strings_trimLeftByteu0 k k x0 x1) fun (v31 : List UInt8) =>
  some v31
noncomputable def z11b : AC :=
  (.seq (.region [(iO 4 (.mv (.c (.tv .str (([] : List UInt8) : List UInt8)))))])
  (.seq (.block 0 (.unit 0 z11u0d true z11u0b))
  (.seq (.region [(iO 16 (.mv (.t 0))),
    (iO 4 (.mv (.t 16)))])
  .ret)))
noncomputable def z11f : FDef := ⟨2, 17, [.tmp 4 none], z11b⟩
noncomputable def z11p : XPat := ⟨.normal, [(.tv .str), (.tv (.int .u8))], []⟩
noncomputable def z11x : List XPat := [⟨.ret, [(.tv .str)], []⟩]
noncomputable def z11t (k : Nat) (d : z11p.D) : Option (XD z11x) := strings_trimLeftByte k d.1 d.2
noncomputable def z11_e (k : Nat) : UEntry := mkU z11p z11x (z11t k) nilU
theorem z11_n (k : Nat) : UNat (z11_e k) := mkU_nat nilU_nat
theorem z11_fu (k : Nat) : FU P GL 114 (z11_e k) :=
  fn_typed (uorc := uorT (z11U1 k)) hmo (T10_ok k).oo (z11U1_k k) (fd := z11f) (AllU.seq (AllU.no (by kernel_rfl)) (AllU.seq (AllU.block (AllU.unit (uorc := uorT (z11U1 k)) (u := 0) (z11u0_k k))) (AllU.no (by kernel_rfl)))) (fn := Tryd.f114) (by kernel_rfl) (by kernel_rfl) (fun d => by kernel_rfl) FU_nil
noncomputable def T11 (k : Nat) : List (Nat × Ent) := (114, ⟨z11_e k⟩) :: T10 k
theorem T11_ok (k : Nat) : TabOK P GL (T11 k) := (T10_ok k).cons (z11_fu k) (z11_n k)
/-! ### strings.makeASCIISet -/
noncomputable def z12U0 (_ : Nat) : List (Nat × Ent) := []
theorem z12U0_k (k : Nat) : UTab (z12U0 k) := UTab.nil
noncomputable def z12u0d : UDef := ⟨[(0, none), (2, none), (4, none)], [3, 4, 5, 6, 7, 8, 9, 10, 11, 12, 13, 14, 15, 16, 17, 18, 19], [(.ret, [(3, none)]), ((.exit 0), [])], []⟩
noncomputable def z12u0p : XPat := ⟨.normal, [(.tv .str), (.ptr 0 []), (.tv (.int .i64))], [(.box (.tv (.arr 256 .bool)))]⟩
noncomputable def z12u0x : List XPat := [⟨.ret, [(.tv .bool)], [(.box (.tv (.arr 256 .bool)))]⟩, ⟨(.exit 0), [], [(.box (.tv (.arr 256 .bool)))]⟩]
noncomputable def strings_makeASCIISetu0 (k : Nat) : Nat → (List UInt8) → (Int) → (List (Bool)) → Option (((Bool) × (List (Bool))) ⊕ ((Unit) × (List (Bool))))
  | 0, _, _, _ => none
  | n + 1, x0, x1, x2 =>
    bif (decide (x1 < ((List.length x0 : Nat) : Int))) then
      bif (inR x1 (List.length x0)) then
        bif (decide ((128 : Int) ≤ ((UInt8.toNat (List.getD x0 (Int.toNat x1) 0) : Nat) : Int))) then
          some (Sum.inl (false, x2))
        else
        bif (inR ((UInt8.toNat (List.getD x0 (Int.toNat x1) 0) : Nat) : Int) 256) then
          Option.bind (strings_makeASCIISetu0 k n x0 (wr .i64 (x1 + 1)) (List.set x2 (Int.toNat ((UInt8.toNat (List.getD x0 (Int.toNat x1) 0) : Nat) : Int)) true)) fun r => Sum.elim (fun w => some (Sum.inl w)) (fun w => some (Sum.inr w)) r
        else
          none
      else
        none
    else
    some (Sum.inr ((), x2))
noncomputable def z12u0b : AC :=
  (.seq (.seq (.region [(iO 6 (.mv (.t 4))),
    (iO 7 (.mv (.t 0))),
    (iO 8 (.lens (.t 7))),
    (iO 9 (.bin .lss (.t 6) (.t 8)))])
  (.cond (.t 9)
  .skip
  (.exit 0)))
  (.seq (.block 1 (.seq (.region [(iO 12 (.mv (.t 0))),
    (iO 13 (.mv (.t 4))),
    (iO 14 (.ixs (.t 12) (.t 13))),
    (iO 5 (.mv (.t 14)))])
  (.seq (.seq (.region [(iO 15 (.mv (.t 5))),
    (iO 16 (.bin .geq (.t 15) (.c (.tv (.int .u8) (128 : Int)))))])
  (.cond (.t 16)
  (.seq (.region [(iO 17 (.load true 256 (.t 2))),
      (iS (.store 256 none (.t 2) (.t 17))),
      (iO 3 (.mv (.c (.tv .bool (false : Bool)))))])
    .ret)
  .skip))
  (.region [(iO 18 (.mv (.t 5))),
    (iO 19 (.iad 256 1 (.t 2) (.t 18))),
    (iS (.store 1 none (.t 19) (.c (.tv .bool (true : Bool)))))]))))
  (.region [(iO 10 (.mv (.t 4))),
    (iO 11 (.bin .add (.t 10) (nI 1))),
    (iO 4 (.mv (.t 11)))])))
noncomputable def z12u0t (k n : Nat) (d : z12u0p.D) : Option (XD z12u0x) := strings_makeASCIISetu0 k n d.1.1 d.1.2.2 d.2
theorem z12u0_k (k : Nat) : UOK P GL (mkU z12u0p z12u0x (z12u0t k k) nilU) z12u0d true z12u0b :=
  loop_typed (ud := z12u0d) (body := z12u0b) (uorc := uorT (z12U0 k)) hmo (T11_ok k).oo (z12U0_k k) (AllU.no (by kernel_rfl)) (t := z12u0t k) (fun d => by kernel_rfl) (fun n d => by kernel_rfl) k
noncomputable def z12U1 (k : Nat) : List (Nat × Ent) := (0, ⟨mkU z12u0p z12u0x (z12u0t k k) nilU⟩) :: z12U0 k
theorem z12U1_k (k : Nat) : UTab (z12U1 k) := (z12U0_k k).cons (mkU_nat nilU_nat)
noncomputable def strings_makeASCIISet (k : Nat) (x0 : List UInt8) : Option ((List (Bool)) × ((Bool) × (Unit))) :=
  Option.bind (strings_makeASCIISetu0 k k x0 0 (Ty.zero (.arr 256 .bool))) fun r =>
  Sum.elim (fun (v33 : (Bool) × (List (Bool))) =>
    some (v33.2, (v33.1, ())))
    (fun (v34 : (Unit) × (List (Bool))) =>
    some (v34.2, (true, ()))) r
noncomputable def z12b : AC :=
  (.seq (.region [(iO 2 (.alloc 177 (.tv (.arr 256 .bool)))),
    (iO 3 (.mv (.c (.tv .bool (false : Bool)))))])
  (.seq (.seq (.region [(iO 4 (.mv (nI 0)))])
  (.block 0 (.unit 0 z12u0d true z12u0b)))
  (.seq (.region [(iO 20 (.load true 256 (.t 2))),
    (iS (.store 256 none (.t 2) (.t 20))),
    (iO 3 (.mv (.c (.tv .bool (true : Bool)))))])
  .ret)))
noncomputable def z12f : FDef := ⟨1, 21, [.cell 2 256 true (some (.arr 256 .bool)), .tmp 3 none], z12b⟩
noncomputable def z12p : XPat := ⟨.normal, [(.tv .str)], []⟩
noncomputable def z12x : List XPat := [⟨.ret, [(.tup (.cons (.tv (.arr 256 .bool)) (.cons (.tv .bool) .nil)))], []⟩]
noncomputable def z12t (k : Nat) (d : z12p.D) : Option (XD z12x) := strings_makeASCIISet k d
noncomputable def z12_e (k : Nat) : UEntry := mkU z12p z12x (z12t k) nilU
theorem z12_n (k : Nat) : UNat (z12_e k) := mkU_nat nilU_nat
theorem z12_fu (k : Nat) : FU P GL 116 (z12_e k) :=
  fn_typed (uorc := uorT (z12U1 k)) hmo (T11_ok k).oo (z12U1_k k) (fd := z12f) (AllU.seq (AllU.no (by kernel_rfl)) (AllU.seq (AllU.seq (AllU.no (by kernel_rfl)) (AllU.block (AllU.unit (uorc := uorT (z12U1 k)) (u := 0) (z12u0_k k)))) (AllU.no (by kernel_rfl)))) (fn := Tryd.f116) (by kernel_rfl) (by kernel_rfl) (fun d => by kernel_rfl) FU_nil
noncomputable def T12 (k : Nat) : List (Nat × Ent) := (116, ⟨z12_e k⟩) :: T11 k
theorem T12_ok (k : Nat) : TabOK P GL (T12 k) := (T11_ok k).cons (z12_fu k) (z12_n k)
/-! ### (*strings.asciiSet).contains -/
noncomputable def z13U0 (_ : Nat) : List (Nat × Ent) := []
theorem z13U0_k (k : Nat) : UTab (z13U0 k) := UTab.nil
noncomputable def strings_asciiSet_contains (k : Nat) (x0 : Int) (x1 : List (Bool)) : Option ((Bool) × (List (Bool))) :=
  bif (inR x0 256) then
    some ((List.getD x1 (Int.toNat x0) false), x1)
  else
    none
noncomputable def z13b : AC :=
  (.seq (.region [(iO 4 (.mv (.c (.tv .bool (false : Bool)))))])
  (.seq (.region [(iO 5 (.mv (.t 0))),
    (iO 6 (.mv (.t 1))),
    (iO 7 (.nilc (.t 5))),
    (iO 8 (.iad 256 1 (.t 7) (.t 6))),
    (iO 9 (.load false 1 (.t 8))),
    (iO 4 (.mv (.t 9)))])
  .ret))
noncomputable def z13f : FDef := ⟨2, 10, [.tmp 4 none], z13b⟩
noncomputable def z13p : XPat := ⟨.normal, [(.ptr 0 []), (.tv (.int .u8))], [(.box (.tv (.arr 256 .bool)))]⟩
noncomputable def z13x : List XPat := [⟨.ret, [(.tv .bool)], [(.box (.tv (.arr 256 .bool)))]⟩]
noncomputable def z13t (k : Nat) (d : z13p.D) : Option (XD z13x) := strings_asciiSet_contains k d.1.2 d.2
noncomputable def z13_e (k : Nat) : UEntry := mkU z13p z13x (z13t k) nilU
theorem z13_n (k : Nat) : UNat (z13_e k) := mkU_nat nilU_nat
theorem z13_fu (k : Nat) : FU P GL 121 (z13_e k) :=
  fn_typed (uorc := uorT (z13U0 k)) hmo (T12_ok k).oo (z13U0_k k) (fd := z13f) (AllU.no (by kernel_rfl)) (fn := Tryd.f121) (by kernel_rfl) (by kernel_rfl) (fun d => by kernel_rfl) FU_nil
noncomputable def T13 (k : Nat) : List (Nat × Ent) := (121, ⟨z13_e k⟩) :: T12 k
theorem T13_ok (k : Nat) : TabOK P GL (T13 k) := (T12_ok k).cons (z13_fu k) (z13_n k)
/-! ### strings.trimRightASCII -/
noncomputable def z14U0 (_ : Nat) : List (Nat × Ent) := []
theorem z14U0_k (k : Nat) : UTab (z14U0 k) := UTab.nil
noncomputable def z14u0d : UDef := ⟨[(0, none), (1, none)], [0, 5, 6, 7, 8, 9, 10, 11, 12, 13, 14, 15, 16, 17, 18, 19, 20], [((.exit 0), [(0, none)])], []⟩
noncomputable def z14u0p : XPat := ⟨.normal, [(.tv .str), (.ptr 0 [])], [(.box (.tv (.arr 256 .bool)))]⟩
noncomputable def z14u0x : List XPat := [⟨(.exit 0), [(.tv .str)], [(.box (.tv (.arr 256 .bool)))]⟩]
noncomputable def strings_trimRightASCIIu0 (k : Nat) : Nat → (List UInt8) → (List (Bool)) → Option ((List UInt8) × (List (Bool)))
  | 0, _, _ => none
  | n + 1, x0, x1 =>
    bif (decide ((0 : Int) < ((List.length x0 : Nat) : Int))) then
      bif (inR (wr .i64 (((List.length x0 : Nat) : Int) - 1)) (List.length x0)) then
        Option.bind (strings_asciiSet_contains k ((UInt8.toNat (List.getD x0 (Int.toNat (wr .i64 (((List.length x0 : Nat) : Int) - 1))) 0) : Nat) : Int) x1) fun (v37 : (Bool) × (List (Bool))) =>
        bif (!v37.1) then
          some (x0, v37.2)
        else
        bif (decide ((0 : Int) ≤ (wr .i64 (((List.length x0 : Nat) : Int) - 1)) ∧ (wr .i64 (((List.length x0 : Nat) : Int) - 1)) ≤ (((List.length x0) : Nat) : Int))) then
          Option.bind (strings_trimRightASCIIu0 k n (List.drop 0 (List.take (Int.toNat (wr .i64 (((List.length x0 : Nat) : Int) - 1))) x0)) v37.2) fun r => some r
        else
          none
      else
        none
    else
    some (x0, x1)
noncomputable def z14u0b : AC :=
  (.seq (.seq (.region [(iO 5 (.mv (.t 0))),
    (iO 6 (.lens (.t 5))),
    (iO 7 (.bin .gtr (.t 6) (nI 0)))])
  (.cond (.t 7)
  .skip
  (.exit 0)))
  (.block 1 (.seq (.seq (.region [(iO 8 (.mv (.t 1))),
    (iO 9 (.mv (.t 0))),
    (iO 10 (.mv (.t 0))),
    (iO 11 (.lens (.t 10))),
    (iO 12 (.bin .sub (.t 11) (nI 1))),
    (iO 13 (.ixs (.t 9) (.t 12))),
    (iC 14 121 [((.t 8), none), ((.t 13), none)]),
    (iO 15 (.un .not (.t 14)))])
  (.cond (.t 15)
  (.exit 0)
  .skip))
  (.region [(iO 16 (.mv (.t 0))),
    (iO 17 (.mv (.t 0))),
    (iO 18 (.lens (.t 17))),
    (iO 19 (.bin .sub (.t 18) (nI 1))),
    (iO 20 (.slis (.t 16) none (some (.t 19)))),
    (iO 0 (.mv (.t 20)))]))))
noncomputable def z14u0t (k n : Nat) (d : z14u0p.D) : Option (XD z14u0x) := strings_trimRightASCIIu0 k n d.1.1 d.2
theorem z14u0_k (k : Nat) : UOK P GL (mkU z14u0p z14u0x (z14u0t k k) nilU) z14u0d true z14u0b :=
  loop_typed (ud := z14u0d) (body := z14u0b) (uorc := uorT (z14U0 k)) hmo (T13_ok k).oo (z14U0_k k) (AllU.no (by kernel_rfl)) (t := z14u0t k) (fun d => by kernel_rfl) (fun n d => by kernel_rfl) k
noncomputable def z14U1 (k : Nat) : List (Nat × Ent) := (0, ⟨mkU z14u0p z14u0x (z14u0t k k) nilU⟩) :: z14U0 k
theorem z14U1_k (k : Nat) : UTab (z14U1 k) := (z14U0_k k).cons (mkU_nat nilU_nat)
noncomputable def strings_trimRightASCII (k : Nat) (x0 : List UInt8) (x1 : List (Bool)) : Option ((List UInt8) × (List (Bool))) :=
  Option.bind (strings_trimRightASCIIu0 k k x0 x1) fun (v38 : (List UInt8) × (List (Bool))) =>
  some (v38.1, v38.2)
noncomputable def z14b : AC :=
  (.seq (.region [(iO 4 (.mv (.c (.tv .str (([] : List UInt8) : List UInt8)))))])
  (.seq (.block 0 (.unit 0 z14u0d true z14u0b))
  (.seq (.region [(iO 21 (.mv (.t 0))),
    (iO 4 (.mv (.t 21)))])
  .ret)))
noncomputable def z14f : FDef := ⟨2, 22, [.tmp 4 none], z14b⟩
noncomputable def z14p : XPat := ⟨.normal, [(.tv .str), (.ptr 0 [])], [(.box (.tv (.arr 256 .bool)))]⟩
noncomputable def z14x : List XPat := [⟨.ret, [(.tv .str)], [(.box (.tv (.arr 256 .bool)))]⟩]
noncomputable def z14t (k : Nat) (d : z14p.D) : Option (XD z14x) := strings_trimRightASCII k d.1.1 d.2
noncomputable def z14_e (k : Nat) : UEntry := mkU z14p z14x (z14t k) nilU
theorem z14_n (k : Nat) : UNat (z14_e k) := mkU_nat nilU_nat
theorem z14_fu (k : Nat) : FU P GL 118 (z14_e k) :=
  fn_typed (uorc := uorT (z14U1 k)) hmo (T13_ok k).oo (z14U1_k k) (fd := z14f) (AllU.seq (AllU.no (by kernel_rfl)) (AllU.seq (AllU.block (AllU.unit (uorc := uorT (z14U1 k)) (u := 0) (z14u0_k k))) (AllU.no (by kernel_rfl)))) (fn := Tryd.f118) (by kernel_rfl) (by kernel_rfl) (fun d => by kernel_rfl) FU_nil
noncomputable def T14 (k : Nat) : List (Nat × Ent) := (118, ⟨z14_e k⟩) :: T13 k
theorem T14_ok (k : Nat) : TabOK P GL (T14 k) := (T13_ok k).cons (z14_fu k) (z14_n k)
/-! ### strings.trimLeftASCII -/
noncomputable def z15U0 (_ : Nat) : List (Nat × Ent) := []
theorem z15U0_k (k : Nat) : UTab (z15U0 k) := UTab.nil
noncomputable def z15u0d : UDef := ⟨[(0, none), (1, none)], [0, 5, 6, 7, 8, 9, 10, 11, 12, 13, 14], [((.exit 0), [(0, none)])], []⟩
noncomputable def z15u0p : XPat := ⟨.normal, [(.tv .str), (.ptr 0 [])], [(.box (.tv (.arr 256 .bool)))]⟩
noncomputable def z15u0x : List XPat := [⟨(.exit 0), [(.tv .str)], [(.box (.tv (.arr 256 .bool)))]⟩]
noncomputable def strings_trimLeftASCIIu0 (k : Nat) : Nat → (List UInt8) → (List (Bool)) → Option ((List UInt8) × (List (Bool)))
  | 0, _, _ => none
  | n + 1, x0, x1 =>
    bif (decide ((0 : Int) < ((List.length x0 : Nat) : Int))) then
      bif (inR 0 (List.length x0)) then
        Option.bind (strings_asciiSet_contains k ((UInt8.toNat (List.getD x0 0 0) : Nat) : Int) x1) fun (v41 : (Bool) × (List (Bool))) =>
        bif (!v41.1) then
          some (x0, v41.2)
        else
        bif (decide ((0 : Int) ≤ 1 ∧ 1 ≤ (((List.length x0) : Nat) : Int))) then
          Option.bind (strings_trimLeftASCIIu0 k n (List.drop 1 (List.take (List.length x0) x0)) v41.2) fun r => some r
        else
          none
      else
        none
    else
    some (x0, x1)
noncomputable def z15u0b : AC :=
  (.seq (.seq (.region [(iO 5 (.mv (.t 0))),
    (iO 6 (.lens (.t 5))),
    (iO 7 (.bin .gtr (.t 6) (nI 0)))])
  (.cond (.t 7)
  .skip
  (.exit 0)))
  (.block 1 (.seq (.seq (.region [(iO 8 (.mv (.t 1))),
    (iO 9 (.mv (.t 0))),
    (iO 10 (.ixs (.t 9) (nI 0))),
    (iC 11 121 [((.t 8), none), ((.t 10), none)]),
    (iO 12 (.un .not (.t 11)))])
  (.cond (.t 12)
  (.exit 0)
  .skip))
  (.region [(iO 13 (.mv (.t 0))),
    (iO 14 (.slis (.t 13) (some (nI 1)) none)),
    (iO 0 (.mv (.t 14)))]))))
noncomputable def z15u0t (k n : Nat) (d : z15u0p.D) : Option (XD z15u0x) := strings_trimLeftASCIIu0 k n d.1.1 d.2
theorem z15u0_k (k : Nat) : UOK P GL (mkU z15u0p z15u0x (z15u0t k k) nilU) z15u0d true z15u0b :=
  loop_typed (ud := z15u0d) (body := z15u0b) (uorc := uorT (z15U0 k)) hmo (T14_ok k).oo (z15U0_k k) (AllU.no (by kernel_rfl)) (t := z15u0t k) (fun d => by kernel_rfl) (fun n d => by kernel_rfl) k
noncomputable def z15U1 (k : Nat) : List (Nat × Ent) := (0, ⟨mkU z15u0p z15u0x (z15u0t k k) nilU⟩) :: z15U0 k
theorem z15U1_k (k : Nat) : UTab (z15U1 k) := (z15U0_k k).cons (mkU_nat nilU_nat)
noncomputable def strings_trimLeftASCII (k : Nat) (x0 : List UInt8) (x1 : List (Bool)) : Option ((List UInt8) × (List (Bool))) :=
  Option.bind (strings_trimLeftASCIIu0 k k x0 x1) fun (v42 : (List UInt8) × (List (Bool))) =>
  some (v42.1, v42.2)
noncomputable def z15b : AC :=
  (.seq (.region [(iO 4 (.mv (.c (.tv .str (([] : List UInt8) : List UInt8)))))])
  (.seq (.block 0 (.unit 0 z15u0d true z15u0b))
  (.seq (.region [(iO 15 (.mv (.t 0))),
    (iO 4 (.mv (.t 15)))])
  .ret)))
noncomputable def z15f : FDef := ⟨2, 16, [.tmp 4 none], z15b⟩
noncomputable def z15p : XPat := ⟨.normal, [(.tv .str), (.ptr 0 [])], [(.box (.tv (.arr 256 .bool)))]⟩
noncomputable def z15x : List XPat := [⟨.ret, [(.tv .str)], [(.box (.tv (.arr 256 .bool)))]⟩]
noncomputable def z15t (k : Nat) (d : z15p.D) : Option (XD z15x) := strings_trimLeftASCII k d.1.1 d.2
noncomputable def z15_e (k : Nat) : UEntry := mkU z15p z15x (z15t k) nilU
theorem z15_n (k : Nat) : UNat (z15_e k) := mkU_nat nilU_nat
theorem z15_fu (k : Nat) : FU P GL 117 (z15_e k) :=
  fn_typed (uorc := uorT (z15U1 k)) hmo (T14_ok k).oo (z15U1_k k) (fd := z15f) (AllU.seq (AllU.no (by kernel_rfl)) (AllU.seq (AllU.block (AllU.unit (uorc := uorT (z15U1 k)) (u := 0) (z15u0_k k))) (AllU.no (by kernel_rfl)))) (fn := Tryd.f117) (by kernel_rfl) (by kernel_rfl) (fun d => by kernel_rfl) FU_nil
noncomputable def T15 (k : Nat) : List (Nat × Ent) := (117, ⟨z15_e k⟩) :: T14 k
theorem T15_ok (k : Nat) : TabOK P GL (T15 k) := (T14_ok k).cons (z15_fu k) (z15_n k)
/-! ### strings.Trim -/
noncomputable def z16U0 (_ : Nat) : List (Nat × Ent) := []
theorem z16U0_k (k : Nat) : UTab (z16U0 k) := UTab.nil
noncomputable def z16u0d : UDef := ⟨[(0, none), (1, none)], [7, 8, 9, 10, 11, 12], [(.normal, [(12, none)])], []⟩
noncomputable def z16u0p : XPat := ⟨.normal, [(.tv .str), (.tv .str)], []⟩
noncomputable def z16u0x : List XPat := [⟨.normal, [(.tv .bool)], []⟩]
noncomputable def strings_Trimu0 (k : Nat) (x0 : List UInt8) (x1 : List UInt8) : Option (Bool) :=
  bif (decide (x0 = ([] : List UInt8))) then
    some true
  else
  some (decide (x1 = ([] : List UInt8)))
noncomputable def z16u0b : AC :=
  (.region [(iO 7 (.mv (.t 0))),
    (iO 8 (.bin .eql (.t 7) (.c (.tv .str (([] : List UInt8) : List UInt8))))),
    (iO 9 (.mv (.t 8))),
    ⟨some 10, some (2, 9, false), (.op (.mv (.t 1))), []⟩,
    ⟨some 11, some (2, 9, false), (.op (.bin .eql (.t 10) (.c (.tv .str (([] : List UInt8) : List UInt8))))), []⟩,
    (iO 12 (.pick (.t 9) (.c (.tv .bool (true : Bool))) (.t 11)))])
noncomputable def z16u0t (k : Nat) (d : z16u0p.D) : Option (XD z16u0x) := strings_Trimu0 k d.1 d.2
theorem z16u0_k (k : Nat) : UOK P GL (mkU z16u0p z16u0x (z16u0t k) nilU) z16u0d false z16u0b :=
  unit_typed (ud := z16u0d) (body := z16u0b) (uorc := uorT (z16U0 k)) hmo (T15_ok k).oo (z16U0_k k) (AllU.no (by kernel_rfl)) (fun d => by kernel_rfl)
noncomputable def z16U1 (k : Nat) : List (Nat × Ent) := (0, ⟨mkU z16u0p z16u0x (z16u0t k) nilU⟩) :: z16U0 k
theorem z16U1_k (k : Nat) : UTab (z16U1 k) := (z16U0_k k).cons (mkU_nat nilU_nat)
noncomputable def z16u1d : UDef := ⟨[(1, none)], [14, 15, 16, 17, 18, 19, 20, 21], [(.normal, [(21, none)])], []⟩
noncomputable def z16u1p : XPat := ⟨.normal, [(.tv .str)], []⟩
noncomputable def z16u1x : List XPat := [⟨.normal, [(.tv .bool)], []⟩]
noncomputable def strings_Trimu1 (k : Nat) (x0 : List UInt8) : Option (Bool) :=
  bif (decide (((List.length x0 : Nat) : Int) = 1)) then
    bif (inR 0 (List.length x0)) then
      some (decide (((UInt8.toNat (List.getD x0 0 0) : Nat) : Int) < 128))
    else
      none
  else
  some false
noncomputable def z16u1b : AC :=
  (.region [(iO 14 (.mv (.t 1))),
    (iO 15 (.lens (.t 14))),
    (iO 16 (.bin .eql (.t 15) (nI 1))),
    (iO 17 (.mv (.t 16))),
    ⟨some 18, some (3, 17, true), (.op (.mv (.t 1))), []⟩,
    ⟨some 19, some (3, 17, true), (.op (.ixs (.t 18) (nI 0))), []⟩,
    ⟨some 20, some (3, 17, true), (.op (.bin .lss (.t 19) (.c (.tv (.int .u8) (128 : Int))))), []⟩,
    (iO 21 (.pick (.t 17) (.t 20) (.c (.tv .bool (false : Bool)))))])
noncomputable def z16u1t (k : Nat) (d : z16u1p.D) : Option (XD z16u1x) := strings_Trimu1 k d
theorem z16u1_k (k : Nat) : UOK P GL (mkU z16u1p z16u1x (z16u1t k) nilU) z16u1d false z16u1b :=
  unit_typed (ud := z16u1d) (body := z16u1b) (uorc := uorT (z16U1 k)) hmo (T15_ok k).oo (z16U1_k k) (AllU.no (by kernel_rfl)) (fun d => by kernel_rfl)
noncomputable def z16U2 (k : Nat) : List (Nat × Ent) := (1, ⟨mkU z16u1p z16u1x (z16u1t k) nilU⟩) :: z16U1 k
theorem z16U2_k (k : Nat) : UTab (z16U2 k) := (z16U1_k k).cons (mkU_nat nilU_nat)
noncomputable def strings_Trim (k : Nat) (x0 : List UInt8) (x1 : List UInt8) : Option (List UInt8) :=
  Option.bind (strings_Trimu0 k x0 x1) fun (v27 : Bool) =>
  bif v27 then
    some x0
  else
  Option.bind (strings_Trimu1 k x1) fun (v28 : Bool) =>
  bif v28 then
    bif (inR 0 (List.length x1)) then
      Option.bind (strings_trimRightByte k x0 ((UInt8.toNat (List.getD x1 0 0) : Nat) : Int)) fun (v30 : List UInt8) =>
      bif (inR 0 (List.length x1)) then
        Option.bind (strings_trimLeftByte k v30 ((UInt8.toNat (List.getD x1 0 0) : Nat) : Int)) fun (v32 : List UInt8) =>
        some v32
      else
        none
    else
      none
  else
  Option.bind (strings_makeASCIISet k x1) fun (v35 : (List (Bool)) × ((Bool) × (Unit))) =>
  bif v35.2.1 then
    Option.bind (strings_trimRightASCII k x0 v35.1) fun (v39 : (List UInt8) × (List (Bool))) =>
    Option.bind (strings_trimLeftASCII k v39.1 v39.2) fun (v43 : (List UInt8) × (List (Bool))) =>
    some v43.1
  else
    none
noncomputable def z16b : AC :=
  (.seq (.region [(iO 4 (.mv (.c (.tv .str (([] : List UInt8) : List UInt8)))))])
  (.seq (.seq (.unit 0 z16u0d false z16u0b)
  (.cond (.t 12)
  (.seq (.region [(iO 13 (.mv (.t 0))),
      (iO 4 (.mv (.t 13)))])
    .ret)
  .skip))
  (.seq (.seq (.unit 1 z16u1d false z16u1b)
  (.cond (.t 21)
  (.seq (.draw [(iO 22 (.mv (.t 0))),
      (iO 23 (.mv (.t 1))),
      (iOa 24 (.ixs (.t 23) (nI 0)) [1]),
      (iCa 25 115 [((.t 22), none), ((.t 24), none)] [0, 1, 2]),
      (iO 26 (.mv (.t 1))),
      (iOa 27 (.ixs (.t 26) (nI 0)) [4]),
      (iCa 28 114 [((.t 25), none), ((.t 27), none)] (rg [0, 6])),
      (iOa 4 (.mv (.t 28)) (rg [0, 7]))])
    .ret)
  .skip))
  (.seq (.seq (.region [(iO 30 (.mv (.t 1))),
    (iC 31 116 [((.t 30), none)]),
    (iO 29 (.mv (.t 31))),
    (iO 32 (.ext (.t 29) 0)),
    (iO 33 (.ext (.t 29) 1)),
    (iO 5 (.alloc 177 (.tv (.arr 256 .bool)))),
    (iS (.store 256 none (.t 5) (.t 32))),
    (iO 6 (.mv (.t 33)))])
  (.seq (.region [(iO 34 (.mv (.t 6)))])
  (.cond (.t 34)
  (.seq (.region [(iO 35 (.mv (.t 0))),
      (iC 36 118 [((.t 35), none), ((.t 5), none)]),
      (iC 37 117 [((.t 36), none), ((.t 5), none)]),
      (iO 4 (.mv (.t 37)))])
    .ret)
  .skip)))
  (.seq (.region [(iO 38 (.mv (.t 0))),
    (iO 39 (.mv (.t 1))),
    (iO 40 .bad),
    (iO 41 .bad),
    (iO 42 .bad),
    (iO 4 .bad)])
  .ret)))))
noncomputable def z16f : FDef := ⟨2, 43, [.tmp 4 none], z16b⟩
noncomputable def z16p : XPat := ⟨.normal, [(.tv .str), (.tv .str)], []⟩
noncomputable def z16x : List XPat := [⟨.ret, [(.tv .str)], []⟩]
noncomputable def z16t (k : Nat) (d : z16p.D) : Option (XD z16x) := strings_Trim k d.1 d.2
noncomputable def z16_e (k : Nat) : UEntry := mkU z16p z16x (z16t k) nilU
theorem z16_n (k : Nat) : UNat (z16_e k) := mkU_nat nilU_nat
theorem z16_fu (k : Nat) : FU P GL 108 (z16_e k) :=
  fn_typed (uorc := uorT (z16U2 k)) hmo (T15_ok k).oo (z16U2_k k) (fd := z16f) (AllU.seq (AllU.no (by kernel_rfl)) (AllU.seq (AllU.seq (AllU.unit (uorc := uorT (z16U2 k)) (u := 0) (z16u0_k k)) (AllU.no (by kernel_rfl))) (AllU.seq (AllU.seq (AllU.unit (uorc := uorT (z16U2 k)) (u := 1) (z16u1_k k)) (AllU.no (by kernel_rfl))) (AllU.no (by kernel_rfl))))) (fn := Tryd.f108) (by kernel_rfl) (by kernel_rfl) (fun d => by kernel_rfl) FU_nil
noncomputable def T16 (k : Nat) : List (Nat × Ent) := (108, ⟨z16_e k⟩) :: T15 k
theorem T16_ok (k : Nat) : TabOK P GL (T16 k) := (T15_ok k).cons (z16_fu k) (z16_n k)
/-! ### overspill.prefix.right -/
noncomputable def z17U0 (_ : Nat) : List (Nat × Ent) := []
theorem z17U0_k (k : Nat) : UTab (z17U0 k) := UTab.nil
noncomputable def prefix_right (k : Nat) (x0 : List UInt8) : Option (Bool) :=
  bif (!(decide (x0 = ([] : List UInt8)))) then
    bif (decide (((List.length x0 : Nat) : Int) ≤ 24)) then
      Option.bind (strings_Trim k x0 ([48, 49] : List UInt8)) fun (v44 : List UInt8) =>
      some (decide (v44 = ([] : List UInt8)))
    else
    some false
  else
  some false
noncomputable def z17b : AC :=
  (.seq (.region [(iO 2 (.mv (.c (.tv .bool (false : Bool)))))])
  (.seq (.region [(iO 3 (.mv (.t 0))),
    (iO 4 (.bin .neq (.t 3) (.c (.tv .str (([] : List UInt8) : List UInt8))))),
    (iO 5 (.mv (.t 4))),
    ⟨some 6, some (2, 5, true), (.op (.mv (.t 0))), []⟩,
    ⟨some 7, some (2, 5, true), (.op (.lens (.t 6))), []⟩,
    ⟨some 8, some (2, 5, true), (.op (.bin .leq (.t 7) (nI 24))), []⟩,
    (iO 9 (.pick (.t 5) (.t 8) (.c (.tv .bool (false : Bool))))),
    (iO 10 (.mv (.t 9))),
    ⟨some 11, some (7, 10, true), (.op (.mv (.t 0))), []⟩,
    ⟨some 12, some (7, 10, true), (.call (.c (.fn 108 .nil .nil)) [((.t 11), none), ((.c (.tv .str (([48, 49] : List UInt8) : List UInt8))), none)]), []⟩,
    ⟨some 13, some (7, 10, true), (.op (.bin .eql (.t 12) (.c (.tv .str (([] : List UInt8) : List UInt8))))), []⟩,
    (iO 14 (.pick (.t 10) (.t 13) (.c (.tv .bool (false : Bool))))),
    (iO 2 (.mv (.t 14)))])
  .ret))
noncomputable def z17f : FDef := ⟨1, 15, [.tmp 2 none], z17b⟩
noncomputable def z17p : XPat := ⟨.normal, [(.tv .str)], []⟩
noncomputable def z17x : List XPat := [⟨.ret, [(.tv .bool)], []⟩]
noncomputable def z17t (k : Nat) (d : z17p.D) : Option (XD z17x) := prefix_right k d
noncomputable def z17_e (k : Nat) : UEntry := mkU z17p z17x (z17t k) nilU
theorem z17_n (k : Nat) : UNat (z17_e k) := mkU_nat nilU_nat
theorem z17_fu (k : Nat) : FU P GL 105 (z17_e k) :=
  fn_typed (uorc := uorT (z17U0 k)) hmo (T16_ok k).oo (z17U0_k k) (fd := z17f) (AllU.no (by kernel_rfl)) (fn := Tryd.f105) (by kernel_rfl) (by kernel_rfl) (fun d => by kernel_rfl) FU_nil
noncomputable def T17 (k : Nat) : List (Nat × Ent) := (105, ⟨z17_e k⟩) :: T16 k
theorem T17_ok (k : Nat) : TabOK P GL (T17 k) := (T16_ok k).cons (z17_fu k) (z17_n k)
/-! ### (*overspill.prefix.Table[int]).add -/
noncomputable def z18U0 (_ : Nat) : List (Nat × Ent) := []
theorem z18U0_k (k : Nat) : UTab (z18U0 k) := UTab.nil
noncomputable def z18u0d : UDef := ⟨[(0, none), (3, none), (6, none)], [21, 22, 23, 24, 25, 26, 27, 28, 29, 30, 31, 32, 33, 34, 35, 36, 37], [(.normal, [(37, none)])], []⟩
noncomputable def z18u0p : XPat := ⟨.normal, [(.ptr 0 []), (.ptr 4 []), (.tv .bool)], [(.box (.cons (.row 5) (.cons (.mp 1) (.cons (.mp 2) (.cons (.mp 3) (.cons (.tv (.int .i64)) .nil)))))), (.mp .str), (.mp (.int .i64)), (.mp .str), (.box (.tv YReader)), (.row YReader false)]⟩
noncomputable def z18u0x : List XPat := [⟨.normal, [(.tv .bool)], [(.box (.cons (.row 5) (.cons (.mp 1) (.cons (.mp 2) (.cons (.mp 3) (.cons (.tv (.int .i64)) .nil)))))), (.mp .str), (.mp (.int .i64)), (.mp .str), (.box (.tv YReader)), (.row YReader false)]⟩]
noncomputable def prefix_Table_add_intu0 (k : Nat) (x0 : Bool) (x1 : Int) (x2 : List ((List UInt8) × Int)) (x3 : List ((Int) × Int)) (x4 : List ((List UInt8) × Int)) (x5 : DReader) (x6 : List (DReader)) : Option ((Bool) × (((Unit) × ((Unit) × ((Unit) × ((Unit) × ((Int) × (Unit)))))) × ((List ((List UInt8) × Int)) × ((List ((Int) × Int)) × ((List ((List UInt8) × Int)) × ((DReader) × (List (DReader)))))))) :=
  bif x0 then
    some (true, (((), ((), ((), ((), (x1, ()))))), (x2, (x3, (x4, (x5, x6))))))
  else
  Option.bind (prefix_right k x5.1) fun (v46 : Bool) =>
  bif (!v46) then
    some (true, (((), ((), ((), ((), (x1, ()))))), (x2, (x3, (x4, (x5, x6))))))
  else
  some ((decide ((0 : Int) < (mval .str x5.1 x4))), (((), ((), ((), ((), (x1, ()))))), (x2, (x3, (x4, (x5, x6))))))
noncomputable def z18u0b : AC :=
  (.draw [(iO 21 (.mv (.t 6))),
    (iOa 22 (.mv (.t 21)) [0]),
    ⟨some 23, some (1, 22, false), (.op (.fad 0 0 (.t 3))), [0, 1]⟩,
    ⟨some 24, some (1, 22, false), (.op (.load false 1 (.t 23))), [0, 1, 2]⟩,
    ⟨some 25, some (1, 22, false), (.call (.c (.fn 105 .nil .nil)) [((.t 24), none)]), (rg [0, 4])⟩,
    ⟨some 26, some (1, 22, false), (.op (.un .not (.t 25))), (rg [0, 5])⟩,
    (iOa 27 (.pick (.t 22) (.c (.tv .bool (true : Bool))) (.t 26)) (rg [0, 6])),
    (iOa 28 (.mv (.t 27)) (rg [0, 7])),
    ⟨some 29, some (7, 28, false), (.op (.mv (.t 0))), (rg [0, 8])⟩,
    ⟨some 30, some (7, 28, false), (.op (.nilc (.t 29))), (rg [0, 9])⟩,
    ⟨some 31, some (7, 28, false), (.op (.fad 3 3 (.t 30))), (rg [0, 10])⟩,
    ⟨some 32, some (7, 28, false), (.op (.load false 1 (.t 31))), (rg [0, 11])⟩,
    ⟨some 33, some (7, 28, false), (.op (.fad 0 0 (.t 3))), (rg [0, 8])⟩,
    ⟨some 34, some (7, 28, false), (.op (.load false 1 (.t 33))), (rg [0, 8, 12, 1])⟩,
    ⟨some 35, some (7, 28, false), (.op (.mlook .str false (.t 32) (.t 34))), (rg [0, 14])⟩,
    ⟨some 36, some (7, 28, false), (.op (.bin .gtr (.t 35) (nI 0))), (rg [0, 15])⟩,
    (iOa 37 (.pick (.t 28) (.c (.tv .bool (true : Bool))) (.t 36)) (rg [0, 16]))])
noncomputable def z18u0t (k : Nat) (d : z18u0p.D) : Option (XD z18u0x) := prefix_Table_add_intu0 k d.1.2.2 d.2.1.2.2.2.2.1 d.2.2.1 d.2.2.2.1 d.2.2.2.2.1 d.2.2.2.2.2.1 d.2.2.2.2.2.2
theorem z18u0_k (k : Nat) : UOK P GL (mkU z18u0p z18u0x (z18u0t k) nilU) z18u0d false z18u0b :=
  unit_typed (ud := z18u0d) (body := z18u0b) (uorc := uorT (z18U0 k)) hmo (T17_ok k).oo (z18U0_k k) (AllU.no (by kernel_rfl)) (fun d => by kernel_rfl)
noncomputable def z18U1 (k : Nat) : List (Nat × Ent) := (0, ⟨mkU z18u0p z18u0x (z18u0t k) nilU⟩) :: z18U0 k
theorem z18U1_k (k : Nat) : UTab (z18U1 k) := (z18U0_k k).cons (mkU_nat nilU_nat)
noncomputable def z18u1d : UDef := ⟨[(0, none), (3, none), (40, none), (41, none)], [4, 7, 8, 9, 41, 42, 43, 44, 45, 46, 47, 48, 49, 50, 51, 52, 53, 54, 55, 56, 57, 58], [(.ret, [(4, none)]), ((.exit 0), [])], []⟩
noncomputable def z18u1p : XPat := ⟨.normal, [(.ptr 0 []), (.ptr 4 []), (.tv (.int .i64)), (.tv (.int .i64))], [(.box (.cons (.row 5) (.cons (.mp 1) (.cons (.mp 2) (.cons (.mp 3) (.cons (.tv (.int .i64)) .nil)))))), (.mp .str), (.mp (.int .i64)), (.mp .str), (.box (.tv YReader)), (.row YReader false)]⟩
noncomputable def z18u1x : List XPat := [⟨.ret, [(.tv .bool)], [(.box (.cons (.row 5) (.cons (.mp 1) (.cons (.mp 2) (.cons (.mp 3) (.cons (.tv (.int .i64)) .nil)))))), (.mp .str), (.mp (.int .i64)), (.mp .str), (.box (.tv YReader)), (.row YReader false)]⟩, ⟨(.exit 0), [], [(.box (.cons (.row 5) (.cons (.mp 1) (.cons (.mp 2) (.cons (.mp 3) (.cons (.tv (.int .i64)) .nil)))))), (.mp .str), (.mp (.int .i64)), (.mp .str), (.box (.tv YReader)), (.row YReader false)]⟩]
noncomputable def prefix_Table_add_intu1 (k : Nat) : Nat → (Int) → (Int) → (Int) → (List ((List UInt8) × Int)) → (List ((Int) × Int)) → (List ((List UInt8) × Int)) → (DReader) → (List (DReader)) → Option (((Bool) × (((Unit) × ((Unit) × ((Unit) × ((Unit) × ((Int) × (Unit)))))) × ((List ((List UInt8) × Int)) × ((List ((Int) × Int)) × ((List ((List UInt8) × Int)) × ((DReader) × (List (DReader)))))))) ⊕ ((Unit) × (((Unit) × ((Unit) × ((Unit) × ((Unit) × ((Int) × (Unit)))))) × ((List ((List UInt8) × Int)) × ((List ((Int) × Int)) × ((List ((List UInt8) × Int)) × ((DReader) × (List (DReader)))))))))
  | 0, _, _, _, _, _, _, _, _ => none
  | n + 1, x0, x1, x2, x3, x4, x5, x6, x7 =>
    bif (decide (x1 < x0)) then
      bif (decide ((0 : Int) ≤ (wr .i64 (x1 + 1)) ∧ (wr .i64 (x1 + 1)) ≤ (((List.length x6.1) : Nat) : Int))) then
        bif (mhas .str (List.drop 0 (List.take (Int.toNat (wr .i64 (x1 + 1))) x6.1)) x3) then
          some (Sum.inl (false, (((), ((), ((), ((), (x2, ()))))), (x3, (x4, (x5, (x6, x7)))))))
        else
        Option.bind (prefix_Table_add_intu1 k n x0 (wr .i64 (x1 + 1)) x2 x3 x4 x5 x6 x7) fun r => Sum.elim (fun w => some (Sum.inl w)) (fun w => some (Sum.inr w)) r
      else
        none
    else
    some (Sum.inr ((), (((), ((), ((), ((), (x2, ()))))), (x3, (x4, (x5, (x6, x7)))))))
noncomputable def z18u1b : AC :=
  (.seq (.region [(iO 42 (.bin .lss (.t 41) (.t 40)))])
  (.seq (.cond (.t 42)
  .skip
  (.exit 0))
  (.seq (.block 1 (.seq (.region [(iO 43 (.mv (.t 41))),
    (iO 7 (.mv (.t 43)))])
  (.seq (.draw [(iO 45 (.mv (.t 0))),
    (iOa 46 (.nilc (.t 45)) [0]),
    (iOa 47 (.fad 1 1 (.t 46)) [0, 1]),
    (iOa 48 (.load false 1 (.t 47)) [0, 1, 2]),
    (iO 49 (.fad 0 0 (.t 3))),
    (iOa 50 (.load false 1 (.t 49)) [4]),
    (iO 51 (.mv (.t 7))),
    (iOa 52 (.bin .add (.t 51) (nI 1)) [6]),
    (iOa 53 (.slis (.t 50) none (some (.t 52))) (rg [4, 4])),
    (iOa 54 (.mlook .str true (.t 48) (.t 53)) (rg [0, 9])),
    (iOa 44 (.mv (.t 54)) (rg [0, 10])),
    (iOa 55 (.ext (.t 44) 0) (rg [0, 11])),
    (iOa 56 (.ext (.t 44) 1) (rg [0, 11])),
    (iOa 8 (.mv (.t 55)) (rg [0, 12])),
    (iOa 9 (.mv (.t 56)) (rg [0, 14]))])
  (.seq (.region [(iO 57 (.mv (.t 9)))])
  (.cond (.t 57)
  (.seq (.region [(iO 4 (.mv (.c (.tv .bool (false : Bool)))))])
    .ret)
  .skip)))))
  (.region [(iO 58 (.bin .add (.t 41) (nI 1))),
    (iO 41 (.mv (.t 58)))]))))
noncomputable def z18u1t (k n : Nat) (d : z18u1p.D) : Option (XD z18u1x) := prefix_Table_add_intu1 k n d.1.2.2.1 d.1.2.2.2 d.2.1.2.2.2.2.1 d.2.2.1 d.2.2.2.1 d.2.2.2.2.1 d.2.2.2.2.2.1 d.2.2.2.2.2.2
theorem z18u1_k (k : Nat) : UOK P GL (mkU z18u1p z18u1x (z18u1t k k) nilU) z18u1d true z18u1b :=
  loop_typed (ud := z18u1d) (body := z18u1b) (uorc := uorT (z18U1 k)) hmo (T17_ok k).oo (z18U1_k k) (AllU.no (by kernel_rfl)) (t := z18u1t k) (fun d => by kernel_rfl) (fun n d => by kernel_rfl) k
noncomputable def z18U2 (k : Nat) : List (Nat × Ent) := (1, ⟨mkU z18u1p z18u1x (z18u1t k k) nilU⟩) :: z18U1 k
theorem z18U2_k (k : Nat) : UTab (z18U2 k) := (z18U1_k k).cons (mkU_nat nilU_nat)
noncomputable def z18u2d : UDef := ⟨[(0, none), (3, none), (61, none), (62, none)], [10, 62, 63, 64, 65, 66, 67, 68, 69, 70, 71, 72, 73, 74, 75, 76], [((.exit 2), [])], []⟩
noncomputable def z18u2p : XPat := ⟨.normal, [(.ptr 0 []), (.ptr 4 []), (.tv (.int .i64)), (.tv (.int .i64))], [(.box (.cons (.row 5) (.cons (.mp 1) (.cons (.mp 2) (.cons (.mp 3) (.cons (.tv (.int .i64)) .nil)))))), (.mp .str), (.mp (.int .i64)), (.mp .str), (.box (.tv YReader)), (.row YReader false)]⟩
noncomputable def z18u2x : List XPat := [⟨(.exit 2), [], [(.box (.cons (.row 5) (.cons (.mp 1) (.cons (.mp 2) (.cons (.mp 3) (.cons (.tv (.int .i64)) .nil)))))), (.mp .str), (.mp (.int .i64)), (.mp .str), (.box (.tv YReader)), (.row YReader false)]⟩]
noncomputable def prefix_Table_add_intu2 (k : Nat) : Nat → (Int) → (Int) → (Int) → (List ((List UInt8) × Int)) → (List ((Int) × Int)) → (List ((List UInt8) × Int)) → (DReader) → (List (DReader)) → Option ((Unit) × (((Unit) × ((Unit) × ((Unit) × ((Unit) × ((Int) × (Unit)))))) × ((List ((List UInt8) × Int)) × ((List ((Int) × Int)) × ((List ((List UInt8) × Int)) × ((DReader) × (List (DReader))))))))
  | 0, _, _, _, _, _, _, _, _ => none
  | n + 1, x0, x1, x2, x3, x4, x5, x6, x7 =>
    bif (decide (x1 < x0)) then
      bif (decide ((0 : Int) ≤ (wr .i64 (x1 + 1)) ∧ (wr .i64 (x1 + 1)) ≤ (((List.length x6.1) : Nat) : Int))) then
        Option.bind (prefix_Table_add_intu2 k n x0 (wr .i64 (x1 + 1)) x2 x3 x4 (mset .str (List.drop 0 (List.take (Int.toNat (wr .i64 (x1 + 1))) x6.1)) (wr .i64 ((mval .str (List.drop 0 (List.take (Int.toNat (wr .i64 (x1 + 1))) x6.1)) x5) + 1)) x5) x6 x7) fun r => some r
      else
        none
    else
    some ((), (((), ((), ((), ((), (x2, ()))))), (x3, (x4, (x5, (x6, x7))))))
noncomputable def z18u2b : AC :=
  (.seq (.region [(iO 63 (.bin .lss (.t 62) (.t 61)))])
  (.seq (.cond (.t 63)
  .skip
  (.exit 2))
  (.seq (.block 3 (.seq (.region [(iO 64 (.mv (.t 62))),
    (iO 10 (.mv (.t 64)))])
  (.draw [(iO 65 (.mv (.t 0))),
    (iOa 66 (.nilc (.t 65)) [0]),
    (iOa 67 (.fad 3 3 (.t 66)) [0, 1]),
    (iOa 68 (.load false 1 (.t 67)) [0, 1, 2]),
    (iO 69 (.fad 0 0 (.t 3))),
    (iOa 70 (.load false 1 (.t 69)) [4]),
    (iO 71 (.mv (.t 10))),
    (iOa 72 (.bin .add (.t 71) (nI 1)) [6]),
    (iOa 73 (.slis (.t 70) none (some (.t 72))) (rg [4, 4])),
    (iOa 74 (.mlook .str false (.t 68) (.t 73)) (rg [0, 9])),
    (iOa 75 (.bin .add (.t 74) (nI 1)) (rg [0, 10])),
    (iSa (.mput .str (.t 68) (.t 73) (.t 75)) (rg [0, 11]))])))
  (.region [(iO 76 (.bin .add (.t 62) (nI 1))),
    (iO 62 (.mv (.t 76)))]))))
noncomputable def z18u2t (k n : Nat) (d : z18u2p.D) : Option (XD z18u2x) := prefix_Table_add_intu2 k n d.1.2.2.1 d.1.2.2.2 d.2.1.2.2.2.2.1 d.2.2.1 d.2.2.2.1 d.2.2.2.2.1 d.2.2.2.2.2.1 d.2.2.2.2.2.2
theorem z18u2_k (k : Nat) : UOK P GL (mkU z18u2p z18u2x (z18u2t k k) nilU) z18u2d true z18u2b :=
  loop_typed (ud := z18u2d) (body := z18u2b) (uorc := uorT (z18U2 k)) hmo (T17_ok k).oo (z18U2_k k) (AllU.no (by kernel_rfl)) (t := z18u2t k) (fun d => by kernel_rfl) (fun n d => by kernel_rfl) k
noncomputable def z18U3 (k : Nat) : List (Nat × Ent) := (2, ⟨mkU z18u2p z18u2x (z18u2t k k) nilU⟩) :: z18U2 k
theorem z18U3_k (k : Nat) : UTab (z18U3 k) := (z18U2_k k).cons (mkU_nat nilU_nat)
noncomputable def prefix_Table_add_int (k : Nat) (x0 : DReader) (x1 : Int) (x2 : List ((List UInt8) × Int)) (x3 : List ((Int) × Int)) (x4 : List ((List UInt8) × Int)) (x5 : List (DReader)) : Option ((Bool) × (((Unit) × ((Unit) × ((Unit) × ((Unit) × ((Int) × (Unit)))))) × ((List ((List UInt8) × Int)) × ((List ((Int) × Int)) × ((List ((List UInt8) × Int)) × (List (DReader))))))) :=
  Option.bind (prefix_Table_add_intu0 k (mhas (.int .i64) x0.2.1 x3) x1 x2 x3 x4 x0 x5) fun (v47 : (Bool) × (((Unit) × ((Unit) × ((Unit) × ((Unit) × ((Int) × (Unit)))))) × ((List ((List UInt8) × Int)) × ((List ((Int) × Int)) × ((List ((List UInt8) × Int)) × ((DReader) × (List (DReader)))))))) =>
  bif v47.1 then
    some (false, (((), ((), ((), ((), (v47.2.1.2.2.2.2.1, ()))))), (v47.2.2.1, (v47.2.2.2.1, (v47.2.2.2.2.1, v47.2.2.2.2.2.2)))))
  else
  Option.bind (prefix_Table_add_intu1 k k ((List.length v47.2.2.2.2.2.1.1 : Nat) : Int) 0 v47.2.1.2.2.2.2.1 v47.2.2.1 v47.2.2.2.1 v47.2.2.2.2.1 v47.2.2.2.2.2.1 v47.2.2.2.2.2.2) fun r =>
  Sum.elim (fun (v48 : (Bool) × (((Unit) × ((Unit) × ((Unit) × ((Unit) × ((Int) × (Unit)))))) × ((List ((List UInt8) × Int)) × ((List ((Int) × Int)) × ((List ((List UInt8) × Int)) × ((DReader) × (List (DReader)))))))) =>
    some (v48.1, (((), ((), ((), ((), (v48.2.1.2.2.2.2.1, ()))))), (v48.2.2.1, (v48.2.2.2.1, (v48.2.2.2.2.1, v48.2.2.2.2.2.2))))))
    (fun (v49 : (Unit) × (((Unit) × ((Unit) × ((Unit) × ((Unit) × ((Int) × (Unit)))))) × ((List ((List UInt8) × Int)) × ((List ((Int) × Int)) × ((List ((List UInt8) × Int)) × ((DReader) × (List (DReader)))))))) =>
    Option.bind (prefix_Table_add_intu2 k k ((List.length v49.2.2.2.2.2.1.1 : Nat) : Int) 0 v49.2.1.2.2.2.2.1 v49.2.2.1 v49.2.2.2.1 v49.2.2.2.2.1 v49.2.2.2.2.2.1 v49.2.2.2.2.2.2) fun (v50 : (Unit) × (((Unit) × ((Unit) × ((Unit) × ((Unit) × ((Int) × (Unit)))))) × ((List ((List UInt8) × Int)) × ((List ((Int) × Int)) × ((List ((List UInt8) × Int)) × ((DReader) × (List (DReader)))))))) =>
    bif (inR (((mpos .str v50.2.2.2.2.2.1.1 v50.2.2.1) : Nat) : Int) (List.length (mtouch .str v50.2.2.2.2.2.1.1 v50.2.2.1))) then
      bif (inR (((mpos (.int .i64) v50.2.2.2.2.2.1.2.1 v50.2.2.2.1) : Nat) : Int) (List.length (mtouch (.int .i64) v50.2.2.2.2.2.1.2.1 v50.2.2.2.1))) then
        bif (decide ((List.length v50.2.2.2.2.2.2) + 1 ≤ rowMax)) then
          some (true, (((), ((), ((), ((), ((mxI v50.2.1.2.2.2.2.1 ((List.length v50.2.2.2.2.2.1.1 : Nat) : Int)), ()))))), ((mstore ((List.length v50.2.2.2.2.2.2 : Nat) : Int) (Int.toNat (((mpos .str v50.2.2.2.2.2.1.1 v50.2.2.1) : Nat) : Int)) (mtouch .str v50.2.2.2.2.2.1.1 v50.2.2.1)), ((mstore ((List.length v50.2.2.2.2.2.2 : Nat) : Int) (Int.toNat (((mpos (.int .i64) v50.2.2.2.2.2.1.2.1 v50.2.2.2.1) : Nat) : Int)) (mtouch (.int .i64) v50.2.2.2.2.2.1.2.1 v50.2.2.2.1)), (v50.2.2.2.2.1, (v50.2.2.2.2.2.2 ++ ([v50.2.2.2.2.2.1] : List (DReader))))))))
        else
          none
      else
        none
    else
      none) r
noncomputable def z18b : AC :=
  (.seq (.region [(iO 3 (.box (.t 1))),
    (iO 4 (.mv (.c (.tv .bool (false : Bool)))))])
  (.seq (.seq (.draw [(iO 12 (.mv (.t 0))),
    (iOa 13 (.nilc (.t 12)) [0]),
    (iOa 14 (.fad 2 2 (.t 13)) [0, 1]),
    (iOa 15 (.load false 1 (.t 14)) [0, 1, 2]),
    (iO 16 (.fad 1 1 (.t 3))),
    (iOa 17 (.load false 1 (.t 16)) [4]),
    (iOa 18 (.mlook (.int .i64) true (.t 15) (.t 17)) (rg [0, 6])),
    (iOa 11 (.mv (.t 18)) (rg [0, 7])),
    (iOa 19 (.ext (.t 11) 0) (rg [0, 8])),
    (iOa 20 (.ext (.t 11) 1) (rg [0, 8])),
    (iOa 5 (.mv (.t 19)) (rg [0, 9])),
    (iOa 6 (.mv (.t 20)) (rg [0, 11]))])
  (.seq (.unit 0 z18u0d false z18u0b)
  (.cond (.t 37)
  (.seq (.region [(iO 4 (.mv (.c (.tv .bool (false : Bool)))))])
    .ret)
  .skip)))
  (.seq (.seq (.region [(iO 38 (.fad 0 0 (.t 3))),
    (iO 39 (.load false 1 (.t 38))),
    (iO 40 (.lens (.t 39))),
    (iO 41 (.mv (nI 0)))])
  (.block 0 (.unit 1 z18u1d true z18u1b)))
  (.seq (.seq (.region [(iO 59 (.fad 0 0 (.t 3))),
    (iO 60 (.load false 1 (.t 59))),
    (iO 61 (.lens (.t 60))),
    (iO 62 (.mv (nI 0)))])
  (.block 2 (.unit 2 z18u2d true z18u2b)))
  (.seq (.draw [(iO 77 (.mv (.t 0))),
    (iOa 78 (.nilc (.t 77)) [0]),
    (iOa 79 (.fad 1 1 (.t 78)) [0, 1]),
    (iOa 80 (.load false 1 (.t 79)) [0, 1, 2]),
    (iO 81 (.fad 0 0 (.t 3))),
    (iOa 82 (.load false 1 (.t 81)) [4]),
    (iO 83 (.mv (.t 0))),
    (iOa 84 (.nilc (.t 83)) [6]),
    (iOa 85 (.fad 2 2 (.t 84)) [6, 7]),
    (iOa 86 (.load false 1 (.t 85)) [6, 7, 8]),
    (iO 87 (.fad 1 1 (.t 3))),
    (iOa 88 (.load false 1 (.t 87)) [10]),
    (iO 89 (.mv (.t 0))),
    (iOa 90 (.nilc (.t 89)) [12]),
    (iOa 91 (.fad 0 0 (.t 90)) [12, 13]),
    (iOa 92 (.load false 1 (.t 91)) [12, 13, 14]),
    (iOa 93 (.len (.t 92)) (rg [12, 4])),
    (iO 94 (.mv (.t 0))),
    (iOa 95 (.nilc (.t 94)) [17]),
    (iOa 96 (.fad 0 0 (.t 95)) [17, 18]),
    (iOa 97 (.load false 1 (.t 96)) [17, 18, 19]),
    (iOa 98 (.len (.t 97)) (rg [17, 4])),
    (iOa 99 (.ment .str (.t 80) (.t 82)) (rg [0, 10, 17, 4])),
    (iOa 100 (.ext (.t 99) 1) (rg [0, 10, 17, 4, 22, 1])),
    (iSa (.mest (.t 80) (.t 100) (.t 93)) (rg [0, 10, 12, 9, 22, 2])),
    (iOa 101 (.ment (.int .i64) (.t 86) (.t 88)) (rg [0, 21, 22, 3])),
    (iOa 102 (.ext (.t 101) 1) (rg [0, 21, 22, 4])),
    (iSa (.mest (.t 86) (.t 102) (.t 98)) (rg [0, 27]))])
  (.seq (.draw [(iO 103 (.mv (.t 0))),
    (iO 104 (.mv (.t 0))),
    (iOa 105 (.nilc (.t 104)) [1]),
    (iOa 106 (.fad 0 0 (.t 105)) [1, 2]),
    (iOa 107 (.load false 1 (.t 106)) [1, 2, 3]),
    (iO 108 (.load true 2 (.t 3))),
    (iOa 109 (.bslice YReader [(.t 108)]) [5]),
    (iOa 110 (.app YReader (.t 107) (.t 109)) (rg [1, 6])),
    (iOa 111 (.nilc (.t 103)) (rg [0, 8])),
    (iOa 112 (.fad 0 0 (.t 111)) (rg [0, 9])),
    (iSa (.store 1 none (.t 112) (.t 110)) (rg [0, 10]))])
  (.seq (.draw [(iO 113 (.mv (.t 0))),
    (iO 114 (.mv (.t 0))),
    (iOa 115 (.nilc (.t 114)) [1]),
    (iOa 116 (.fad 4 4 (.t 115)) [1, 2]),
    (iOa 117 (.load false 1 (.t 116)) [1, 2, 3]),
    (iO 118 (.fad 0 0 (.t 3))),
    (iOa 119 (.load false 1 (.t 118)) [5]),
    (iOa 120 (.lens (.t 119)) [5, 6]),
    (iOa 121 (.mx (.t 117) (.t 120)) (rg [1, 7])),
    (iOa 122 (.nilc (.t 113)) (rg [0, 9])),
    (iOa 123 (.fad 4 4 (.t 122)) (rg [0, 10])),
    (iSa (.store 1 none (.t 123) (.t 121)) (rg [0, 11]))])
  (.seq (.region [(iO 4 (.mv (.c (.tv .bool (true : Bool)))))])
  .ret))))))))
noncomputable def z18f : FDef := ⟨2, 124, [.tmp 4 none], z18b⟩
noncomputable def z18p : XPat := ⟨.normal, [(.ptr 0 []), (.tv YReader)], [(.box (.cons (.row 4) (.cons (.mp 1) (.cons (.mp 2) (.cons (.mp 3) (.cons (.tv (.int .i64)) .nil)))))), (.mp .str), (.mp (.int .i64)), (.mp .str), (.row YReader false)]⟩
noncomputable def z18x : List XPat := [⟨.ret, [(.tv .bool)], [(.box (.cons (.row 4) (.cons (.mp 1) (.cons (.mp 2) (.cons (.mp 3) (.cons (.tv (.int .i64)) .nil)))))), (.mp .str), (.mp (.int .i64)), (.mp .str), (.row YReader false)]⟩]
noncomputable def z18t (k : Nat) (d : z18p.D) : Option (XD z18x) := prefix_Table_add_int k d.1.2 d.2.1.2.2.2.2.1 d.2.2.1 d.2.2.2.1 d.2.2.2.2.1 d.2.2.2.2.2
noncomputable def z18_e (k : Nat) : UEntry := mkU z18p z18x (z18t k) nilU
theorem z18_n (k : Nat) : UNat (z18_e k) := mkU_nat nilU_nat
theorem z18_fu (k : Nat) : FU P GL 97 (z18_e k) :=
  fn_typed (uorc := uorT (z18U3 k)) hmo (T17_ok k).oo (z18U3_k k) (fd := z18f) (AllU.seq (AllU.no (by kernel_rfl)) (AllU.seq (AllU.seq (AllU.no (by kernel_rfl)) (AllU.seq (AllU.unit (uorc := uorT (z18U3 k)) (u := 0) (z18u0_k k)) (AllU.no (by kernel_rfl)))) (AllU.seq (AllU.seq (AllU.no (by kernel_rfl)) (AllU.block (AllU.unit (uorc := uorT (z18U3 k)) (u := 1) (z18u1_k k)))) (AllU.seq (AllU.seq (AllU.no (by kernel_rfl)) (AllU.block (AllU.unit (uorc := uorT (z18U3 k)) (u := 2) (z18u2_k k)))) (AllU.no (by kernel_rfl)))))) (fn := Tryd.f97) (by kernel_rfl) (by kernel_rfl) (fun d => by kernel_rfl) FU_nil
noncomputable def T18 (k : Nat) : List (Nat × Ent) := (97, ⟨z18_e k⟩) :: T17 k
theorem T18_ok (k : Nat) : TabOK P GL (T18 k) := (T17_ok k).cons (z18_fu k) (z18_n k)
/-! ### overspill.prefix.Make[int] -/
noncomputable def z19U0 (_ : Nat) : List (Nat × Ent) := []
theorem z19U0_k (k : Nat) : UTab (z19U0 k) := UTab.nil
noncomputable def z19u0d : UDef := ⟨[(0, none)], [7, 8, 9, 10, 11, 12, 13, 14], [(.normal, [(14, none)])], []⟩
noncomputable def z19u0p : XPat := ⟨.normal, [(.tv (.sl YReader))], []⟩
noncomputable def z19u0x : List XPat := [⟨.normal, [(.tv .bool)], []⟩]
noncomputable def prefix_Make_intu0 (k : Nat) (x0 : List (DReader)) : Option (Bool) :=
  bif (decide (((List.length x0 : Nat) : Int) = 0)) then
    some true
  else
  some (decide ((256 : Int) < ((List.length x0 : Nat) : Int)))
noncomputable def z19u0b : AC :=
  (.region [(iO 7 (.mv (.t 0))),
    (iO 8 (.len (.t 7))),
    (iO 9 (.bin .eql (.t 8) (nI 0))),
    (iO 10 (.mv (.t 9))),
    ⟨some 11, some (3, 10, false), (.op (.mv (.t 0))), []⟩,
    ⟨some 12, some (3, 10, false), (.op (.len (.t 11))), []⟩,
    ⟨some 13, some (3, 10, false), (.op (.bin .gtr (.t 12) (nI 256))), []⟩,
    (iO 14 (.pick (.t 10) (.c (.tv .bool (true : Bool))) (.t 13)))])
noncomputable def z19u0t (k : Nat) (d : z19u0p.D) : Option (XD z19u0x) := prefix_Make_intu0 k d
theorem z19u0_k (k : Nat) : UOK P GL (mkU z19u0p z19u0x (z19u0t k) nilU) z19u0d false z19u0b :=
  unit_typed (ud := z19u0d) (body := z19u0b) (uorc := uorT (z19U0 k)) hmo (T18_ok k).oo (z19U0_k k) (AllU.no (by kernel_rfl)) (fun d => by kernel_rfl)
noncomputable def z19U1 (k : Nat) : List (Nat × Ent) := (0, ⟨mkU z19u0p z19u0x (z19u0t k) nilU⟩) :: z19U0 k
theorem z19U1_k (k : Nat) : UTab (z19U1 k) := (z19U0_k k).cons (mkU_nat nilU_nat)
noncomputable def z19u1d : UDef := ⟨[(4, none), (20, none), (21, none), (22, none)], [2, 3, 6, 22, 23, 24, 25, 26, 27, 28, 29, 30], [(.ret, [(2, none), (3, none)]), ((.exit 0), [])], []⟩
noncomputable def z19u1p : XPat := ⟨.normal, [(.ptr 0 []), (.tv (.sl YReader)), (.tv (.int .i64)), (.tv (.int .i64))], [(.box (.cons (.row 4) (.cons (.mp 1) (.cons (.mp 2) (.cons (.mp 3) (.cons (.tv (.int .i64)) .nil)))))), (.mp .str), (.mp (.int .i64)), (.mp .str), (.row YReader false)]⟩
noncomputable def z19u1x : List XPat := [⟨.ret, [.nilp, (.tv (.int .i64))], [(.box (.cons (.row 4) (.cons (.mp 1) (.cons (.mp 2) (.cons (.mp 3) (.cons (.tv (.int .i64)) .nil)))))), (.mp .str), (.mp (.int .i64)), (.mp .str), (.row YReader false)]⟩, ⟨(.exit 0), [], [(.box (.cons (.row 4) (.cons (.mp 1) (.cons (.mp 2) (.cons (.mp 3) (.cons (.tv (.int .i64)) .nil)))))), (.mp .str), (.mp (.int .i64)), (.mp .str), (.row YReader false)]⟩]
noncomputable def prefix_Make_intu1 (k : Nat) : Nat → (List (DReader)) → (Int) → (Int) → (Int) → (List ((List UInt8) × Int)) → (List ((Int) × Int)) → (List ((List UInt8) × Int)) → (List (DReader)) → Option ((((Unit) × (Int)) × (((Unit) × ((Unit) × ((Unit) × ((Unit) × ((Int) × (Unit)))))) × ((List ((List UInt8) × Int)) × ((List ((Int) × Int)) × ((List ((List UInt8) × Int)) × (List (DReader))))))) ⊕ ((Unit) × (((Unit) × ((Unit) × ((Unit) × ((Unit) × ((Int) × (Unit)))))) × ((List ((List UInt8) × Int)) × ((List ((Int) × Int)) × ((List ((List UInt8) × Int)) × (List (DReader))))))))
  | 0, _, _, _, _, _, _, _, _ => none
  | n + 1, x0, x1, x2, x3, x4, x5, x6, x7 =>
    bif (decide (x2 < x1)) then
      bif (inR x2 (List.length x0)) then
        Option.bind (prefix_Table_add_int k (List.getD x0 (Int.toNat x2) (([] : List UInt8), (0, ()))) x3 x4 x5 x6 x7) fun (v52 : (Bool) × (((Unit) × ((Unit) × ((Unit) × ((Unit) × ((Int) × (Unit)))))) × ((List ((List UInt8) × Int)) × ((List ((Int) × Int)) × ((List ((List UInt8) × Int)) × (List (DReader))))))) =>
        bif (!v52.1) then
          some (Sum.inl (((), 1), (((), ((), ((), ((), (v52.2.1.2.2.2.2.1, ()))))), (v52.2.2.1, (v52.2.2.2.1, (v52.2.2.2.2.1, v52.2.2.2.2.2))))))
        else
        Option.bind (prefix_Make_intu1 k n x0 x1 (wr .i64 (x2 + 1)) v52.2.1.2.2.2.2.1 v52.2.2.1 v52.2.2.2.1 v52.2.2.2.2.1 v52.2.2.2.2.2) fun r => Sum.elim (fun w => some (Sum.inl w)) (fun w => some (Sum.inr w)) r
      else
        none
    else
    some (Sum.inr ((), (((), ((), ((), ((), (x3, ()))))), (x4, (x5, (x6, x7))))))
noncomputable def z19u1b : AC :=
  (.seq (.region [(iO 23 (.bin .lss (.t 22) (.t 21)))])
  (.seq (.cond (.t 23)
  .skip
  (.exit 0))
  (.seq (.block 1 (.seq (.region [(iO 24 (.iads YReader (.t 20) (.t 22))),
    (iO 25 (.load true 2 (.t 24))),
    (iO 6 (.alloc 122 (.tv YReader))),
    (iS (.store 2 none (.t 6) (.t 25)))])
  (.seq (.region [(iO 26 (.mv (.t 4))),
    (iO 27 (.load true 2 (.t 6))),
    (iC 28 97 [((.t 26), none), ((.t 27), some YReader)]),
    (iO 29 (.un .not (.t 28)))])
  (.cond (.t 29)
  (.seq (.region [(iO 2 (.mv (.c .nilp))),
      (iO 3 (.mv (nI 1)))])
    .ret)
  .skip))))
  (.region [(iO 30 (.bin .add (.t 22) (nI 1))),
    (iO 22 (.mv (.t 30)))]))))
noncomputable def z19u1t (k n : Nat) (d : z19u1p.D) : Option (XD z19u1x) := prefix_Make_intu1 k n d.1.2.1 d.1.2.2.1 d.1.2.2.2 d.2.1.2.2.2.2.1 d.2.2.1 d.2.2.2.1 d.2.2.2.2.1 d.2.2.2.2.2
theorem z19u1_k (k : Nat) : UOK P GL (mkU z19u1p z19u1x (z19u1t k k) nilU) z19u1d true z19u1b :=
  loop_typed (ud := z19u1d) (body := z19u1b) (uorc := uorT (z19U1 k)) hmo (T18_ok k).oo (z19U1_k k) (AllU.no (by kernel_rfl)) (t := z19u1t k) (fun d => by kernel_rfl) (fun n d => by kernel_rfl) k
noncomputable def z19U2 (k : Nat) : List (Nat × Ent) := (1, ⟨mkU z19u1p z19u1x (z19u1t k k) nilU⟩) :: z19U1 k
theorem z19U2_k (k : Nat) : UTab (z19U2 k) := (z19U1_k k).cons (mkU_nat nilU_nat)
noncomputable def prefix_Make_int (k : Nat) (x0 : List (DReader)) : Option (((Unit) × ((Int) × (Unit))) ⊕ (((Unit) × ((Int) × (Unit))) × (((Unit) × ((Unit) × ((Unit) × ((Unit) × ((Int) × (Unit)))))) × ((List ((List UInt8) × Int)) × ((List ((Int) × Int)) × ((List ((List UInt8) × Int)) × (List (DReader)))))))) :=
  Option.bind (prefix_Make_intu0 k x0) fun (v26 : Bool) =>
  bif v26 then
    some (Sum.inl ((), (1, ())))
  else
  Option.bind (prefix_Make_intu1 k k x0 ((List.length x0 : Nat) : Int) 0 0 ([] : List ((List UInt8) × Int)) ([] : List ((Int) × Int)) ([] : List ((List UInt8) × Int)) ([] : List (DReader))) fun r =>
  Sum.elim (fun (v53 : ((Unit) × (Int)) × (((Unit) × ((Unit) × ((Unit) × ((Unit) × ((Int) × (Unit)))))) × ((List ((List UInt8) × Int)) × ((List ((Int) × Int)) × ((List ((List UInt8) × Int)) × (List (DReader))))))) =>
    some (Sum.inl ((), (v53.1.2, ()))))
    (fun (v54 : (Unit) × (((Unit) × ((Unit) × ((Unit) × ((Unit) × ((Int) × (Unit)))))) × ((List ((List UInt8) × Int)) × ((List ((Int) × Int)) × ((List ((List UInt8) × Int)) × (List (DReader))))))) =>
    some (Sum.inr (((), (0, ())), (((), ((), ((), ((), (v54.2.1.2.2.2.2.1, ()))))), (v54.2.2.1, (v54.2.2.2.1, (v54.2.2.2.2.1, v54.2.2.2.2.2))))))) r
noncomputable def z19b : AC :=
  (.seq (.region [(iO 2 (.mv (.c .nilp))),
    (iO 3 (.mv (nI 0)))])
  (.seq (.seq (.unit 0 z19u0d false z19u0b)
  (.cond (.t 14)
  (.seq (.region [(iO 2 (.mv (.c .nilp))),
      (iO 3 (.mv (nI 1)))])
    .ret)
  .skip))
  (.seq (.region [(iO 15 (.mkmap .str)),
    (iO 16 (.mkmap (.int .i64))),
    (iO 17 (.mkmap .str)),
    (iO 18 (.build 148 (.cons (.row YReader) (.cons .junk (.cons .junk (.cons .junk (.cons (.tv (.int .i64)) .nil))))) [(1, (.fld 1 1), 1, (.t 15)), (2, (.fld 2 2), 1, (.t 16)), (3, (.fld 3 3), 1, (.t 17))])),
    (iO 19 (.box (.t 18))),
    (iO 4 (.mv (.t 19)))])
  (.seq (.seq (.region [(iO 20 (.mv (.t 0))),
    (iO 21 (.len (.t 20))),
    (iO 22 (.mv (nI 0)))])
  (.block 0 (.unit 1 z19u1d true z19u1b)))
  (.seq (.region [(iO 31 (.mv (.t 4))),
    (iO 2 (.mv (.t 31))),
    (iO 3 (.mv (nI 0)))])
  .ret)))))
noncomputable def z19f : FDef := ⟨1, 32, [.tmp 2 none, .tmp 3 none], z19b⟩
noncomputable def z19p : XPat := ⟨.normal, [(.tv (.sl YReader))], []⟩
noncomputable def z19x : List XPat := [⟨.ret, [(.tup (.cons .nilp (.cons (.tv (.int .i64)) .nil)))], []⟩, ⟨.ret, [(.tup (.cons (.ptr 0 []) (.cons (.tv (.int .i64)) .nil)))], [(.box (.cons (.row 4) (.cons (.mp 1) (.cons (.mp 2) (.cons (.mp 3) (.cons (.tv (.int .i64)) .nil)))))), (.mp .str), (.mp (.int .i64)), (.mp .str), (.row YReader false)]⟩]
noncomputable def z19t (k : Nat) (d : z19p.D) : Option (XD z19x) := prefix_Make_int k d
noncomputable def z19_e (k : Nat) : UEntry := mkU z19p z19x (z19t k) nilU
theorem z19_n (k : Nat) : UNat (z19_e k) := mkU_nat nilU_nat
theorem z19_fu (k : Nat) : FU P GL 75 (z19_e k) :=
  fn_typed (uorc := uorT (z19U2 k)) hmo (T18_ok k).oo (z19U2_k k) (fd := z19f) (AllU.seq (AllU.no (by kernel_rfl)) (AllU.seq (AllU.seq (AllU.unit (uorc := uorT (z19U2 k)) (u := 0) (z19u0_k k)) (AllU.no (by kernel_rfl))) (AllU.seq (AllU.no (by kernel_rfl)) (AllU.seq (AllU.seq (AllU.no (by kernel_rfl)) (AllU.block (AllU.unit (uorc := uorT (z19U2 k)) (u := 1) (z19u1_k k)))) (AllU.no (by kernel_rfl)))))) (fn := Tryd.f75) (by kernel_rfl) (by kernel_rfl) (fun d => by kernel_rfl) FU_nil
noncomputable def T19 (k : Nat) : List (Nat × Ent) := (75, ⟨z19_e k⟩) :: T18 k
theorem T19_ok (k : Nat) : TabOK P GL (T19 k) := (T18_ok k).cons (z19_fu k) (z19_n k)
/-! ### overspill.mcbpc.table -/
noncomputable def z20U0 (_ : Nat) : List (Nat × Ent) := []
theorem z20U0_k (k : Nat) : UTab (z20U0 k) := UTab.nil
noncomputable def z20u0d : UDef := ⟨[(4, none), (9, none)], [5, 9, 10, 11, 12, 13, 14, 15], [((.exit 0), [])], []⟩
noncomputable def z20u0p : XPat := ⟨.normal, [(.fn 96 .nil (.cons (.ptr 0 []) (.cons (.ptr 1 []) .nil))), (.tv (.int .i64))], [(.box (.tv .bool)), (.box (.row 2)), (.row YReader false)]⟩
noncomputable def z20u0x : List XPat := [⟨(.exit 0), [], [(.box (.tv .bool)), (.box (.row 2)), (.row YReader false)]⟩]
noncomputable def mcbpc_tableu0 (k : Nat) : Nat → (Int) → (Bool) → (List (DReader)) → Option ((Unit) × ((Bool) × ((Unit) × (List (DReader)))))
  | 0, _, _, _ => none
  | n + 1, x0, x1, x2 =>
    bif (decide (x0 < 6)) then
      Option.bind (mcbpc_table_f1 k x0 x1 x2) fun (v24 : (Unit) × ((Bool) × ((Unit) × (List (DReader))))) =>
      Option.bind (mcbpc_tableu0 k n (wr .i64 (x0 + 1)) v24.2.1 v24.2.2.2) fun r => some r
    else
    some ((), (x1, ((), x2)))
noncomputable def z20u0b : AC :=
  (.seq (.region [(iO 10 (.bin .lss (.t 9) (nI 6)))])
  (.seq (.cond (.t 10)
  .skip
  (.exit 0))
  (.seq (.block 1 (.seq (.region [(iO 11 (.mv (.t 9))),
    (iO 5 (.mv (.t 11)))])
  (.region [(iO 12 (.mv (.t 4))),
    (iO 13 (.mv (.t 5))),
    ⟨some 14, none, (.call (.t 12) [((.t 13), none)]), []⟩])))
  (.region [(iO 15 (.bin .add (.t 9) (nI 1))),
    (iO 9 (.mv (.t 15)))]))))
noncomputable def z20u0t (k n : Nat) (d : z20u0p.D) : Option (XD z20u0x) := mcbpc_tableu0 k n d.1.2 d.2.1 d.2.2.2
theorem z20u0_k (k : Nat) : UOK P GL (mkU z20u0p z20u0x (z20u0t k k) nilU) z20u0d true z20u0b :=
  loop_typed (ud := z20u0d) (body := z20u0b) (uorc := uorT (z20U0 k)) hmo (T19_ok k).oo (z20U0_k k) (AllU.no (by kernel_rfl)) (t := z20u0t k) (fun d => by kernel_rfl) (fun n d => by kernel_rfl) k
noncomputable def z20U1 (k : Nat) : List (Nat × Ent) := (0, ⟨mkU z20u0p z20u0x (z20u0t k k) nilU⟩) :: z20U0 k
theorem z20U1_k (k : Nat) : UTab (z20U1 k) := (z20U0_k k).cons (mkU_nat nilU_nat)
noncomputable def mcbpc_table (k : Nat) (x0 : Bool) : Option ((Unit) ⊕ ((Unit) × (((Unit) × ((Unit) × ((Unit) × ((Unit) × ((Int) × (Unit)))))) × ((List ((List UInt8) × Int)) × ((List ((Int) × Int)) × ((List ((List UInt8) × Int)) × (List (DReader)))))))) :=
  Option.bind (mcbpc_tableu0 k k 0 x0 ([] : List (DReader))) fun (v25 : (Unit) × ((Bool) × ((Unit) × (List (DReader))))) =>
  Option.bind (prefix_Make_int k v25.2.2.2) fun r =>
  Sum.elim (fun (v55 : (Unit) × ((Int) × (Unit))) =>
    some (Sum.inl ()))
    (fun (v56 : ((Unit) × ((Int) × (Unit))) × (((Unit) × ((Unit) × ((Unit) × ((Unit) × ((Int) × (Unit)))))) × ((List ((List UInt8) × Int)) × ((List ((Int) × Int)) × ((List ((List UInt8) × Int)) × (List (DReader))))))) =>
    some (Sum.inr ((), (((), ((), ((), ((), (v56.2.1.2.2.2.2.1, ()))))), (v56.2.2.1, (v56.2.2.2.1, (v56.2.2.2.2.1, v56.2.2.2.2.2))))))) r
noncomputable def z20b : AC :=
  (.seq (.region [(iO 1 (.box (.t 0))),
    (iO 2 (.mv (.c .nilp)))])
  (.seq (.region [(iO 3 (.alloc 120 (.row YReader)))])
  (.seq (.region [(iO 8 (.mkfn 96 [] [(.t 1), (.t 3)])),
    (iO 4 (.mv (.t 8)))])
  (.seq (.seq (.region [(iO 9 (.mv (nI 0)))])
  (.block 0 (.unit 0 z20u0d true z20u0b)))
  (.seq (.region [(iO 17 (.load false 1 (.t 3))),
    (iC 18 75 [((.t 17), some (.sl YReader))]),
    (iO 16 (.mv (.t 18))),
    (iO 19 (.ext (.t 16) 0)),
    (iO 20 (.ext (.t 16) 1)),
    (iO 6 (.mv (.t 19))),
    (iO 7 (.mv (.t 20)))])
  (.seq (.region [(iO 21 (.mv (.t 6))),
    (iO 2 (.mv (.t 21)))])
  .ret))))))
noncomputable def z20f : FDef := ⟨1, 22, [.tmp 2 none], z20b⟩
noncomputable def z20p : XPat := ⟨.normal, [(.tv .bool)], []⟩
noncomputable def z20x : List XPat := [⟨.ret, [.nilp], []⟩, ⟨.ret, [(.ptr 0 [])], [(.box (.cons (.row 4) (.cons (.mp 1) (.cons (.mp 2) (.cons (.mp 3) (.cons (.tv (.int .i64)) .nil)))))), (.mp .str), (.mp (.int .i64)), (.mp .str), (.row YReader false)]⟩]
noncomputable def z20t (k : Nat) (d : z20p.D) : Option (XD z20x) := mcbpc_table k d
noncomputable def z20_e (k : Nat) : UEntry := mkU z20p z20x (z20t k) nilU
theorem z20_n (k : Nat) : UNat (z20_e k) := mkU_nat nilU_nat
theorem z20_fu (k : Nat) : FU P GL 73 (z20_e k) :=
  fn_typed (uorc := uorT (z20U1 k)) hmo (T19_ok k).oo (z20U1_k k) (fd := z20f) (AllU.seq (AllU.no (by kernel_rfl)) (AllU.seq (AllU.no (by kernel_rfl)) (AllU.seq (AllU.no (by kernel_rfl)) (AllU.seq (AllU.seq (AllU.no (by kernel_rfl)) (AllU.block (AllU.unit (uorc := uorT (z20U1 k)) (u := 0) (z20u0_k k)))) (AllU.no (by kernel_rfl)))))) (fn := Tryd.f73) (by kernel_rfl) (by kernel_rfl) (fun d => by kernel_rfl) FU_nil
noncomputable def T20 (k : Nat) : List (Nat × Ent) := (73, ⟨z20_e k⟩) :: T19 k
theorem T20_ok (k : Nat) : TabOK P GL (T20 k) := (T19_ok k).cons (z20_fu k) (z20_n k)
/-! ### (*overspill.prefix.Table[int]).Take -/
noncomputable def z21U0 (_ : Nat) : List (Nat × Ent) := []
theorem z21U0_k (k : Nat) : UTab (z21U0 k) := UTab.nil
noncomputable def z21u0d : UDef := ⟨[(0, none), (1, none)], [13, 14, 15, 16, 17, 18], [(.normal, [(18, none)])], []⟩
noncomputable def z21u0p : XPat := ⟨.normal, [.nilp, (.ptr 0 [])], [(.box (.tv YReader))]⟩
noncomputable def z21u0x : List XPat := [⟨.normal, [(.tv .bool)], [(.box (.tv YReader))]⟩]
noncomputable def prefix_Table_Take_intu0 (k : Nat) (x0 : DReader) : Option ((Bool) × (DReader)) :=
  some (true, x0)
noncomputable def z21u0b : AC :=
  (.region [(iO 13 (.mv (.t 0))),
    (iO 14 (.eqp false (.t 13) (.c .nilp))),
    (iO 15 (.mv (.t 14))),
    ⟨some 16, some (2, 15, false), (.op .bad), []⟩,
    ⟨some 17, some (2, 15, false), (.op .bad), []⟩,
    (iO 18 (.pick (.t 15) (.c (.tv .bool (true : Bool))) (.t 17)))])
noncomputable def z21u0t (k : Nat) (d : z21u0p.D) : Option (XD z21u0x) := prefix_Table_Take_intu0 k d.2
theorem z21u0_k (k : Nat) : UOK P GL (mkU z21u0p z21u0x (z21u0t k) nilU) z21u0d false z21u0b :=
  unit_typed (ud := z21u0d) (body := z21u0b) (uorc := uorT (z21U0 k)) hmo (T20_ok k).oo (z21U0_k k) (AllU.no (by kernel_rfl)) (fun d => by kernel_rfl)
noncomputable def z21U1 (k : Nat) : List (Nat × Ent) := (0, ⟨mkU z21u0p z21u0x (z21u0t k) nilU⟩) :: z21U0 k
theorem z21U1_k (k : Nat) : UTab (z21U1 k) := (z21U0_k k).cons (mkU_nat nilU_nat)
noncomputable def z21u1d : UDef := ⟨[(0, none), (1, none), (6, none), (7, none), (8, none)], [4, 5, 8, 9, 10, 11, 12, 22, 23, 24, 25, 26, 27, 28, 29, 30, 31, 32, 33, 34, 35, 36, 37, 38, 39, 40, 41, 42, 43, 44, 45, 46, 47, 48, 49, 50, 51, 52, 53, 54, 55, 56, 57, 58, 59, 60, 61, 62, 63, 64, 65, 66, 67, 68], [(.ret, [(4, none), (5, none)])], []⟩
noncomputable def z21u1p : XPat := ⟨.normal, [.nilp, (.ptr 0 []), (.tv (.int .i64)), (.tv (.int .i64)), (.tv .str)], [(.box (.tv YReader))]⟩
noncomputable def z21u1x : List XPat := [⟨.ret, [(.tv (.int .i64)), (.tv (.int .i64))], [(.box (.tv YReader))]⟩]
noncomputable def prefix_Table_Take_intu1 (k : Nat) : Nat → (Int) → (Int) → (List UInt8) → (DReader) → Option (((Int) × (Int)) × (DReader))
  | 0, _, _, _, _ => none
  | n + 1, x0, x1, x2, x3 =>
    Option.bind (inbits_Reader_Take k 1 x3) fun (v62 : ((Int) × ((Int) × (Unit))) × (DReader)) =>
    bif (!(decide (v62.1.2.1 = 0))) then
      Option.bind (inbits_Reader_Seek k x1 v62.2) fun (v63 : (Int) × (DReader)) =>
      some ((x0, v62.1.2.1), v63.2)
    else
    bif (decide ((0 : Int) ≤ v62.1.1 ∧ v62.1.1 ≤ (wr .i64 (v62.1.1 + 1)) ∧ (wr .i64 (v62.1.1 + 1)) ≤ ((2 : Nat) : Int))) then
      bif (decide ((List.length x2) + (List.length (List.drop (Int.toNat v62.1.1) (List.take (Int.toNat (wr .i64 (v62.1.1 + 1))) ([48, 49] : List UInt8)))) ≤ strMax)) then
        none
      else
        none
    else
      none
noncomputable def z21u1b : AC :=
  (.block 1 (.seq (.region [(iO 23 (.mv (.t 1))),
    (iC 24 72 [((.t 23), none), ((nI 1), none)]),
    (iO 22 (.mv (.t 24))),
    (iO 25 (.ext (.t 22) 0)),
    (iO 26 (.ext (.t 22) 1)),
    (iO 9 (.mv (.t 25))),
    (iO 10 (.mv (.t 26)))])
  (.seq (.seq (.region [(iO 27 (.mv (.t 10))),
    (iO 28 (.bin .neq (.t 27) (nI 0)))])
  (.cond (.t 28)
  (.seq (.region [(iO 29 (.mv (.t 1))),
      (iO 30 (.mv (.t 7))),
      (iC 31 8 [((.t 29), none), ((.t 30), none)])])
    (.seq (.region [(iO 32 (.mv (.t 6))),
      (iO 33 (.mv (.t 10))),
      (iO 4 (.mv (.t 32))),
      (iO 5 (.mv (.t 33)))])
    .ret))
  .skip))
  (.seq (.region [(iO 34 (.mv (.t 8))),
    (iO 35 (.mv (.t 9))),
    (iO 36 (.mv (.t 9))),
    (iO 37 (.bin .add (.t 36) (nI 1))),
    (iO 38 (.slis (.c (.tv .str (([48, 49] : List UInt8) : List UInt8))) (some (.t 35)) (some (.t 37)))),
    (iO 39 (.bin .add (.t 34) (.t 38))),
    (iO 8 (.mv (.t 39)))])
  (.seq (.seq (.region [(iO 41 (.mv (.t 0))),
    (iO 42 (.nilc (.t 41))),
    (iO 43 .bad),
    (iO 44 .bad),
    (iO 45 .bad),
    (iO 46 .bad),
    (iO 40 .bad),
    (iO 47 .bad),
    (iO 48 .bad),
    (iO 11 .bad),
    (iO 12 .bad)])
  (.seq (.region [(iO 49 .bad)])
  (.cond (.t 49)
  (.seq (.region [(iO 50 .bad),
      (iO 51 .bad),
      (iO 52 .bad),
      (iO 53 .bad),
      (iO 54 .bad),
      (iO 55 .bad),
      (iO 56 .bad),
      (iO 57 .bad),
      (iO 4 .bad),
      (iO 5 .bad)])
    .ret)
  .skip)))
  (.seq (.region [(iO 58 .bad),
    (iO 59 .bad),
    (iO 60 .bad),
    (iO 61 .bad),
    (iO 62 .bad),
    (iO 63 .bad),
    (iO 64 .bad)])
  (.cond (.t 64)
  (.seq (.region [(iO 65 .bad),
      (iO 66 .bad),
      (iO 67 .bad)])
    (.seq (.region [(iO 68 .bad),
      (iO 4 .bad),
      (iO 5 .bad)])
    .ret))
  .skip)))))))
noncomputable def z21u1t (k n : Nat) (d : z21u1p.D) : Option (XD z21u1x) := prefix_Table_Take_intu1 k n d.1.2.2.1 d.1.2.2.2.1 d.1.2.2.2.2 d.2
theorem z21u1_k (k : Nat) : UOK P GL (mkU z21u1p z21u1x (z21u1t k k) nilU) z21u1d true z21u1b :=
  loop_typed (ud := z21u1d) (body := z21u1b) (uorc := uorT (z21U1 k)) hmo (T20_ok k).oo (z21U1_k k) (AllU.no (by kernel_rfl)) (t := z21u1t k) (fun d => by kernel_rfl) (fun n d => by kernel_rfl) k
noncomputable def z21U2 (k : Nat) : List (Nat × Ent) := (1, ⟨mkU z21u1p z21u1x (z21u1t k k) nilU⟩) :: z21U1 k
theorem z21U2_k (k : Nat) : UTab (z21U2 k) := (z21U1_k k).cons (mkU_nat nilU_nat)
noncomputable def prefix_Table_Take_int (k : Nat) (x0 : DReader) : Option (((Int) × ((Int) × (Unit))) × (DReader)) :=
  Option.bind (prefix_Table_Take_intu0 k x0) fun (v58 : (Bool) × (DReader)) =>
  bif v58.1 then
    some ((0, (1, ())), v58.2)
  else
  Option.bind (inbits_Reader_At k v58.2) fun (v59 : (Int) × (DReader)) =>
  Option.bind (prefix_Table_Take_intu1 k k 0 v59.1 ([] : List UInt8) v59.2) fun (v64 : ((Int) × (Int)) × (DReader)) =>
  some ((v64.1.1, (v64.1.2, ())), v64.2)
noncomputable def z21b : AC :=
  (.seq (.region [(iO 4 (.mv (nI 0))),
    (iO 5 (.mv (nI 0)))])
  (.seq (.region [(iO 6 (.mv (nI 0)))])
  (.seq (.seq (.unit 0 z21u0d false z21u0b)
  (.cond (.t 18)
  (.seq (.region [(iO 19 (.mv (.t 6))),
      (iO 4 (.mv (.t 19))),
      (iO 5 (.mv (nI 1)))])
    .ret)
  .skip))
  (.seq (.region [(iO 20 (.mv (.t 1))),
    (iC 21 14 [((.t 20), none)]),
    (iO 7 (.mv (.t 21))),
    (iO 8 (.mv (.c (.tv .str (([] : List UInt8) : List UInt8)))))])
  (.block 0 (.unit 1 z21u1d true z21u1b))))))
noncomputable def z21f : FDef := ⟨2, 69, [.tmp 4 none, .tmp 5 none], z21b⟩
noncomputable def z21p : XPat := ⟨.normal, [.nilp, (.ptr 0 [])], [(.box (.tv YReader))]⟩
noncomputable def z21x : List XPat := [⟨.ret, [(.tup (.cons (.tv (.int .i64)) (.cons (.tv (.int .i64)) .nil)))], [(.box (.tv YReader))]⟩]
noncomputable def z21t (k : Nat) (d : z21p.D) : Option (XD z21x) := prefix_Table_Take_int k d.2
noncomputable def z21_e (k : Nat) : UEntry := mkU z21p z21x (z21t k) nilU
theorem z21_n (k : Nat) : UNat (z21_e k) := mkU_nat nilU_nat
theorem z21_fu (k : Nat) : FU P GL 74 (z21_e k) :=
  fn_typed (uorc := uorT (z21U2 k)) hmo (T20_ok k).oo (z21U2_k k) (fd := z21f) (AllU.seq (AllU.no (by kernel_rfl)) (AllU.seq (AllU.no (by kernel_rfl)) (AllU.seq (AllU.seq (AllU.unit (uorc := uorT (z21U2 k)) (u := 0) (z21u0_k k)) (AllU.no (by kernel_rfl))) (AllU.seq (AllU.no (by kernel_rfl)) (AllU.block (AllU.unit (uorc := uorT (z21U2 k)) (u := 1) (z21u1_k k))))))) (fn := Tryd.f74) (by kernel_rfl) (by kernel_rfl) (fun d => by kernel_rfl) FU_nil
noncomputable def T21 (k : Nat) : List (Nat × Ent) := (74, ⟨z21_e k⟩) :: T20 k
theorem T21_ok (k : Nat) : TabOK P GL (T21 k) := (T20_ok k).cons (z21_fu k) (z21_n k)
/-! ### (*overspill.prefix.Table[int]).Take -/
noncomputable def z22U0 (_ : Nat) : List (Nat × Ent) := []
theorem z22U0_k (k : Nat) : UTab (z22U0 k) := UTab.nil
noncomputable def z22u0d : UDef := ⟨[(0, none), (1, none)], [13, 14, 15, 16, 17, 18], [(.normal, [(18, none)])], []⟩
noncomputable def z22u0p : XPat := ⟨.normal, [(.ptr 0 []), (.ptr 4 [])], [(.box (.cons (.row 5) (.cons (.mp 1) (.cons (.mp 2) (.cons (.mp 3) (.cons (.tv (.int .i64)) .nil)))))), (.mp .str), (.mp (.int .i64)), (.mp .str), (.box (.tv YReader)), (.row YReader false)]⟩
noncomputable def z22u0x : List XPat := [⟨.normal, [(.tv .bool)], [(.box (.cons (.row 5) (.cons (.mp 1) (.cons (.mp 2) (.cons (.mp 3) (.cons (.tv (.int .i64)) .nil)))))), (.mp .str), (.mp (.int .i64)), (.mp .str), (.box (.tv YReader)), (.row YReader false)]⟩]
noncomputable def prefix_Table_Take_int_2u0 (k : Nat) (x0 : Int) (x1 : List ((List UInt8) × Int)) (x2 : List ((Int) × Int)) (x3 : List ((List UInt8) × Int)) (x4 : DReader) (x5 : List (DReader)) : Option ((Bool) × (((Unit) × ((Unit) × ((Unit) × ((Unit) × ((Int) × (Unit)))))) × ((List ((List UInt8) × Int)) × ((List ((Int) × Int)) × ((List ((List UInt8) × Int)) × ((DReader) × (List (DReader)))))))) :=
  some (false, (((), ((), ((), ((), (x0, ()))))), (x1, (x2, (x3, (x4, x5))))))
noncomputable def z22u0b : AC :=
  (.region [(iO 13 (.mv (.t 0))),
    (iO 14 (.eqp false (.t 13) (.c .nilp))),
    (iO 15 (.mv (.t 14))),
    ⟨some 16, some (2, 15, false), (.op (.mv (.t 1))), []⟩,
    ⟨some 17, some (2, 15, false), (.op (.eqp false (.t 16) (.c .nilp))), []⟩,
    (iO 18 (.pick (.t 15) (.c (.tv .bool (true : Bool))) (.t 17)))])
noncomputable def z22u0t (k : Nat) (d : z22u0p.D) : Option (XD z22u0x) := prefix_Table_Take_int_2u0 k d.2.1.2.2.2.2.1 d.2.2.1 d.2.2.2.1 d.2.2.2.2.1 d.2.2.2.2.2.1 d.2.2.2.2.2.2
theorem z22u0_k (k : Nat) : UOK P GL (mkU z22u0p z22u0x (z22u0t k) nilU) z22u0d false z22u0b :=
  unit_typed (ud := z22u0d) (body := z22u0b) (uorc := uorT (z22U0 k)) hmo (T21_ok k).oo (z22U0_k k) (AllU.no (by kernel_rfl)) (fun d => by kernel_rfl)
noncomputable def z22U1 (k : Nat) : List (Nat × Ent) := (0, ⟨mkU z22u0p z22u0x (z22u0t k) nilU⟩) :: z22U0 k
theorem z22U1_k (k : Nat) : UTab (z22U1 k) := (z22U0_k k).cons (mkU_nat nilU_nat)
noncomputable def z22u1d : UDef := ⟨[(0, none), (1, none), (6, none), (7, none), (8, none)], [4, 5, 8, 9, 10, 11, 12, 22, 23, 24, 25, 26, 27, 28, 29, 30, 31, 32, 33, 34, 35, 36, 37, 38, 39, 40, 41, 42, 43, 44, 45, 46, 47, 48, 49, 50, 51, 52, 53, 54, 55, 56, 57, 58, 59, 60, 61, 62, 63, 64, 65, 66, 67, 68], [(.ret, [(4, none), (5, none)])], []⟩
noncomputable def z22u1p : XPat := ⟨.normal, [(.ptr 0 []), (.ptr 4 []), (.tv (.int .i64)), (.tv (.int .i64)), (.tv .str)], [(.box (.cons (.row 5) (.cons (.mp 1) (.cons (.mp 2) (.cons (.mp 3) (.cons (.tv (.int .i64)) .nil)))))), (.mp .str), (.mp (.int .i64)), (.mp .str), (.box (.tv YReader)), (.row YReader false)]⟩
noncomputable def z22u1x : List XPat := [⟨.ret, [(.tv (.int .i64)), (.tv (.int .i64))], [(.box (.cons (.row 5) (.cons (.mp 1) (.cons (.mp 2) (.cons (.mp 3) (.cons (.tv (.int .i64)) .nil)))))), (.mp .str), (.mp (.int .i64)), (.mp .str), (.box (.tv YReader)), (.row YReader false)]⟩]
noncomputable def prefix_Table_Take_int_2u1 (k : Nat) : Nat → (Int) → (Int) → (List UInt8) → (Int) → (List ((List UInt8) × Int)) → (List ((Int) × Int)) → (List ((List UInt8) × Int)) → (DReader) → (List (DReader)) → Option (((Int) × (Int)) × (((Unit) × ((Unit) × ((Unit) × ((Unit) × ((Int) × (Unit)))))) × ((List ((List UInt8) × Int)) × ((List ((Int) × Int)) × ((List ((List UInt8) × Int)) × ((DReader) × (List (DReader))))))))
  | 0, _, _, _, _, _, _, _, _, _ => none
  | n + 1, x0, x1, x2, x3, x4, x5, x6, x7, x8 =>
    Option.bind (inbits_Reader_Take k 1 x7) fun (v73 : ((Int) × ((Int) × (Unit))) × (DReader)) =>
    bif (!(decide (v73.1.2.1 = 0))) then
      Option.bind (inbits_Reader_Seek k x1 v73.2) fun (v74 : (Int) × (DReader)) =>
      some ((x0, v73.1.2.1), (((), ((), ((), ((), (x3, ()))))), (x4, (x5, (x6, (v74.2, x8))))))
    else
    bif (decide ((0 : Int) ≤ v73.1.1 ∧ v73.1.1 ≤ (wr .i64 (v73.1.1 + 1)) ∧ (wr .i64 (v73.1.1 + 1)) ≤ ((2 : Nat) : Int))) then
      bif (decide ((List.length x2) + (List.length (List.drop (Int.toNat v73.1.1) (List.take (Int.toNat (wr .i64 (v73.1.1 + 1))) ([48, 49] : List UInt8)))) ≤ strMax)) then
        bif (mhas .str (x2 ++ (List.drop (Int.toNat v73.1.1) (List.take (Int.toNat (wr .i64 (v73.1.1 + 1))) ([48, 49] : List UInt8)))) x4) then
          bif (inR (mval .str (x2 ++ (List.drop (Int.toNat v73.1.1) (List.take (Int.toNat (wr .i64 (v73.1.1 + 1))) ([48, 49] : List UInt8)))) x4) (List.length x8)) then
            some (((List.getD x8 (Int.toNat (mval .str (x2 ++ (List.drop (Int.toNat v73.1.1) (List.take (Int.toNat (wr .i64 (v73.1.1 + 1))) ([48, 49] : List UInt8)))) x4)) (([] : List UInt8), (0, ()))).2.1, 0), (((), ((), ((), ((), (x3, ()))))), (x4, (x5, (x6, (v73.2, x8))))))
          else
            none
        else
        bif (decide ((mval .str (x2 ++ (List.drop (Int.toNat v73.1.1) (List.take (Int.toNat (wr .i64 (v73.1.1 + 1))) ([48, 49] : List UInt8)))) x6) = 0)) then
          Option.bind (inbits_Reader_Seek k x1 v73.2) fun (v75 : (Int) × (DReader)) =>
          some ((x0, 3), (((), ((), ((), ((), (x3, ()))))), (x4, (x5, (x6, (v75.2, x8))))))
        else
        Option.bind (prefix_Table_Take_int_2u1 k n x0 x1 (x2 ++ (List.drop (Int.toNat v73.1.1) (List.take (Int.toNat (wr .i64 (v73.1.1 + 1))) ([48, 49] : List UInt8)))) x3 x4 x5 x6 v73.2 x8) fun r => some r
      else
        none
    else
      none
noncomputable def z22u1b : AC :=
  (.block 1 (.seq (.region [(iO 23 (.mv (.t 1))),
    (iC 24 72 [((.t 23), none), ((nI 1), none)]),
    (iO 22 (.mv (.t 24))),
    (iO 25 (.ext (.t 22) 0)),
    (iO 26 (.ext (.t 22) 1)),
    (iO 9 (.mv (.t 25))),
    (iO 10 (.mv (.t 26)))])
  (.seq (.seq (.region [(iO 27 (.mv (.t 10))),
    (iO 28 (.bin .neq (.t 27) (nI 0)))])
  (.cond (.t 28)
  (.seq (.region [(iO 29 (.mv (.t 1))),
      (iO 30 (.mv (.t 7))),
      (iC 31 8 [((.t 29), none), ((.t 30), none)])])
    (.seq (.region [(iO 32 (.mv (.t 6))),
      (iO 33 (.mv (.t 10))),
      (iO 4 (.mv (.t 32))),
      (iO 5 (.mv (.t 33)))])
    .ret))
  .skip))
  (.seq (.region [(iO 34 (.mv (.t 8))),
    (iO 35 (.mv (.t 9))),
    (iO 36 (.mv (.t 9))),
    (iO 37 (.bin .add (.t 36) (nI 1))),
    (iO 38 (.slis (.c (.tv .str (([48, 49] : List UInt8) : List UInt8))) (some (.t 35)) (some (.t 37)))),
    (iO 39 (.bin .add (.t 34) (.t 38))),
    (iO 8 (.mv (.t 39)))])
  (.seq (.seq (.region [(iO 41 (.mv (.t 0))),
    (iO 42 (.nilc (.t 41))),
    (iO 43 (.fad 1 1 (.t 42))),
    (iO 44 (.load false 1 (.t 43))),
    (iO 45 (.mv (.t 8))),
    (iO 46 (.mlook .str true (.t 44) (.t 45))),
    (iO 40 (.mv (.t 46))),
    (iO 47 (.ext (.t 40) 0)),
    (iO 48 (.ext (.t 40) 1)),
    (iO 11 (.mv (.t 47))),
    (iO 12 (.mv (.t 48)))])
  (.seq (.region [(iO 49 (.mv (.t 12)))])
  (.cond (.t 49)
  (.seq (.region [(iO 50 (.mv (.t 0))),
      (iO 51 (.nilc (.t 50))),
      (iO 52 (.fad 0 0 (.t 51))),
      (iO 53 (.load false 1 (.t 52))),
      (iO 54 (.mv (.t 11))),
      (iO 55 (.iads YReader (.t 53) (.t 54))),
      (iO 56 (.fad 1 1 (.t 55))),
      (iO 57 (.load false 1 (.t 56))),
      (iO 4 (.mv (.t 57))),
      (iO 5 (.mv (nI 0)))])
    .ret)
  .skip)))
  (.seq (.region [(iO 58 (.mv (.t 0))),
    (iO 59 (.nilc (.t 58))),
    (iO 60 (.fad 3 3 (.t 59))),
    (iO 61 (.load false 1 (.t 60))),
    (iO 62 (.mv (.t 8))),
    (iO 63 (.mlook .str false (.t 61) (.t 62))),
    (iO 64 (.bin .eql (.t 63) (nI 0)))])
  (.cond (.t 64)
  (.seq (.region [(iO 65 (.mv (.t 1))),
      (iO 66 (.mv (.t 7))),
      (iC 67 8 [((.t 65), none), ((.t 66), none)])])
    (.seq (.region [(iO 68 (.mv (.t 6))),
      (iO 4 (.mv (.t 68))),
      (iO 5 (.mv (nI 3)))])
    .ret))
  .skip)))))))
noncomputable def z22u1t (k n : Nat) (d : z22u1p.D) : Option (XD z22u1x) := prefix_Table_Take_int_2u1 k n d.1.2.2.1 d.1.2.2.2.1 d.1.2.2.2.2 d.2.1.2.2.2.2.1 d.2.2.1 d.2.2.2.1 d.2.2.2.2.1 d.2.2.2.2.2.1 d.2.2.2.2.2.2
theorem z22u1_k (k : Nat) : UOK P GL (mkU z22u1p z22u1x (z22u1t k k) nilU) z22u1d true z22u1b :=
  loop_typed (ud := z22u1d) (body := z22u1b) (uorc := uorT (z22U1 k)) hmo (T21_ok k).oo (z22U1_k k) (AllU.no (by kernel_rfl)) (t := z22u1t k) (fun d => by kernel_rfl) (fun n d => by kernel_rfl) k
noncomputable def z22U2 (k : Nat) : List (Nat × Ent) := (1, ⟨mkU z22u1p z22u1x (z22u1t k k) nilU⟩) :: z22U1 k
theorem z22U2_k (k : Nat) : UTab (z22U2 k) := (z22U1_k k).cons (mkU_nat nilU_nat)
noncomputable def prefix_Table_Take_int_2 (k : Nat) (x0 : Int) (x1 : List ((List UInt8) × Int)) (x2 : List ((Int) × Int)) (x3 : List ((List UInt8) × Int)) (x4 : DReader) (x5 : List (DReader)) : Option (((Int) × ((Int) × (Unit))) × (((Unit) × ((Unit) × ((Unit) × ((Unit) × ((Int) × (Unit)))))) × ((List ((List UInt8) × Int)) × ((List ((Int) × Int)) × ((List ((List UInt8) × Int)) × ((DReader) × (List (DReader)))))))) :=
  Option.bind (prefix_Table_Take_int_2u0 k x0 x1 x2 x3 x4 x5) fun (v68 : (Bool) × (((Unit) × ((Unit) × ((Unit) × ((Unit) × ((Int) × (Unit)))))) × ((List ((List UInt8) × Int)) × ((List ((Int) × Int)) × ((List ((List UInt8) × Int)) × ((DReader) × (List (DReader)))))))) =>
  bif v68.1 then
    some ((0, (1, ())), (((), ((), ((), ((), (v68.2.1.2.2.2.2.1, ()))))), (v68.2.2.1, (v68.2.2.2.1, (v68.2.2.2.2.1, (v68.2.2.2.2.2.1, v68.2.2.2.2.2.2))))))
  else
  Option.bind (inbits_Reader_At k v68.2.2.2.2.2.1) fun (v69 : (Int) × (DReader)) =>
  Option.bind (prefix_Table_Take_int_2u1 k k 0 v69.1 ([] : List UInt8) v68.2.1.2.2.2.2.1 v68.2.2.1 v68.2.2.2.1 v68.2.2.2.2.1 v69.2 v68.2.2.2.2.2.2) fun (v76 : ((Int) × (Int)) × (((Unit) × ((Unit) × ((Unit) × ((Unit) × ((Int) × (Unit)))))) × ((List ((List UInt8) × Int)) × ((List ((Int) × Int)) × ((List ((List UInt8) × Int)) × ((DReader) × (List (DReader)))))))) =>
  some ((v76.1.1, (v76.1.2, ())), (((), ((), ((), ((), (v76.2.1.2.2.2.2.1, ()))))), (v76.2.2.1, (v76.2.2.2.1, (v76.2.2.2.2.1, (v76.2.2.2.2.2.1, v76.2.2.2.2.2.2))))))
noncomputable def z22b : AC :=
  (.seq (.region [(iO 4 (.mv (nI 0))),
    (iO 5 (.mv (nI 0)))])
  (.seq (.region [(iO 6 (.mv (nI 0)))])
  (.seq (.seq (.unit 0 z22u0d false z22u0b)
  (.cond (.t 18)
  (.seq (.region [(iO 19 (.mv (.t 6))),
      (iO 4 (.mv (.t 19))),
      (iO 5 (.mv (nI 1)))])
    .ret)
  .skip))
  (.seq (.region [(iO 20 (.mv (.t 1))),
    (iC 21 14 [((.t 20), none)]),
    (iO 7 (.mv (.t 21))),
    (iO 8 (.mv (.c (.tv .str (([] : List UInt8) : List UInt8)))))])
  (.block 0 (.unit 1 z22u1d true z22u1b))))))
noncomputable def z22f : FDef := ⟨2, 69, [.tmp 4 none, .tmp 5 none], z22b⟩
noncomputable def z22p : XPat := ⟨.normal, [(.ptr 0 []), (.ptr 4 [])], [(.box (.cons (.row 5) (.cons (.mp 1) (.cons (.mp 2) (.cons (.mp 3) (.cons (.tv (.int .i64)) .nil)))))), (.mp .str), (.mp (.int .i64)), (.mp .str), (.box (.tv YReader)), (.row YReader false)]⟩
noncomputable def z22x : List XPat := [⟨.ret, [(.tup (.cons (.tv (.int .i64)) (.cons (.tv (.int .i64)) .nil)))], [(.box (.cons (.row 5) (.cons (.mp 1) (.cons (.mp 2) (.cons (.mp 3) (.cons (.tv (.int .i64)) .nil)))))), (.mp .str), (.mp (.int .i64)), (.mp .str), (.box (.tv YReader)), (.row YReader false)]⟩]
noncomputable def z22t (k : Nat) (d : z22p.D) : Option (XD z22x) := prefix_Table_Take_int_2 k d.2.1.2.2.2.2.1 d.2.2.1 d.2.2.2.1 d.2.2.2.2.1 d.2.2.2.2.2.1 d.2.2.2.2.2.2
noncomputable def z22_e (k : Nat) : UEntry := mkU z22p z22x (z22t k) (z21_e k)
theorem z22_n (k : Nat) : UNat (z22_e k) := mkU_nat (z21_n k)
theorem z22_fu (k : Nat) : FU P GL 74 (z22_e k) :=
  fn_typed (uorc := uorT (z22U2 k)) hmo (T21_ok k).oo (z22U2_k k) (fd := z22f) (AllU.seq (AllU.no (by kernel_rfl)) (AllU.seq (AllU.no (by kernel_rfl)) (AllU.seq (AllU.seq (AllU.unit (uorc := uorT (z22U2 k)) (u := 0) (z22u0_k k)) (AllU.no (by kernel_rfl))) (AllU.seq (AllU.no (by kernel_rfl)) (AllU.block (AllU.unit (uorc := uorT (z22U2 k)) (u := 1) (z22u1_k k))))))) (fn := Tryd.f74) (by kernel_rfl) (by kernel_rfl) (fun d => by kernel_rfl) (z21_fu k)
noncomputable def T22 (k : Nat) : List (Nat × Ent) := (74, ⟨z22_e k⟩) :: T21 k
theorem T22_ok (k : Nat) : TabOK P GL (T22 k) := (T21_ok k).cons (z22_fu k) (z22_n k)
/-! ### overspill.mcbpc.Take -/
noncomputable def z23U0 (_ : Nat) : List (Nat × Ent) := []
theorem z23U0_k (k : Nat) : UTab (z23U0 k) := UTab.nil
noncomputable def mcbpc_Take (k : Nat) (x0 : Bool) (x1 : DReader) : Option (((Int) × ((Int) × ((Int) × (Unit)))) × (DReader)) :=
  Option.bind (inbits_Reader_At k x1) fun (v14 : (Int) × (DReader)) =>
  Option.bind (mcbpc_table k x0) fun r =>
  Sum.elim (fun (v57 : Unit) =>
    Option.bind (prefix_Table_Take_int k v14.2) fun (v65 : ((Int) × ((Int) × (Unit))) × (DReader)) =>
    bif (!(decide (v65.1.2.1 = 0))) then
      some ((0, (0, (v65.1.2.1, ()))), v65.2)
    else
    bif (decide ((wr .i64 (Int.tdiv v65.1.1 10)) = 2)) then
      Option.bind (inbits_Reader_Seek k v14.1 v65.2) fun (v66 : (Int) × (DReader)) =>
      some ((0, (0, (6, ()))), v66.2)
    else
    some (((wr .i64 (Int.tdiv v65.1.1 10)), ((Int.tmod v65.1.1 10), (0, ()))), v65.2))
    (fun (v67 : (Unit) × (((Unit) × ((Unit) × ((Unit) × ((Unit) × ((Int) × (Unit)))))) × ((List ((List UInt8) × Int)) × ((List ((Int) × Int)) × ((List ((List UInt8) × Int)) × (List (DReader))))))) =>
    Option.bind (prefix_Table_Take_int_2 k v67.2.1.2.2.2.2.1 v67.2.2.1 v67.2.2.2.1 v67.2.2.2.2.1 v14.2 v67.2.2.2.2.2) fun (v77 : ((Int) × ((Int) × (Unit))) × (((Unit) × ((Unit) × ((Unit) × ((Unit) × ((Int) × (Unit)))))) × ((List ((List UInt8) × Int)) × ((List ((Int) × Int)) × ((List ((List UInt8) × Int)) × ((DReader) × (List (DReader)))))))) =>
    bif (!(decide (v77.1.2.1 = 0))) then
      some ((0, (0, (v77.1.2.1, ()))), v77.2.2.2.2.2.1)
    else
    bif (decide ((wr .i64 (Int.tdiv v77.1.1 10)) = 2)) then
      Option.bind (inbits_Reader_Seek k v14.1 v77.2.2.2.2.2.1) fun (v78 : (Int) × (DReader)) =>
      some ((0, (0, (6, ()))), v78.2)
    else
    some (((wr .i64 (Int.tdiv v77.1.1 10)), ((Int.tmod v77.1.1 10), (0, ()))), v77.2.2.2.2.2.1)) r
noncomputable def z23b : AC :=
  (.seq (.region [(iO 4 (.mv (nI 0))),
    (iO 5 (.mv (nI 0))),
    (iO 6 (.mv (nI 0)))])
  (.seq (.region [(iO 10 (.mv (.t 0))),
    (iC 11 14 [((.t 10), none)]),
    (iO 7 (.mv (.t 11)))])
  (.seq (.region [(iO 13 (.mv (.t 1))),
    (iC 14 73 [((.t 13), none)]),
    (iO 15 (.mv (.t 0))),
    (iC 16 74 [((.t 14), none), ((.t 15), none)]),
    (iO 12 (.mv (.t 16))),
    (iO 17 (.ext (.t 12) 0)),
    (iO 18 (.ext (.t 12) 1)),
    (iO 8 (.mv (.t 17))),
    (iO 9 (.mv (.t 18)))])
  (.seq (.block 0 (.seq (.region [(iO 20 (.mv (.t 9))),
    (iO 21 (.bin .neq (.t 20) (nI 0))),
    (iO 19 (.mv (.t 21)))])
  (.cond (.t 19)
  (.seq (.region [(iO 22 (.mv (.t 9))),
      (iO 4 (.mv (nI 0))),
      (iO 5 (.mv (nI 0))),
      (iO 6 (.mv (.t 22)))])
    .ret)
  (.seq (.region [(iO 24 (.mv (.t 8))),
      (iO 25 (.bin .quo (.t 24) (nI 10))),
      (iO 26 (.bin .eql (.t 25) (nI 2))),
      (iO 23 (.mv (.t 26)))])
    (.cond (.t 23)
    (.seq (.region [(iO 27 (.mv (.t 0))),
        (iO 28 (.mv (.t 7))),
        (iC 29 8 [((.t 27), none), ((.t 28), none)])])
      (.seq (.region [(iO 4 (.mv (nI 0))),
        (iO 5 (.mv (nI 0))),
        (iO 6 (.mv (nI 6)))])
      .ret))
    .skip)))))
  (.seq (.region [(iO 30 (.mv (.t 8))),
    (iO 31 (.bin .quo (.t 30) (nI 10))),
    (iO 32 (.mv (.t 8))),
    (iO 33 (.bin .rem (.t 32) (nI 10))),
    (iO 4 (.mv (.t 31))),
    (iO 5 (.mv (.t 33))),
    (iO 6 (.mv (nI 0)))])
  .ret)))))
noncomputable def z23f : FDef := ⟨2, 34, [.tmp 4 none, .tmp 5 none, .tmp 6 none], z23b⟩
noncomputable def z23p : XPat := ⟨.normal, [(.ptr 0 []), (.tv .bool)], [(.box (.tv YReader))]⟩
noncomputable def z23x : List XPat := [⟨.ret, [(.tup (.cons (.tv (.int .i64)) (.cons (.tv (.int .i64)) (.cons (.tv (.int .i64)) .nil))))], [(.box (.tv YReader))]⟩]
noncomputable def z23t (k : Nat) (d : z23p.D) : Option (XD z23x) := mcbpc_Take k d.1.2 d.2
noncomputable def z23_e (k : Nat) : UEntry := mkU z23p z23x (z23t k) nilU
theorem z23_n (k : Nat) : UNat (z23_e k) := mkU_nat nilU_nat
theorem z23_fu (k : Nat) : FU P GL 51 (z23_e k) :=
  fn_typed (uorc := uorT (z23U0 k)) hmo (T22_ok k).oo (z23U0_k k) (fd := z23f) (AllU.no (by kernel_rfl)) (fn := Tryd.f51) (by kernel_rfl) (by kernel_rfl) (fun d => by kernel_rfl) FU_nil
noncomputable def T23 (k : Nat) : List (Nat × Ent) := (51, ⟨z23_e k⟩) :: T22 k
theorem T23_ok (k : Nat) : TabOK P GL (T23 k) := (T22_ok k).cons (z23_fu k) (z23_n k)
abbrev DEvent : Type := Bool × Int × Int × Unit
abbrev DCell : Type := Int × Bool × Int × Int × (List (Int)) × (List (Int)) × (List (List (DEvent))) × Unit
/-! ### (*overspill.cellin.reader).head -/
noncomputable def z24U0 (_ : Nat) : List (Nat × Ent) := []
theorem z24U0_k (k : Nat) : UTab (z24U0 k) := UTab.nil
noncomputable def z24u0d : UDef := ⟨[(0, none), (1, none)], [16, 17, 18, 19, 20, 21], [(.normal, [(21, none)])], []⟩
noncomputable def z24u0p : XPat := ⟨.normal, [(.ptr 0 []), (.tv .bool)], [(.box (.cons (.ptr 1 []) (.cons (.tv (.int .i64)) .nil))), (.box (.tv YReader))]⟩
noncomputable def z24u0x : List XPat := [⟨.normal, [(.tv .bool)], [(.box (.cons (.ptr 1 []) (.cons (.tv (.int .i64)) .nil))), (.box (.tv YReader))]⟩]
noncomputable def cellin_reader_headu0 (k : Nat) (x0 : Bool) (x1 : Int) (x2 : DReader) : Option ((Bool) × (((Unit) × ((Int) × (Unit))) × (DReader))) :=
  bif x0 then
    Option.bind (cellin_reader_bit k x1 x2) fun (v12 : (Int) × (((Unit) × ((Int) × (Unit))) × (DReader))) =>
    some ((decide (v12.1 = 1)), (((), (v12.2.1.2.1, ())), v12.2.2))
  else
  some (false, (((), (x1, ())), x2))
noncomputable def z24u0b : AC :=
  (.region [(iO 16 (.mv (.t 1))),
    (iO 17 (.mv (.t 16))),
    ⟨some 18, some (1, 17, true), (.op (.mv (.t 0))), []⟩,
    ⟨some 19, some (1, 17, true), (.call (.c (.fn 50 .nil .nil)) [((.t 18), none)]), []⟩,
    ⟨some 20, some (1, 17, true), (.op (.bin .eql (.t 19) (nI 1))), []⟩,
    (iO 21 (.pick (.t 17) (.t 20) (.c (.tv .bool (false : Bool)))))])
noncomputable def z24u0t (k : Nat) (d : z24u0p.D) : Option (XD z24u0x) := cellin_reader_headu0 k d.1.2 d.2.1.2.1 d.2.2
theorem z24u0_k (k : Nat) : UOK P GL (mkU z24u0p z24u0x (z24u0t k) nilU) z24u0d false z24u0b :=
  unit_typed (ud := z24u0d) (body := z24u0b) (uorc := uorT (z24U0 k)) hmo (T23_ok k).oo (z24U0_k k) (AllU.no (by kernel_rfl)) (fun d => by kernel_rfl)
noncomputable def z24U1 (k : Nat) : List (Nat × Ent) := (0, ⟨mkU z24u0p z24u0x (z24u0t k) nilU⟩) :: z24U0 k
theorem z24U1_k (k : Nat) : UTab (z24U1 k) := (z24U0_k k).cons (mkU_nat nilU_nat)
noncomputable def z24u1d : UDef := ⟨[(0, none), (1, none), (2, none)], [6, 7, 8, 9, 10, 11, 12, 13, 14, 15, 16, 17, 18, 19, 20, 21, 22, 23, 24, 25, 26, 27, 28, 29, 30, 31, 32, 33, 34, 35, 36, 37, 38, 39, 40, 41, 42, 43, 44, 45, 46, 47, 48, 49, 50, 51, 52, 53, 54, 55, 56, 57, 58, 59, 60, 61, 62, 63, 64, 65, 66, 67], [(.ret, [(6, none), (7, none)]), ((.exit 0), [])], []⟩
noncomputable def z24u1p : XPat := ⟨.normal, [(.ptr 0 []), (.tv .bool), (.ptr 2 [])], [(.box (.cons (.ptr 1 []) (.cons (.tv (.int .i64)) .nil))), (.box (.tv YReader)), (.box (.tv YCell))]⟩
noncomputable def z24u1x : List XPat := [⟨.ret, [(.tv (.int .i64)), (.tv .bool)], [(.box (.cons (.ptr 1 []) (.cons (.tv (.int .i64)) .nil))), (.box (.tv YReader)), (.box (.tv YCell))]⟩, ⟨(.exit 0), [], [(.box (.cons (.ptr 1 []) (.cons (.tv (.int .i64)) .nil))), (.box (.tv YReader)), (.box (.tv YCell))]⟩]
noncomputable def cellin_reader_headu1 (k : Nat) : Nat → (Bool) → (Int) → (DReader) → (DCell) → Option ((((Int) × (Bool)) × (((Unit) × ((Int) × (Unit))) × ((DReader) × (DCell)))) ⊕ ((Unit) × (((Unit) × ((Int) × (Unit))) × ((DReader) × (DCell)))))
  | 0, _, _, _, _ => none
  | n + 1, x0, x1, x2, x3 =>
    bif (decide (x1 = 0)) then
      Option.bind (cellin_reader_headu0 k x0 x1 x2) fun (v80 : (Bool) × (((Unit) × ((Int) × (Unit))) × (DReader))) =>
      bif v80.1 then
        some (Sum.inl ((0, false), (((), (v80.2.1.2.1, ())), (v80.2.2, (x3.1, (true, x3.2.2))))))
      else
      bif (!(decide (v80.2.1.2.1 = 0))) then
        some (Sum.inr ((), (((), (v80.2.1.2.1, ())), (v80.2.2, x3))))
      else
      Option.bind (mcbpc_Take k x0 v80.2.2) fun (v81 : ((Int) × ((Int) × ((Int) × (Unit)))) × (DReader)) =>
      bif (!(decide (v81.1.2.2.1 = 0))) then
        some (Sum.inr ((), (((), (v81.1.2.2.1, ())), (v81.2, x3))))
      else
      bif (!(decide (v81.1.1 = 5))) then
        some (Sum.inl ((v81.1.2.1, true), (((), (v80.2.1.2.1, ())), (v81.2, (x3.1, (x3.2.1, (v81.1.1, x3.2.2.2)))))))
      else
      bif (decide (x3.1 = 64)) then
        some (Sum.inr ((), (((), (13, ())), (v81.2, x3))))
      else
      Option.bind (cellin_reader_headu1 k n x0 v80.2.1.2.1 v81.2 ((wr .i64 (x3.1 + 1)), x3.2)) fun r => Sum.elim (fun w => some (Sum.inl w)) (fun w => some (Sum.inr w)) r
    else
    some (Sum.inr ((), (((), (x1, ())), (x2, x3))))
noncomputable def z24u1b : AC :=
  (.seq (.seq (.region [(iO 11 (.mv (.t 0))),
    (iO 12 (.nilc (.t 11))),
    (iO 13 (.fad 1 1 (.t 12))),
    (iO 14 (.load false 1 (.t 13))),
    (iO 15 (.bin .eql (.t 14) (nI 0)))])
  (.cond (.t 15)
  .skip
  (.exit 0)))
  (.block 1 (.seq (.seq (.unit 0 z24u0d false z24u0b)
  (.cond (.t 21)
  (.seq (.region [(iO 22 (.mv (.t 2))),
      (iO 23 (.nilc (.t 22))),
      (iO 24 (.fad 1 1 (.t 23))),
      (iS (.store 1 none (.t 24) (.c (.tv .bool (true : Bool)))))])
    (.seq (.region [(iO 6 (.mv (nI 0))),
      (iO 7 (.mv (.c (.tv .bool (false : Bool)))))])
    .ret))
  .skip))
  (.seq (.seq (.region [(iO 25 (.mv (.t 0))),
    (iO 26 (.nilc (.t 25))),
    (iO 27 (.fad 1 1 (.t 26))),
    (iO 28 (.load false 1 (.t 27))),
    (iO 29 (.bin .neq (.t 28) (nI 0)))])
  (.cond (.t 29)
  (.exit 0)
  .skip))
  (.seq (.region [(iO 31 (.mv (.t 0))),
    (iO 32 (.nilc (.t 31))),
    (iO 33 (.fad 0 0 (.t 32))),
    (iO 34 (.load false 1 (.t 33))),
    (iO 35 (.mv (.t 1))),
    (iC 36 51 [((.t 34), none), ((.t 35), none)]),
    (iO 30 (.mv (.t 36))),
    (iO 37 (.ext (.t 30) 0)),
    (iO 38 (.ext (.t 30) 1)),
    (iO 39 (.ext (.t 30) 2)),
    (iO 8 (.mv (.t 37))),
    (iO 9 (.mv (.t 38))),
    (iO 10 (.mv (.t 39)))])
  (.seq (.seq (.region [(iO 40 (.mv (.t 10))),
    (iO 41 (.bin .neq (.t 40) (nI 0)))])
  (.cond (.t 41)
  (.seq (.region [(iO 42 (.mv (.t 0))),
      (iO 43 (.mv (.t 10))),
      (iO 44 (.nilc (.t 42))),
      (iO 45 (.fad 1 1 (.t 44))),
      (iS (.store 1 none (.t 45) (.t 43)))])
    (.exit 0))
  .skip))
  (.seq (.seq (.region [(iO 46 (.mv (.t 8))),
    (iO 47 (.bin .neq (.t 46) (nI 5)))])
  (.cond (.t 47)
  (.seq (.region [(iO 48 (.mv (.t 2))),
      (iO 49 (.mv (.t 8))),
      (iO 50 (.nilc (.t 48))),
      (iO 51 (.fad 2 2 (.t 50))),
      (iS (.store 1 none (.t 51) (.t 49)))])
    (.seq (.region [(iO 52 (.mv (.t 9))),
      (iO 6 (.mv (.t 52))),
      (iO 7 (.mv (.c (.tv .bool (true : Bool)))))])
    .ret))
  .skip))
  (.seq (.seq (.region [(iO 53 (.mv (.t 2))),
    (iO 54 (.nilc (.t 53))),
    (iO 55 (.fad 0 0 (.t 54))),
    (iO 56 (.load false 1 (.t 55))),
    (iO 57 (.bin .eql (.t 56) (nI 64)))])
  (.cond (.t 57)
  (.seq (.region [(iO 58 (.mv (.t 0))),
      (iO 59 (.nilc (.t 58))),
      (iO 60 (.fad 1 1 (.t 59))),
      (iS (.store 1 none (.t 60) (nI 13)))])
    (.exit 0))
  .skip))
  (.region [(iO 61 (.mv (.t 2))),
    (iO 62 (.nilc (.t 61))),
    (iO 63 (.fad 0 0 (.t 62))),
    (iO 64 (.load false 1 (.t 63))),
    (iO 65 (.bin .add (.t 64) (nI 1))),
    (iO 66 (.nilc (.t 61))),
    (iO 67 (.fad 0 0 (.t 66))),
    (iS (.store 1 none (.t 67) (.t 65)))])))))))))
noncomputable def z24u1t (k n : Nat) (d : z24u1p.D) : Option (XD z24u1x) := cellin_reader_headu1 k n d.1.2.1 d.2.1.2.1 d.2.2.1 d.2.2.2
theorem z24u1_k (k : Nat) : UOK P GL (mkU z24u1p z24u1x (z24u1t k k) nilU) z24u1d true z24u1b :=
  loop_typed (ud := z24u1d) (body := z24u1b) (uorc := uorT (z24U1 k)) hmo (T23_ok k).oo (z24U1_k k) (AllU.seq (AllU.no (by kernel_rfl)) (AllU.block (AllU.seq (AllU.seq (AllU.unit (uorc := uorT (z24U1 k)) (u := 0) (z24u0_k k)) (AllU.no (by kernel_rfl))) (AllU.no (by kernel_rfl))))) (t := z24u1t k) (fun d => by kernel_rfl) (fun n d => by kernel_rfl) k
noncomputable def z24U2 (k : Nat) : List (Nat × Ent) := (1, ⟨mkU z24u1p z24u1x (z24u1t k k) nilU⟩) :: z24U1 k
theorem z24U2_k (k : Nat) : UTab (z24U2 k) := (z24U1_k k).cons (mkU_nat nilU_nat)
noncomputable def cellin_reader_head (k : Nat) (x0 : Bool) (x1 : Int) (x2 : DReader) (x3 : DCell) : Option (((Int) × ((Bool) × (Unit))) × (((Unit) × ((Int) × (Unit))) × ((DReader) × (DCell)))) :=
  Option.bind (cellin_reader_headu1 k k x0 x1 x2 x3) fun r =>
  Sum.elim (fun (v82 : ((Int) × (Bool)) × (((Unit) × ((Int) × (Unit))) × ((DReader) × (DCell)))) =>
    some ((v82.1.1, (v82.1.2, ())), (((), (v82.2.1.2.1, ())), (v82.2.2.1, v82.2.2.2))))
    (fun (v83 : (Unit) × (((Unit) × ((Int) × (Unit))) × ((DReader) × (DCell)))) =>
    some ((0, (false, ())), (((), (v83.2.1.2.1, ())), (v83.2.2.1, v83.2.2.2)))) r
noncomputable def z24b : AC :=
  (.seq (.region [(iO 6 (.mv (nI 0))),
    (iO 7 (.mv (.c (.tv .bool (false : Bool)))))])
  (.seq (.block 0 (.unit 1 z24u1d true z24u1b))
  (.seq (.region [(iO 6 (.mv (nI 0))),
    (iO 7 (.mv (.c (.tv .bool (false : Bool)))))])
  .ret)))
noncomputable def z24f : FDef := ⟨3, 68, [.tmp 6 none, .tmp 7 none], z24b⟩
noncomputable def z24p : XPat := ⟨.normal, [(.ptr 0 []), (.tv .bool), (.ptr 2 [])], [(.box (.cons (.ptr 1 []) (.cons (.tv (.int .i64)) .nil))), (.box (.tv YReader)), (.box (.tv YCell))]⟩
noncomputable def z24x : List XPat := [⟨.ret, [(.tup (.cons (.tv (.int .i64)) (.cons (.tv .bool) .nil)))], [(.box (.cons (.ptr 1 []) (.cons (.tv (.int .i64)) .nil))), (.box (.tv YReader)), (.box (.tv YCell))]⟩]
noncomputable def z24t (k : Nat) (d : z24p.D) : Option (XD z24x) := cellin_reader_head k d.1.2.1 d.2.1.2.1 d.2.2.1 d.2.2.2
noncomputable def z24_e (k : Nat) : UEntry := mkU z24p z24x (z24t k) nilU
theorem z24_n (k : Nat) : UNat (z24_e k) := mkU_nat nilU_nat
theorem z24_fu (k : Nat) : FU P GL 24 (z24_e k) :=
  fn_typed (uorc := uorT (z24U2 k)) hmo (T23_ok k).oo (z24U2_k k) (fd := z24f) (AllU.seq (AllU.no (by kernel_rfl)) (AllU.seq (AllU.block (AllU.unit (uorc := uorT (z24U2 k)) (u := 1) (z24u1_k k))) (AllU.no (by kernel_rfl)))) (fn := Tryd.f24) (by kernel_rfl) (by kernel_rfl) (fun d => by kernel_rfl) FU_nil
noncomputable def T24 (k : Nat) : List (Nat × Ent) := (24, ⟨z24_e k⟩) :: T23 k
theorem T24_ok (k : Nat) : TabOK P GL (T24 k) := (T23_ok k).cons (z24_fu k) (z24_n k)
/-! ### overspill.cellin.intra -/
noncomputable def z25U0 (_ : Nat) : List (Nat × Ent) := []
theorem z25U0_k (k : Nat) : UTab (z25U0 k) := UTab.nil
noncomputable def cellin_intra (k : Nat) (x0 : Int) : Option (Bool) :=
  bif (decide (x0 = 3)) then
    some true
  else
  some (decide (x0 = 4))
noncomputable def z25b : AC :=
  (.seq (.region [(iO 2 (.mv (.c (.tv .bool (false : Bool)))))])
  (.seq (.region [(iO 3 (.mv (.t 0))),
    (iO 4 (.bin .eql (.t 3) (nI 3))),
    (iO 5 (.mv (.t 4))),
    ⟨some 6, some (2, 5, false), (.op (.mv (.t 0))), []⟩,
    ⟨some 7, some (2, 5, false), (.op (.bin .eql (.t 6) (nI 4))), []⟩,
    (iO 8 (.pick (.t 5) (.c (.tv .bool (true : Bool))) (.t 7))),
    (iO 2 (.mv (.t 8)))])
  .ret))
noncomputable def z25f : FDef := ⟨1, 9, [.tmp 2 none], z25b⟩
noncomputable def z25p : XPat := ⟨.normal, [(.tv (.int .i64))], []⟩
noncomputable def z25x : List XPat := [⟨.ret, [(.tv .bool)], []⟩]
noncomputable def z25t (k : Nat) (d : z25p.D) : Option (XD z25x) := cellin_intra k d
noncomputable def z25_e (k : Nat) : UEntry := mkU z25p z25x (z25t k) nilU
theorem z25_n (k : Nat) : UNat (z25_e k) := mkU_nat nilU_nat
theorem z25_fu (k : Nat) : FU P GL 53 (z25_e k) :=
  fn_typed (uorc := uorT (z25U0 k)) hmo (T24_ok k).oo (z25U0_k k) (fd := z25f) (AllU.no (by kernel_rfl)) (fn := Tryd.f53) (by kernel_rfl) (by kernel_rfl) (fun d => by kernel_rfl) FU_nil
noncomputable def T25 (k : Nat) : List (Nat × Ent) := (53, ⟨z25_e k⟩) :: T24 k
theorem T25_ok (k : Nat) : TabOK P GL (T25 k) := (T24_ok k).cons (z25_fu k) (z25_n k)
/-! ### overspill.cbpy.rows -/
noncomputable def z26U0 (_ : Nat) : List (Nat × Ent) := []
theorem z26U0_k (k : Nat) : UTab (z26U0 k) := UTab.nil
noncomputable def cbpy_rows (k : Nat) : Option (List (List UInt8)) :=
  some (List.set (List.set (List.set (List.set (List.set (List.set (List.set (List.set (List.set (List.set (List.set (List.set (List.set (List.set (List.set (List.set (Ty.zero (.arr 16 .str)) 0 ([48, 48, 49, 49] : List UInt8)) 1 ([48, 48, 49, 48, 49] : List UInt8)) 2 ([48, 48, 49, 48, 48] : List UInt8)) 3 ([49, 48, 48, 49] : List UInt8)) 4 ([48, 48, 48, 49, 49] : List UInt8)) 5 ([48, 49, 49, 49] : List UInt8)) 6 ([48, 48, 48, 48, 49, 48] : List UInt8)) 7 ([49, 48, 49, 49] : List UInt8)) 8 ([48, 48, 48, 49, 48] : List UInt8)) 9 ([48, 48, 48, 48, 49, 49] : List UInt8)) 10 ([48, 49, 48, 49] : List UInt8)) 11 ([49, 48, 49, 48] : List UInt8)) 12 ([48, 49, 48, 48] : List UInt8)) 13 ([49, 48, 48, 48] : List UInt8)) 14 ([48, 49, 49, 48] : List UInt8)) 15 ([49, 49] : List UInt8))
noncomputable def z26b : AC :=
  (.seq (.region [(iO 0 (.alloc 108 (.tv (.arr 16 .str))))])
  (.seq (.region [(iO 1 (.build 108 (.tv (.arr 16 .str)) [(0, (.idx 0 16 1), 1, (.c (.tv .str (([48, 48, 49, 49] : List UInt8) : List UInt8)))), (1, (.idx 1 16 1), 1, (.c (.tv .str (([48, 48, 49, 48, 49] : List UInt8) : List UInt8)))), (2, (.idx 2 16 1), 1, (.c (.tv .str (([48, 48, 49, 48, 48] : List UInt8) : List UInt8)))), (3, (.idx 3 16 1), 1, (.c (.tv .str (([49, 48, 48, 49] : List UInt8) : List UInt8)))), (4, (.idx 4 16 1), 1, (.c (.tv .str (([48, 48, 48, 49, 49] : List UInt8) : List UInt8)))), (5, (.idx 5 16 1), 1, (.c (.tv .str (([48, 49, 49, 49] : List UInt8) : List UInt8)))), (6, (.idx 6 16 1), 1, (.c (.tv .str (([48, 48, 48, 48, 49, 48] : List UInt8) : List UInt8)))), (7, (.idx 7 16 1), 1, (.c (.tv .str (([49, 48, 49, 49] : List UInt8) : List UInt8)))), (8, (.idx 8 16 1), 1, (.c (.tv .str (([48, 48, 48, 49, 48] : List UInt8) : List UInt8)))), (9, (.idx 9 16 1), 1, (.c (.tv .str (([48, 48, 48, 48, 49, 49] : List UInt8) : List UInt8)))), (10, (.idx 10 16 1), 1, (.c (.tv .str (([48, 49, 48, 49] : List UInt8) : List UInt8)))), (11, (.idx 11 16 1), 1, (.c (.tv .str (([49, 48, 49, 48] : List UInt8) : List UInt8)))), (12, (.idx 12 16 1), 1, (.c (.tv .str (([48, 49, 48, 48] : List UInt8) : List UInt8)))), (13, (.idx 13 16 1), 1, (.c (.tv .str (([49, 48, 48, 48] : List UInt8) : List UInt8)))), (14, (.idx 14 16 1), 1, (.c (.tv .str (([48, 49, 49, 48] : List UInt8) : List UInt8)))), (15, (.idx 15 16 1), 1, (.c (.tv .str (([49, 49] : List UInt8) : List UInt8))))])),
    (iS (.store 16 none (.t 0) (.t 1)))])
  .ret))
noncomputable def z26f : FDef := ⟨0, 2, [.cell 0 16 true (some (.arr 16 .str))], z26b⟩
noncomputable def z26p : XPat := ⟨.normal, [], []⟩
noncomputable def z26x : List XPat := [⟨.ret, [(.tv (.arr 16 .str))], []⟩]
noncomputable def z26t (k : Nat) (d : z26p.D) : Option (XD z26x) := cbpy_rows k
noncomputable def z26_e (k : Nat) : UEntry := mkU z26p z26x (z26t k) nilU
theorem z26_n (k : Nat) : UNat (z26_e k) := mkU_nat nilU_nat
theorem z26_fu (k : Nat) : FU P GL 65 (z26_e k) :=
  fn_typed (uorc := uorT (z26U0 k)) hmo (T25_ok k).oo (z26U0_k k) (fd := z26f) (AllU.no (by kernel_rfl)) (fn := Tryd.f65) (by kernel_rfl) (by kernel_rfl) (fun d => by kernel_rfl) FU_nil
noncomputable def T26 (k : Nat) : List (Nat × Ent) := (65, ⟨z26_e k⟩) :: T25 k
theorem T26_ok (k : Nat) : TabOK P GL (T26 k) := (T25_ok k).cons (z26_fu k) (z26_n k)
/-! ### overspill.cbpy.turned -/
noncomputable def z27U0 (_ : Nat) : List (Nat × Ent) := []
theorem z27U0_k (k : Nat) : UTab (z27U0 k) := UTab.nil
noncomputable def cbpy_turned (k : Nat) (x0 : Bool) (x1 : Int) : Option (Int) :=
  bif x0 then
    some x1
  else
  some (wr .i64 (15 - x1))
noncomputable def z27b : AC :=
  (.seq (.region [(iO 4 (.mv (nI 0)))])
  (.seq (.seq (.region [(iO 5 (.mv (.t 0)))])
  (.cond (.t 5)
  (.seq (.region [(iO 6 (.mv (.t 1))),
      (iO 4 (.mv (.t 6)))])
    .ret)
  .skip))
  (.seq (.region [(iO 7 (.mv (.t 1))),
    (iO 8 (.bin .sub (nI 15) (.t 7))),
    (iO 4 (.mv (.t 8)))])
  .ret)))
noncomputable def z27f : FDef := ⟨2, 9, [.tmp 4 none], z27b⟩
noncomputable def z27p : XPat := ⟨.normal, [(.tv .bool), (.tv (.int .i64))], []⟩
noncomputable def z27x : List XPat := [⟨.ret, [(.tv (.int .i64))], []⟩]
noncomputable def z27t (k : Nat) (d : z27p.D) : Option (XD z27x) := cbpy_turned k d.1 d.2
noncomputable def z27_e (k : Nat) : UEntry := mkU z27p z27x (z27t k) nilU
theorem z27_n (k : Nat) : UNat (z27_e k) := mkU_nat nilU_nat
theorem z27_fu (k : Nat) : FU P GL 66 (z27_e k) :=
  fn_typed (uorc := uorT (z27U0 k)) hmo (T26_ok k).oo (z27U0_k k) (fd := z27f) (AllU.no (by kernel_rfl)) (fn := Tryd.f66) (by kernel_rfl) (by kernel_rfl) (fun d => by kernel_rfl) FU_nil
noncomputable def T27 (k : Nat) : List (Nat × Ent) := (66, ⟨z27_e k⟩) :: T26 k
theorem T27_ok (k : Nat) : TabOK P GL (T27 k) := (T26_ok k).cons (z27_fu k) (z27_n k)
/-! ### overspill.cbpy.Take -/
noncomputable def z28U0 (_ : Nat) : List (Nat × Ent) := []
theorem z28U0_k (k : Nat) : UTab (z28U0 k) := UTab.nil
noncomputable def z28u0d : UDef := ⟨[(1, none), (6, none), (12, none), (13, none)], [6, 7, 8, 13, 14, 15, 16, 17, 18, 19, 20, 21, 22, 23, 24, 25], [((.exit 0), [(6, none)])], []⟩
noncomputable def z28u0p : XPat := ⟨.normal, [(.tv .bool), (.row 0), (.tv (.arr 16 .str)), (.tv (.int .i64))], [(.row YReader false)]⟩
noncomputable def z28u0x : List XPat := [⟨(.exit 0), [(.row 0)], [(.row YReader false)]⟩]
noncomputable def cbpy_Takeu0 (k : Nat) : Nat → (Bool) → (List (List UInt8)) → (Int) → (List (DReader)) → Option ((Unit) × (List (DReader)))
  | 0, _, _, _, _ => none
  | n + 1, x0, x1, x2, x3 =>
    bif (decide (x2 < 16)) then
      bif (inR x2 16) then
        Option.bind (cbpy_turned k x0 x2) fun (v88 : Int) =>
        bif (decide ((List.length x3) + 1 ≤ rowMax)) then
          Option.bind (cbpy_Takeu0 k n x0 x1 (wr .i64 (x2 + 1)) (x3 ++ ([((List.getD x1 (Int.toNat x2) ([] : List UInt8)), (v88, ()))] : List (DReader)))) fun r => some r
        else
          none
      else
        none
    else
    some ((), x3)
noncomputable def z28u0b : AC :=
  (.seq (.region [(iO 14 (.bin .lss (.t 13) (nI 16)))])
  (.seq (.cond (.t 14)
  .skip
  (.exit 0))
  (.seq (.block 1 (.seq (.region [(iO 15 (.mv (.t 13))),
    (iO 16 (.ix 16 1 false (.t 12) (.t 13))),
    (iO 7 (.mv (.t 15))),
    (iO 8 (.mv (.t 16)))])
  (.region [(iO 17 (.mv (.t 6))),
    (iO 18 (.mv (.t 8))),
    (iO 19 (.mv (.t 1))),
    (iO 20 (.mv (.t 7))),
    (iC 21 66 [((.t 19), none), ((.t 20), none)]),
    (iO 22 (.build 122 (.tv YReader) [(0, (.fld 0 0), 1, (.t 18)), (1, (.fld 1 1), 1, (.t 21))])),
    (iO 23 (.bslice YReader [(.t 22)])),
    (iO 24 (.app YReader (.t 17) (.t 23))),
    (iO 6 (.mv (.t 24)))])))
  (.region [(iO 25 (.bin .add (.t 13) (nI 1))),
    (iO 13 (.mv (.t 25)))]))))
noncomputable def z28u0t (k n : Nat) (d : z28u0p.D) : Option (XD z28u0x) := cbpy_Takeu0 k n d.1.1 d.1.2.2.1 d.1.2.2.2 d.2
theorem z28u0_k (k : Nat) : UOK P GL (mkU z28u0p z28u0x (z28u0t k k) nilU) z28u0d true z28u0b :=
  loop_typed (ud := z28u0d) (body := z28u0b) (uorc := uorT (z28U0 k)) hmo (T27_ok k).oo (z28U0_k k) (AllU.no (by kernel_rfl)) (t := z28u0t k) (fun d => by kernel_rfl) (fun n d => by kernel_rfl) k
noncomputable def z28U1 (k : Nat) : List (Nat × Ent) := (0, ⟨mkU z28u0p z28u0x (z28u0t k k) nilU⟩) :: z28U0 k
theorem z28U1_k (k : Nat) : UTab (z28U1 k) := (z28U0_k k).cons (mkU_nat nilU_nat)
noncomputable def cbpy_Take (k : Nat) (x0 : Bool) (x1 : DReader) : Option (((Int) × ((Int) × (Unit))) × (DReader)) :=
  Option.bind (cbpy_rows k) fun (v86 : List (List UInt8)) =>
  Option.bind (cbpy_Takeu0 k k x0 v86 0 ([] : List (DReader))) fun (v89 : (Unit) × (List (DReader))) =>
  Option.bind (prefix_Make_int k v89.2) fun r =>
  Sum.elim (fun (v90 : (Unit) × ((Int) × (Unit))) =>
    Option.bind (prefix_Table_Take_int k x1) fun (v91 : ((Int) × ((Int) × (Unit))) × (DReader)) =>
    some ((v91.1.1, (v91.1.2.1, ())), v91.2))
    (fun (v92 : ((Unit) × ((Int) × (Unit))) × (((Unit) × ((Unit) × ((Unit) × ((Unit) × ((Int) × (Unit)))))) × ((List ((List UInt8) × Int)) × ((List ((Int) × Int)) × ((List ((List UInt8) × Int)) × (List (DReader))))))) =>
    Option.bind (prefix_Table_Take_int_2 k v92.2.1.2.2.2.2.1 v92.2.2.1 v92.2.2.2.1 v92.2.2.2.2.1 x1 v92.2.2.2.2.2) fun (v93 : ((Int) × ((Int) × (Unit))) × (((Unit) × ((Unit) × ((Unit) × ((Unit) × ((Int) × (Unit)))))) × ((List ((List UInt8) × Int)) × ((List ((Int) × Int)) × ((List ((List UInt8) × Int)) × ((DReader) × (List (DReader)))))))) =>
    some ((v93.1.1, (v93.1.2.1, ())), v93.2.2.2.2.2.1)) r
noncomputable def z28b : AC :=
  (.seq (.region [(iO 4 (.mv (nI 0))),
    (iO 5 (.mv (nI 0)))])
  (.seq (.region [(iO 11 (.mkslice YReader (nI 0) (nI 16))),
    (iO 6 (.mv (.t 11)))])
  (.seq (.seq (.region [(iC 12 65 []),
    (iO 13 (.mv (nI 0)))])
  (.block 0 (.unit 0 z28u0d true z28u0b)))
  (.seq (.region [(iO 27 (.mv (.t 6))),
    (iC 28 75 [((.t 27), some (.sl YReader))]),
    (iO 26 (.mv (.t 28))),
    (iO 29 (.ext (.t 26) 0)),
    (iO 30 (.ext (.t 26) 1)),
    (iO 9 (.mv (.t 29))),
    (iO 10 (.mv (.t 30)))])
  (.seq (.region [(iO 31 (.mv (.t 9))),
    (iO 32 (.mv (.t 0))),
    (iC 33 74 [((.t 31), none), ((.t 32), none)]),
    (iO 34 (.ext (.t 33) 0)),
    (iO 35 (.ext (.t 33) 1)),
    (iO 4 (.mv (.t 34))),
    (iO 5 (.mv (.t 35)))])
  .ret)))))
noncomputable def z28f : FDef := ⟨2, 36, [.tmp 4 none, .tmp 5 none], z28b⟩
noncomputable def z28p : XPat := ⟨.normal, [(.ptr 0 []), (.tv .bool)], [(.box (.tv YReader))]⟩
noncomputable def z28x : List XPat := [⟨.ret, [(.tup (.cons (.tv (.int .i64)) (.cons (.tv (.int .i64)) .nil)))], [(.box (.tv YReader))]⟩]
noncomputable def z28t (k : Nat) (d : z28p.D) : Option (XD z28x) := cbpy_Take k d.1.2 d.2
noncomputable def z28_e (k : Nat) : UEntry := mkU z28p z28x (z28t k) nilU
theorem z28_n (k : Nat) : UNat (z28_e k) := mkU_nat nilU_nat
theorem z28_fu (k : Nat) : FU P GL 52 (z28_e k) :=
  fn_typed (uorc := uorT (z28U1 k)) hmo (T27_ok k).oo (z28U1_k k) (fd := z28f) (AllU.seq (AllU.no (by kernel_rfl)) (AllU.seq (AllU.no (by kernel_rfl)) (AllU.seq (AllU.seq (AllU.no (by kernel_rfl)) (AllU.block (AllU.unit (uorc := uorT (z28U1 k)) (u := 0) (z28u0_k k)))) (AllU.no (by kernel_rfl))))) (fn := Tryd.f52) (by kernel_rfl) (by kernel_rfl) (fun d => by kernel_rfl) FU_nil
noncomputable def T28 (k : Nat) : List (Nat × Ent) := (52, ⟨z28_e k⟩) :: T27 k
theorem T28_ok (k : Nat) : TabOK P GL (T28 k) := (T27_ok k).cons (z28_fu k) (z28_n k)
/-! ### overspill.steps.Take -/
noncomputable def z29U0 (_ : Nat) : List (Nat × Ent) := []
theorem z29U0_k (k : Nat) : UTab (z29U0 k) := UTab.nil
noncomputable def steps_Take (k : Nat) (x0 : DReader) : Option (((Int) × ((Int) × (Unit))) × (DReader)) :=
  Option.bind (inbits_Reader_Take k 2 x0) fun (v96 : ((Int) × ((Int) × (Unit))) × (DReader)) =>
  bif (!(decide (v96.1.2.1 = 0))) then
    some ((0, (v96.1.2.1, ())), v96.2)
  else
  bif (decide ((2 : Int) ≤ v96.1.1)) then
    some (((wr .i64 (v96.1.1 - 1)), (0, ())), v96.2)
  else
  some (((wr .i64 ((-1) - v96.1.1)), (0, ())), v96.2)
noncomputable def z29b : AC :=
  (.seq (.region [(iO 2 (.mv (nI 0))),
    (iO 3 (.mv (nI 0)))])
  (.seq (.region [(iO 7 (.mv (.t 0))),
    (iC 8 72 [((.t 7), none), ((nI 2), none)]),
    (iO 6 (.mv (.t 8))),
    (iO 9 (.ext (.t 6) 0)),
    (iO 10 (.ext (.t 6) 1)),
    (iO 4 (.mv (.t 9))),
    (iO 5 (.mv (.t 10)))])
  (.seq (.block 0 (.seq (.region [(iO 12 (.mv (.t 5))),
    (iO 13 (.bin .neq (.t 12) (nI 0))),
    (iO 11 (.mv (.t 13)))])
  (.cond (.t 11)
  (.seq (.region [(iO 14 (.mv (.t 5))),
      (iO 2 (.mv (nI 0))),
      (iO 3 (.mv (.t 14)))])
    .ret)
  (.seq (.region [(iO 16 (.mv (.t 4))),
      (iO 17 (.bin .geq (.t 16) (nI 2))),
      (iO 15 (.mv (.t 17)))])
    (.cond (.t 15)
    (.seq (.region [(iO 18 (.mv (.t 4))),
        (iO 19 (.bin .sub (.t 18) (nI 1))),
        (iO 2 (.mv (.t 19))),
        (iO 3 (.mv (nI 0)))])
      .ret)
    .skip)))))
  (.seq (.region [(iO 20 (.mv (.t 4))),
    (iO 21 (.bin .sub (nI (-1)) (.t 20))),
    (iO 2 (.mv (.t 21))),
    (iO 3 (.mv (nI 0)))])
  .ret))))
noncomputable def z29f : FDef := ⟨1, 22, [.tmp 2 none, .tmp 3 none], z29b⟩
noncomputable def z29p : XPat := ⟨.normal, [(.ptr 0 [])], [(.box (.tv YReader))]⟩
noncomputable def z29x : List XPat := [⟨.ret, [(.tup (.cons (.tv (.int .i64)) (.cons (.tv (.int .i64)) .nil)))], [(.box (.tv YReader))]⟩]
noncomputable def z29t (k : Nat) (d : z29p.D) : Option (XD z29x) := steps_Take k d.2
noncomputable def z29_e (k : Nat) : UEntry := mkU z29p z29x (z29t k) nilU
theorem z29_n (k : Nat) : UNat (z29_e k) := mkU_nat nilU_nat
theorem z29_fu (k : Nat) : FU P GL 54 (z29_e k) :=
  fn_typed (uorc := uorT (z29U0 k)) hmo (T28_ok k).oo (z29U0_k k) (fd := z29f) (AllU.no (by kernel_rfl)) (fn := Tryd.f54) (by kernel_rfl) (by kernel_rfl) (fun d => by kernel_rfl) FU_nil
noncomputable def T29 (k : Nat) : List (Nat × Ent) := (54, ⟨z29_e k⟩) :: T28 k
theorem T29_ok (k : Nat) : TabOK P GL (T29 k) := (T28_ok k).cons (z29_fu k) (z29_n k)
/-! ### overspill.mvd.length -/
noncomputable def z30U0 (_ : Nat) : List (Nat × Ent) := []
theorem z30U0_k (k : Nat) : UTab (z30U0 k) := UTab.nil
noncomputable def mvd_length (k : Nat) (x0 : Int) : Option (Int) :=
  bif (decide (x0 < 4)) then
    some (wr .i64 (x0 + 1))
  else
  bif (decide (x0 = 4)) then
    some 6
  else
  bif (decide (x0 < 8)) then
    some 7
  else
  bif (decide (x0 < 11)) then
    some 9
  else
  bif (decide (x0 < 25)) then
    some 10
  else
  bif (decide (x0 < 31)) then
    some 11
  else
  some 12
noncomputable def z30b : AC :=
  (.seq (.region [(iO 2 (.mv (nI 0)))])
  (.seq (.block 0 (.seq (.region [(iO 4 (.mv (.t 0))),
    (iO 5 (.bin .lss (.t 4) (nI 4))),
    (iO 3 (.mv (.t 5)))])
  (.cond (.t 3)
  (.seq (.region [(iO 6 (.mv (.t 0))),
      (iO 7 (.bin .add (.t 6) (nI 1))),
      (iO 2 (.mv (.t 7)))])
    .ret)
  (.seq (.region [(iO 9 (.mv (.t 0))),
      (iO 10 (.bin .eql (.t 9) (nI 4))),
      (iO 8 (.mv (.t 10)))])
    (.cond (.t 8)
    (.seq (.region [(iO 2 (.mv (nI 6)))])
      .ret)
    (.seq (.region [(iO 12 (.mv (.t 0))),
        (iO 13 (.bin .lss (.t 12) (nI 8))),
        (iO 11 (.mv (.t 13)))])
      (.cond (.t 11)
      (.seq (.region [(iO 2 (.mv (nI 7)))])
        .ret)
      (.seq (.region [(iO 15 (.mv (.t 0))),
          (iO 16 (.bin .lss (.t 15) (nI 11))),
          (iO 14 (.mv (.t 16)))])
        (.cond (.t 14)
        (.seq (.region [(iO 2 (.mv (nI 9)))])
          .ret)
        (.seq (.region [(iO 18 (.mv (.t 0))),
            (iO 19 (.bin .lss (.t 18) (nI 25))),
            (iO 17 (.mv (.t 19)))])
          (.cond (.t 17)
          (.seq (.region [(iO 2 (.mv (nI 10)))])
            .ret)
          (.seq (.region [(iO 21 (.mv (.t 0))),
              (iO 22 (.bin .lss (.t 21) (nI 31))),
              (iO 20 (.mv (.t 22)))])
            (.cond (.t 20)
            (.seq (.region [(iO 2 (.mv (nI 11)))])
              .ret)
            .skip)))))))))))))
  (.seq (.region [(iO 2 (.mv (nI 12)))])
  .ret)))
noncomputable def z30f : FDef := ⟨1, 23, [.tmp 2 none], z30b⟩
noncomputable def z30p : XPat := ⟨.normal, [(.tv (.int .i64))], []⟩
noncomputable def z30x : List XPat := [⟨.ret, [(.tv (.int .i64))], []⟩]
noncomputable def z30t (k : Nat) (d : z30p.D) : Option (XD z30x) := mvd_length k d
noncomputable def z30_e (k : Nat) : UEntry := mkU z30p z30x (z30t k) nilU
theorem z30_n (k : Nat) : UNat (z30_e k) := mkU_nat nilU_nat
theorem z30_fu (k : Nat) : FU P GL 68 (z30_e k) :=
  fn_typed (uorc := uorT (z30U0 k)) hmo (T29_ok k).oo (z30U0_k k) (fd := z30f) (AllU.no (by kernel_rfl)) (fn := Tryd.f68) (by kernel_rfl) (by kernel_rfl) (fun d => by kernel_rfl) FU_nil
noncomputable def T30 (k : Nat) : List (Nat × Ent) := (68, ⟨z30_e k⟩) :: T29 k
theorem T30_ok (k : Nat) : TabOK P GL (T30 k) := (T29_ok k).cons (z30_fu k) (z30_n k)
/-! ### overspill.mvd.found -/
noncomputable def z31U0 (_ : Nat) : List (Nat × Ent) := []
theorem z31U0_k (k : Nat) : UTab (z31U0 k) := UTab.nil
noncomputable def z31u0d : UDef := ⟨[(0, none), (1, none), (7, none), (8, none)], [14, 15, 16, 17, 18, 19, 20, 21, 22, 23, 24], [(.normal, [(14, none)])], []⟩
noncomputable def z31u0p : XPat := ⟨.normal, [(.tv (.int .i64)), (.tv (.int .i64)), (.tv (.int .i64)), (.tv (.int .i64))], []⟩
noncomputable def z31u0x : List XPat := [⟨.normal, [(.tv .bool)], []⟩]
noncomputable def mvd_foundu0 (k : Nat) (x0 : Int) (x1 : Int) (x2 : Int) (x3 : Int) : Option (Bool) :=
  bif (decide (x3 = x1)) then
    bif (inR x2 33) then
      some (decide ((List.getD tbl0 (Int.toNat x2) 0) = x0))
    else
      none
  else
  some false
noncomputable def z31u0b : AC :=
  (.region [(iO 15 (.mv (.t 8))),
    (iO 16 (.mv (.t 1))),
    (iO 17 (.bin .eql (.t 15) (.t 16))),
    (iO 18 (.mv (.t 17))),
    ⟨some 19, some (3, 18, true), (.op (.mv (.t 7))), []⟩,
    ⟨some 20, some (3, 18, true), (.op (.iad 33 1 (.g 0) (.t 19))), []⟩,
    ⟨some 21, some (3, 18, true), (.op (.load false 1 (.t 20))), []⟩,
    ⟨some 22, some (3, 18, true), (.op (.mv (.t 0))), []⟩,
    ⟨some 23, some (3, 18, true), (.op (.bin .eql (.t 21) (.t 22))), []⟩,
    (iO 24 (.pick (.t 18) (.t 23) (.c (.tv .bool (false : Bool))))),
    (iO 14 (.mv (.t 24)))])
noncomputable def z31u0t (k : Nat) (d : z31u0p.D) : Option (XD z31u0x) := mvd_foundu0 k d.1 d.2.1 d.2.2.1 d.2.2.2
theorem z31u0_k (k : Nat) : UOK P GL (mkU z31u0p z31u0x (z31u0t k) nilU) z31u0d false z31u0b :=
  unit_typed (ud := z31u0d) (body := z31u0b) (uorc := uorT (z31U0 k)) hmo (T30_ok k).oo (z31U0_k k) (AllU.no (by kernel_rfl)) (fun d => by kernel_rfl)
noncomputable def z31U1 (k : Nat) : List (Nat × Ent) := (0, ⟨mkU z31u0p z31u0x (z31u0t k) nilU⟩) :: z31U0 k
theorem z31U1_k (k : Nat) : UTab (z31U1 k) := (z31U0_k k).cons (mkU_nat nilU_nat)
noncomputable def z31u1d : UDef := ⟨[(0, none), (1, none), (6, none), (9, none)], [4, 5, 6, 7, 8, 9, 10, 11, 12, 13, 14, 15, 16, 17, 18, 19, 20, 21, 22, 23, 24, 25, 26, 27, 28, 29, 30, 31, 32, 33, 34, 35, 36, 37, 38, 39, 40, 41, 42], [(.ret, [(4, none), (5, none), (6, none)]), ((.exit 0), [(6, none)])], []⟩
noncomputable def z31u1p : XPat := ⟨.normal, [(.tv (.int .i64)), (.tv (.int .i64)), (.tv .bool), (.tv (.int .i64))], []⟩
noncomputable def z31u1x : List XPat := [⟨.ret, [(.tv (.int .i64)), (.tv .bool), (.tv .bool)], []⟩, ⟨(.exit 0), [(.tv .bool)], []⟩]
noncomputable def mvd_foundu1 (k : Nat) : Nat → (Int) → (Int) → (Bool) → (Int) → Option (((Int) × ((Bool) × (Bool))) ⊕ (Bool))
  | 0, _, _, _, _ => none
  | n + 1, x0, x1, x2, x3 =>
    bif (decide (x3 < 33)) then
      Option.bind (mvd_length k x3) fun (v107 : Int) =>
      Option.bind (mvd_foundu0 k x0 x1 x3 v107) fun (v108 : Bool) =>
      bif v108 then
        some (Sum.inl (x3, (true, true)))
      else
      bif (decide (x1 < v107)) then
        bif (inR x3 33) then
          bif (decide ((wr .u64 (wr .i64 (v107 - x1))) < 0)) then
            none
          else
          bif (decide ((shrI .i64 (List.getD tbl0 (Int.toNat x3) 0) (wr .u64 (wr .i64 (v107 - x1)))) = x0)) then
            Option.bind (mvd_foundu1 k n x0 x1 true (wr .i64 (x3 + 1))) fun r => Sum.elim (fun w => some (Sum.inl w)) (fun w => some (Sum.inr w)) r
          else
          Option.bind (mvd_foundu1 k n x0 x1 x2 (wr .i64 (x3 + 1))) fun r => Sum.elim (fun w => some (Sum.inl w)) (fun w => some (Sum.inr w)) r
        else
          none
      else
      Option.bind (mvd_foundu1 k n x0 x1 x2 (wr .i64 (x3 + 1))) fun r => Sum.elim (fun w => some (Sum.inl w)) (fun w => some (Sum.inr w)) r
    else
    some (Sum.inr x2)
noncomputable def z31u1b : AC :=
  (.seq (.region [(iO 10 (.bin .lss (.t 9) (nI 33)))])
  (.seq (.cond (.t 10)
  .skip
  (.exit 0))
  (.seq (.block 1 (.seq (.region [(iO 11 (.mv (.t 9))),
    (iO 7 (.mv (.t 11)))])
  (.seq (.region [(iO 12 (.mv (.t 7))),
    (iC 13 68 [((.t 12), none)]),
    (iO 8 (.mv (.t 13)))])
  (.block 2 (.seq (.unit 0 z31u0d false z31u0b)
  (.cond (.t 14)
  (.seq (.region [(iO 25 (.mv (.t 7))),
      (iO 4 (.mv (.t 25))),
      (iO 5 (.mv (.c (.tv .bool (true : Bool))))),
      (iO 6 (.mv (.c (.tv .bool (true : Bool)))))])
    .ret)
  (.seq (.region [(iO 27 (.mv (.t 8))),
      (iO 28 (.mv (.t 1))),
      (iO 29 (.bin .gtr (.t 27) (.t 28))),
      (iO 30 (.mv (.t 29))),
      ⟨some 31, some (3, 30, true), (.op (.mv (.t 7))), []⟩,
      ⟨some 32, some (3, 30, true), (.op (.iad 33 1 (.g 0) (.t 31))), []⟩,
      ⟨some 33, some (3, 30, true), (.op (.load false 1 (.t 32))), []⟩,
      ⟨some 34, some (3, 30, true), (.op (.mv (.t 8))), []⟩,
      ⟨some 35, some (3, 30, true), (.op (.mv (.t 1))), []⟩,
      ⟨some 36, some (3, 30, true), (.op (.bin .sub (.t 34) (.t 35))), []⟩,
      ⟨some 37, some (3, 30, true), (.op (.conv .u64 (.t 36))), []⟩,
      ⟨some 38, some (3, 30, true), (.op (.bin .shr (.t 33) (.t 37))), []⟩,
      ⟨some 39, some (3, 30, true), (.op (.mv (.t 0))), []⟩,
      ⟨some 40, some (3, 30, true), (.op (.bin .eql (.t 38) (.t 39))), []⟩,
      (iO 41 (.pick (.t 30) (.t 40) (.c (.tv .bool (false : Bool))))),
      (iO 26 (.mv (.t 41)))])
    (.cond (.t 26)
    (.region [(iO 6 (.mv (.c (.tv .bool (true : Bool)))))])
    .skip))))))))
  (.region [(iO 42 (.bin .add (.t 9) (nI 1))),
    (iO 9 (.mv (.t 42)))]))))
noncomputable def z31u1t (k n : Nat) (d : z31u1p.D) : Option (XD z31u1x) := mvd_foundu1 k n d.1 d.2.1 d.2.2.1 d.2.2.2
theorem z31u1_k (k : Nat) : UOK P GL (mkU z31u1p z31u1x (z31u1t k k) nilU) z31u1d true z31u1b :=
  loop_typed (ud := z31u1d) (body := z31u1b) (uorc := uorT (z31U1 k)) hmo (T30_ok k).oo (z31U1_k k) (AllU.seq (AllU.no (by kernel_rfl)) (AllU.seq (AllU.no (by kernel_rfl)) (AllU.seq (AllU.block (AllU.seq (AllU.no (by kernel_rfl)) (AllU.seq (AllU.no (by kernel_rfl)) (AllU.block (AllU.seq (AllU.unit (uorc := uorT (z31U1 k)) (u := 0) (z31u0_k k)) (AllU.no (by kernel_rfl))))))) (AllU.no (by kernel_rfl))))) (t := z31u1t k) (fun d => by kernel_rfl) (fun n d => by kernel_rfl) k
noncomputable def z31U2 (k : Nat) : List (Nat × Ent) := (1, ⟨mkU z31u1p z31u1x (z31u1t k k) nilU⟩) :: z31U1 k
theorem z31U2_k (k : Nat) : UTab (z31U2 k) := (z31U1_k k).cons (mkU_nat nilU_nat)
noncomputable def mvd_found (k : Nat) (x0 : Int) (x1 : Int) : Option ((Int) × ((Bool) × ((Bool) × (Unit)))) :=
  Option.bind (mvd_foundu1 k k x0 x1 false 0) fun r =>
  Sum.elim (fun (v109 : (Int) × ((Bool) × (Bool))) =>
    some (v109.1, (v109.2.1, (v109.2.2, ()))))
    (fun (v110 : Bool) =>
    some (0, (false, (v110, ())))) r
noncomputable def z31b : AC :=
  (.seq (.region [(iO 4 (.mv (nI 0))),
    (iO 5 (.mv (.c (.tv .bool (false : Bool))))),
    (iO 6 (.mv (.c (.tv .bool (false : Bool)))))])
  (.seq (.seq (.region [(iO 9 (.mv (nI 0)))])
  (.block 0 (.unit 1 z31u1d true z31u1b)))
  (.seq (.region [(iO 43 (.mv (.t 6))),
    (iO 4 (.mv (nI 0))),
    (iO 5 (.mv (.c (.tv .bool (false : Bool))))),
    (iO 6 (.mv (.t 43)))])
  .ret)))
noncomputable def z31f : FDef := ⟨2, 44, [.tmp 4 none, .tmp 5 none, .tmp 6 none], z31b⟩
noncomputable def z31p : XPat := ⟨.normal, [(.tv (.int .i64)), (.tv (.int .i64))], []⟩
noncomputable def z31x : List XPat := [⟨.ret, [(.tup (.cons (.tv (.int .i64)) (.cons (.tv .bool) (.cons (.tv .bool) .nil))))], []⟩]
noncomputable def z31t (k : Nat) (d : z31p.D) : Option (XD z31x) := mvd_found k d.1 d.2
noncomputable def z31_e (k : Nat) : UEntry := mkU z31p z31x (z31t k) nilU
theorem z31_n (k : Nat) : UNat (z31_e k) := mkU_nat nilU_nat
theorem z31_fu (k : Nat) : FU P GL 76 (z31_e k) :=
  fn_typed (uorc := uorT (z31U2 k)) hmo (T30_ok k).oo (z31U2_k k) (fd := z31f) (AllU.seq (AllU.no (by kernel_rfl)) (AllU.seq (AllU.seq (AllU.no (by kernel_rfl)) (AllU.block (AllU.unit (uorc := uorT (z31U2 k)) (u := 1) (z31u1_k k)))) (AllU.no (by kernel_rfl)))) (fn := Tryd.f76) (by kernel_rfl) (by kernel_rfl) (fun d => by kernel_rfl) FU_nil
noncomputable def T31 (k : Nat) : List (Nat × Ent) := (76, ⟨z31_e k⟩) :: T30 k
theorem T31_ok (k : Nat) : TabOK P GL (T31 k) := (T30_ok k).cons (z31_fu k) (z31_n k)
/-! ### overspill.mvd.signed -/
noncomputable def z32U0 (_ : Nat) : List (Nat × Ent) := []
theorem z32U0_k (k : Nat) : UTab (z32U0 k) := UTab.nil
noncomputable def mvd_signed (k : Nat) (x0 : Int) (x1 : DReader) : Option (((Int) × ((Int) × (Unit))) × (DReader)) :=
  bif (decide (x0 = 0)) then
    some ((0, (0, ())), x1)
  else
  Option.bind (inbits_Reader_Take k 1 x1) fun (v115 : ((Int) × ((Int) × (Unit))) × (DReader)) =>
  bif (!(decide (v115.1.2.1 = 0))) then
    some ((0, (v115.1.2.1, ())), v115.2)
  else
  bif (decide (v115.1.1 = 1)) then
    some (((wr .i64 (0 - x0)), (0, ())), v115.2)
  else
  bif (decide ((31 : Int) < x0)) then
    some ((0, (3, ())), v115.2)
  else
  some ((x0, (0, ())), v115.2)
noncomputable def z32b : AC :=
  (.seq (.region [(iO 4 (.mv (nI 0))),
    (iO 5 (.mv (nI 0)))])
  (.seq (.seq (.region [(iO 8 (.mv (.t 1))),
    (iO 9 (.bin .eql (.t 8) (nI 0)))])
  (.cond (.t 9)
  (.seq (.region [(iO 4 (.mv (nI 0))),
      (iO 5 (.mv (nI 0)))])
    .ret)
  .skip))
  (.seq (.region [(iO 11 (.mv (.t 0))),
    (iC 12 72 [((.t 11), none), ((nI 1), none)]),
    (iO 10 (.mv (.t 12))),
    (iO 13 (.ext (.t 10) 0)),
    (iO 14 (.ext (.t 10) 1)),
    (iO 6 (.mv (.t 13))),
    (iO 7 (.mv (.t 14)))])
  (.seq (.block 0 (.seq (.region [(iO 16 (.mv (.t 7))),
    (iO 17 (.bin .neq (.t 16) (nI 0))),
    (iO 15 (.mv (.t 17)))])
  (.cond (.t 15)
  (.seq (.region [(iO 18 (.mv (.t 7))),
      (iO 4 (.mv (nI 0))),
      (iO 5 (.mv (.t 18)))])
    .ret)
  (.seq (.region [(iO 20 (.mv (.t 6))),
      (iO 21 (.bin .eql (.t 20) (nI 1))),
      (iO 19 (.mv (.t 21)))])
    (.cond (.t 19)
    (.seq (.region [(iO 22 (.mv (.t 1))),
        (iO 23 (.un .neg (.t 22))),
        (iO 4 (.mv (.t 23))),
        (iO 5 (.mv (nI 0)))])
      .ret)
    (.seq (.region [(iO 25 (.mv (.t 1))),
        (iO 26 (.bin .gtr (.t 25) (nI 31))),
        (iO 24 (.mv (.t 26)))])
      (.cond (.t 24)
      (.seq (.region [(iO 4 (.mv (nI 0))),
          (iO 5 (.mv (nI 3)))])
        .ret)
      .skip)))))))
  (.seq (.region [(iO 27 (.mv (.t 1))),
    (iO 4 (.mv (.t 27))),
    (iO 5 (.mv (nI 0)))])
  .ret)))))
noncomputable def z32f : FDef := ⟨2, 28, [.tmp 4 none, .tmp 5 none], z32b⟩
noncomputable def z32p : XPat := ⟨.normal, [(.ptr 0 []), (.tv (.int .i64))], [(.box (.tv YReader))]⟩
noncomputable def z32x : List XPat := [⟨.ret, [(.tup (.cons (.tv (.int .i64)) (.cons (.tv (.int .i64)) .nil)))], [(.box (.tv YReader))]⟩]
noncomputable def z32t (k : Nat) (d : z32p.D) : Option (XD z32x) := mvd_signed k d.1.2 d.2
noncomputable def z32_e (k : Nat) : UEntry := mkU z32p z32x (z32t k) nilU
theorem z32_n (k : Nat) : UNat (z32_e k) := mkU_nat nilU_nat
theorem z32_fu (k : Nat) : FU P GL 77 (z32_e k) :=
  fn_typed (uorc := uorT (z32U0 k)) hmo (T31_ok k).oo (z32U0_k k) (fd := z32f) (AllU.no (by kernel_rfl)) (fn := Tryd.f77) (by kernel_rfl) (by kernel_rfl) (fun d => by kernel_rfl) FU_nil
noncomputable def T32 (k : Nat) : List (Nat × Ent) := (77, ⟨z32_e k⟩) :: T31 k
theorem T32_ok (k : Nat) : TabOK P GL (T32 k) := (T31_ok k).cons (z32_fu k) (z32_n k)
/-! ### overspill.mvd.Take -/
noncomputable def z33U0 (_ : Nat) : List (Nat × Ent) := []
theorem z33U0_k (k : Nat) : UTab (z33U0 k) := UTab.nil
noncomputable def z33u0d : UDef := ⟨[(8, none), (11, none)], [35, 36, 37, 38, 39, 40], [(.normal, [(40, none)])], []⟩
noncomputable def z33u0p : XPat := ⟨.normal, [(.tv (.int .i64)), (.tv .bool)], []⟩
noncomputable def z33u0x : List XPat := [⟨.normal, [(.tv .bool)], []⟩]
noncomputable def mvd_Takeu0 (k : Nat) (x0 : Int) (x1 : Bool) : Option (Bool) :=
  bif (decide (x0 = 0)) then
    some (!x1)
  else
  some false
noncomputable def z33u0b : AC :=
  (.region [(iO 35 (.mv (.t 8))),
    (iO 36 (.bin .eql (.t 35) (nI 0))),
    (iO 37 (.mv (.t 36))),
    ⟨some 38, some (2, 37, true), (.op (.mv (.t 11))), []⟩,
    ⟨some 39, some (2, 37, true), (.op (.un .not (.t 38))), []⟩,
    (iO 40 (.pick (.t 37) (.t 39) (.c (.tv .bool (false : Bool)))))])
noncomputable def z33u0t (k : Nat) (d : z33u0p.D) : Option (XD z33u0x) := mvd_Takeu0 k d.1 d.2
theorem z33u0_k (k : Nat) : UOK P GL (mkU z33u0p z33u0x (z33u0t k) nilU) z33u0d false z33u0b :=
  unit_typed (ud := z33u0d) (body := z33u0b) (uorc := uorT (z33U0 k)) hmo (T32_ok k).oo (z33U0_k k) (AllU.no (by kernel_rfl)) (fun d => by kernel_rfl)
noncomputable def z33U1 (k : Nat) : List (Nat × Ent) := (0, ⟨mkU z33u0p z33u0x (z33u0t k) nilU⟩) :: z33U0 k
theorem z33U1_k (k : Nat) : UTab (z33U1 k) := (z33U0_k k).cons (mkU_nat nilU_nat)
noncomputable def z33u1d : UDef := ⟨[(8, none), (40, none)], [8], [(.normal, [(8, none)])], []⟩
noncomputable def z33u1p : XPat := ⟨.normal, [(.tv (.int .i64)), (.tv .bool)], []⟩
noncomputable def z33u1x : List XPat := [⟨.normal, [(.tv (.int .i64))], []⟩]
noncomputable def mvd_Takeu1 (k : Nat) (x0 : Int) (x1 : Bool) : Option (Int) :=
  bif x1 then
    some 3
  else
  some x0
noncomputable def z33u1b : AC :=
  (.cond (.t 40)
  (.region [(iO 8 (.mv (nI 3)))])
  .skip)
noncomputable def z33u1t (k : Nat) (d : z33u1p.D) : Option (XD z33u1x) := mvd_Takeu1 k d.1 d.2
theorem z33u1_k (k : Nat) : UOK P GL (mkU z33u1p z33u1x (z33u1t k) nilU) z33u1d false z33u1b :=
  unit_typed (ud := z33u1d) (body := z33u1b) (uorc := uorT (z33U1 k)) hmo (T32_ok k).oo (z33U1_k k) (AllU.no (by kernel_rfl)) (fun d => by kernel_rfl)
noncomputable def z33U2 (k : Nat) : List (Nat × Ent) := (1, ⟨mkU z33u1p z33u1x (z33u1t k) nilU⟩) :: z33U1 k
theorem z33U2_k (k : Nat) : UTab (z33U2 k) := (z33U1_k k).cons (mkU_nat nilU_nat)
noncomputable def z33u2d : UDef := ⟨[(8, none), (10, none)], [41, 42, 43, 44, 45], [(.normal, [(45, none)])], []⟩
noncomputable def z33u2p : XPat := ⟨.normal, [(.tv (.int .i64)), (.tv .bool)], []⟩
noncomputable def z33u2x : List XPat := [⟨.normal, [(.tv .bool)], []⟩]
noncomputable def mvd_Takeu2 (k : Nat) (x0 : Int) (x1 : Bool) : Option (Bool) :=
  bif (decide (x0 = 0)) then
    some x1
  else
  some false
noncomputable def z33u2b : AC :=
  (.region [(iO 41 (.mv (.t 8))),
    (iO 42 (.bin .eql (.t 41) (nI 0))),
    (iO 43 (.mv (.t 42))),
    ⟨some 44, some (2, 43, true), (.op (.mv (.t 10))), []⟩,
    (iO 45 (.pick (.t 43) (.t 44) (.c (.tv .bool (false : Bool)))))])
noncomputable def z33u2t (k : Nat) (d : z33u2p.D) : Option (XD z33u2x) := mvd_Takeu2 k d.1 d.2
theorem z33u2_k (k : Nat) : UOK P GL (mkU z33u2p z33u2x (z33u2t k) nilU) z33u2d false z33u2b :=
  unit_typed (ud := z33u2d) (body := z33u2b) (uorc := uorT (z33U2 k)) hmo (T32_ok k).oo (z33U2_k k) (AllU.no (by kernel_rfl)) (fun d => by kernel_rfl)
noncomputable def z33U3 (k : Nat) : List (Nat × Ent) := (2, ⟨mkU z33u2p z33u2x (z33u2t k) nilU⟩) :: z33U2 k
theorem z33U3_k (k : Nat) : UTab (z33U3 k) := (z33U2_k k).cons (mkU_nat nilU_nat)
noncomputable def z33u3d : UDef := ⟨[(0, none), (8, none), (9, none), (12, none), (45, none)], [8, 12, 46, 47, 48, 49, 50, 51], [(.normal, [(8, none), (12, none)])], []⟩
noncomputable def z33u3p : XPat := ⟨.normal, [(.ptr 0 []), (.tv (.int .i64)), (.tv (.int .i64)), (.tv (.int .i64)), (.tv .bool)], [(.box (.tv YReader))]⟩
noncomputable def z33u3x : List XPat := [⟨.normal, [(.tv (.int .i64)), (.tv (.int .i64))], [(.box (.tv YReader))]⟩]
noncomputable def mvd_Takeu3 (k : Nat) (x0 : Int) (x1 : Int) (x2 : Int) (x3 : Bool) (x4 : DReader) : Option (((Int) × (Int)) × (DReader)) :=
  bif x3 then
    Option.bind (mvd_signed k x1 x4) fun (v117 : ((Int) × ((Int) × (Unit))) × (DReader)) =>
    some ((v117.1.2.1, v117.1.1), v117.2)
  else
  some ((x0, x2), x4)
noncomputable def z33u3b : AC :=
  (.cond (.t 45)
  (.region [(iO 47 (.mv (.t 0))),
      (iO 48 (.mv (.t 9))),
      (iC 49 77 [((.t 47), none), ((.t 48), none)]),
      (iO 46 (.mv (.t 49))),
      (iO 50 (.ext (.t 46) 0)),
      (iO 51 (.ext (.t 46) 1)),
      (iO 12 (.mv (.t 50))),
      (iO 8 (.mv (.t 51)))])
  .skip)
noncomputable def z33u3t (k : Nat) (d : z33u3p.D) : Option (XD z33u3x) := mvd_Takeu3 k d.1.2.1 d.1.2.2.1 d.1.2.2.2.1 d.1.2.2.2.2 d.2
theorem z33u3_k (k : Nat) : UOK P GL (mkU z33u3p z33u3x (z33u3t k) nilU) z33u3d false z33u3b :=
  unit_typed (ud := z33u3d) (body := z33u3b) (uorc := uorT (z33U3 k)) hmo (T32_ok k).oo (z33U3_k k) (AllU.no (by kernel_rfl)) (fun d => by kernel_rfl)
noncomputable def z33U4 (k : Nat) : List (Nat × Ent) := (3, ⟨mkU z33u3p z33u3x (z33u3t k) nilU⟩) :: z33U3 k
theorem z33U4_k (k : Nat) : UTab (z33U4 k) := (z33U3_k k).cons (mkU_nat nilU_nat)
noncomputable def z33u4d : UDef := ⟨[(0, none), (4, none), (5, none), (6, none)], [2, 3, 5, 6, 7, 8, 9, 10, 11, 12, 17, 18, 19, 20, 21, 22, 23, 24, 25, 26, 27, 28, 29, 30, 31, 32, 33, 34, 35, 36, 37, 38, 39, 40, 41, 42, 43, 44, 45, 46, 47, 48, 49, 50, 51, 52, 53, 54, 55, 56, 57, 58, 59], [(.ret, [(2, none), (3, none)])], []⟩
noncomputable def z33u4p : XPat := ⟨.normal, [(.ptr 0 []), (.tv (.int .i64)), (.tv (.int .i64)), (.tv (.int .i64))], [(.box (.tv YReader))]⟩
noncomputable def z33u4x : List XPat := [⟨.ret, [(.tv (.int .i64)), (.tv (.int .i64))], [(.box (.tv YReader))]⟩]
noncomputable def mvd_Takeu4 (k : Nat) : Nat → (Int) → (Int) → (Int) → (DReader) → Option (((Int) × (Int)) × (DReader))
  | 0, _, _, _, _ => none
  | n + 1, x0, x1, x2, x3 =>
    Option.bind (inbits_Reader_Take k 1 x3) fun (v120 : ((Int) × ((Int) × (Unit))) × (DReader)) =>
    Option.bind (mvd_found k (bitop .or .i64 (shlI .i64 x1 1) v120.1.1) x2) fun (v121 : (Int) × ((Bool) × ((Bool) × (Unit)))) =>
    Option.bind (mvd_Takeu0 k v120.1.2.1 v121.2.2.1) fun (v122 : Bool) =>
    Option.bind (mvd_Takeu1 k v120.1.2.1 v122) fun (v123 : Int) =>
    Option.bind (mvd_Takeu2 k v123 v121.2.1) fun (v124 : Bool) =>
    Option.bind (mvd_Takeu3 k v123 v121.1 0 v124 v120.2) fun (v125 : ((Int) × (Int)) × (DReader)) =>
    bif (!(decide (v125.1.1 = 0))) then
      Option.bind (inbits_Reader_Seek k x0 v125.2) fun (v126 : (Int) × (DReader)) =>
      some ((0, v125.1.1), v126.2)
    else
    bif v121.2.1 then
      some ((v125.1.2, 0), v125.2)
    else
    Option.bind (mvd_Takeu4 k n x0 (bitop .or .i64 (shlI .i64 x1 1) v120.1.1) (wr .i64 (x2 + 1)) v125.2) fun r => some r
noncomputable def z33u4b : AC :=
  (.seq (.block 1 (.seq (.region [(iO 20 (.mv (.t 0))),
    (iC 21 72 [((.t 20), none), ((nI 1), none)]),
    (iO 19 (.mv (.t 21))),
    (iO 22 (.ext (.t 19) 0)),
    (iO 23 (.ext (.t 19) 1)),
    (iO 7 (.mv (.t 22))),
    (iO 8 (.mv (.t 23)))])
  (.seq (.region [(iO 24 (.mv (.t 5))),
    (iO 25 (.bin .shl (.t 24) (.c (.tv (.int .u64) (1 : Int))))),
    (iO 26 (.mv (.t 7))),
    (iO 27 (.bin .or (.t 25) (.t 26))),
    (iO 5 (.mv (.t 27)))])
  (.seq (.region [(iO 29 (.mv (.t 5))),
    (iO 30 (.mv (.t 6))),
    (iC 31 76 [((.t 29), none), ((.t 30), none)]),
    (iO 28 (.mv (.t 31))),
    (iO 32 (.ext (.t 28) 0)),
    (iO 33 (.ext (.t 28) 1)),
    (iO 34 (.ext (.t 28) 2)),
    (iO 9 (.mv (.t 32))),
    (iO 10 (.mv (.t 33))),
    (iO 11 (.mv (.t 34)))])
  (.seq (.seq (.unit 0 z33u0d false z33u0b)
  (.unit 1 z33u1d false z33u1b))
  (.seq (.region [(iO 12 (.mv (nI 0)))])
  (.seq (.seq (.unit 2 z33u2d false z33u2b)
  (.unit 3 z33u3d false z33u3b))
  (.seq (.seq (.region [(iO 52 (.mv (.t 8))),
    (iO 53 (.bin .neq (.t 52) (nI 0)))])
  (.cond (.t 53)
  (.seq (.region [(iO 54 (.mv (.t 0))),
      (iO 55 (.mv (.t 4))),
      (iC 56 8 [((.t 54), none), ((.t 55), none)])])
    (.seq (.region [(iO 57 (.mv (.t 8))),
      (iO 2 (.mv (nI 0))),
      (iO 3 (.mv (.t 57)))])
    .ret))
  .skip))
  (.seq (.region [(iO 58 (.mv (.t 10)))])
  (.cond (.t 58)
  (.seq (.region [(iO 59 (.mv (.t 12))),
      (iO 2 (.mv (.t 59))),
      (iO 3 (.mv (nI 0)))])
    .ret)
  .skip))))))))))
  (.region [(iO 17 (.mv (.t 6))),
    (iO 18 (.bin .add (.t 17) (nI 1))),
    (iO 6 (.mv (.t 18)))]))
noncomputable def z33u4t (k n : Nat) (d : z33u4p.D) : Option (XD z33u4x) := mvd_Takeu4 k n d.1.2.1 d.1.2.2.1 d.1.2.2.2 d.2
theorem z33u4_k (k : Nat) : UOK P GL (mkU z33u4p z33u4x (z33u4t k k) nilU) z33u4d true z33u4b :=
  loop_typed (ud := z33u4d) (body := z33u4b) (uorc := uorT (z33U4 k)) hmo (T32_ok k).oo (z33U4_k k) (AllU.seq (AllU.block (AllU.seq (AllU.no (by kernel_rfl)) (AllU.seq (AllU.no (by kernel_rfl)) (AllU.seq (AllU.no (by kernel_rfl)) (AllU.seq (AllU.seq (AllU.unit (uorc := uorT (z33U4 k)) (u := 0) (z33u0_k k)) (AllU.unit (uorc := uorT (z33U4 k)) (u := 1) (z33u1_k k))) (AllU.seq (AllU.no (by kernel_rfl)) (AllU.seq (AllU.seq (AllU.unit (uorc := uorT (z33U4 k)) (u := 2) (z33u2_k k)) (AllU.unit (uorc := uorT (z33U4 k)) (u := 3) (z33u3_k k))) (AllU.no (by kernel_rfl))))))))) (AllU.no (by kernel_rfl))) (t := z33u4t k) (fun d => by kernel_rfl) (fun n d => by kernel_rfl) k
noncomputable def z33U5 (k : Nat) : List (Nat × Ent) := (4, ⟨mkU z33u4p z33u4x (z33u4t k k) nilU⟩) :: z33U4 k
theorem z33U5_k (k : Nat) : UTab (z33U5 k) := (z33U4_k k).cons (mkU_nat nilU_nat)
noncomputable def mvd_Take (k : Nat) (x0 : DReader) : Option (((Int) × ((Int) × (Unit))) × (DReader)) :=
  Option.bind (inbits_Reader_At k x0) fun (v103 : (Int) × (DReader)) =>
  Option.bind (mvd_Takeu4 k k v103.1 0 1 v103.2) fun (v127 : ((Int) × (Int)) × (DReader)) =>
  some ((v127.1.1, (v127.1.2, ())), v127.2)
noncomputable def z33b : AC :=
  (.seq (.region [(iO 2 (.mv (nI 0))),
    (iO 3 (.mv (nI 0)))])
  (.seq (.seq (.region [(iO 13 (.mv (.t 0))),
    (iO 14 (.eqp false (.t 13) (.c .nilp)))])
  (.cond (.t 14)
  (.seq (.region [(iO 2 .bad),
      (iO 3 .bad)])
    .ret)
  .skip))
  (.seq (.region [(iO 15 (.mv (.t 0))),
    (iC 16 14 [((.t 15), none)]),
    (iO 4 (.mv (.t 16)))])
  (.seq (.region [(iO 5 (.mv (nI 0))),
    (iO 6 (.mv (nI 1)))])
  (.block 0 (.unit 4 z33u4d true z33u4b))))))
noncomputable def z33f : FDef := ⟨1, 60, [.tmp 2 none, .tmp 3 none], z33b⟩
noncomputable def z33p : XPat := ⟨.normal, [(.ptr 0 [])], [(.box (.tv YReader))]⟩
noncomputable def z33x : List XPat := [⟨.ret, [(.tup (.cons (.tv (.int .i64)) (.cons (.tv (.int .i64)) .nil)))], [(.box (.tv YReader))]⟩]
noncomputable def z33t (k : Nat) (d : z33p.D) : Option (XD z33x) := mvd_Take k d.2
noncomputable def z33_e (k : Nat) : UEntry := mkU z33p z33x (z33t k) nilU
theorem z33_n (k : Nat) : UNat (z33_e k) := mkU_nat nilU_nat
theorem z33_fu (k : Nat) : FU P GL 55 (z33_e k) :=
  fn_typed (uorc := uorT (z33U5 k)) hmo (T32_ok k).oo (z33U5_k k) (fd := z33f) (AllU.seq (AllU.no (by kernel_rfl)) (AllU.seq (AllU.no (by kernel_rfl)) (AllU.seq (AllU.no (by kernel_rfl)) (AllU.seq (AllU.no (by kernel_rfl)) (AllU.block (AllU.unit (uorc := uorT (z33U5 k)) (u := 4) (z33u4_k k))))))) (fn := Tryd.f55) (by kernel_rfl) (by kernel_rfl) (fun d => by kernel_rfl) FU_nil
noncomputable def T33 (k : Nat) : List (Nat × Ent) := (55, ⟨z33_e k⟩) :: T32 k
theorem T33_ok (k : Nat) : TabOK P GL (T33 k) := (T32_ok k).cons (z33_fu k) (z33_n k)
/-! ### overspill.whole.Wrap -/
noncomputable def z34U0 (_ : Nat) : List (Nat × Ent) := []
theorem z34U0_k (k : Nat) : UTab (z34U0 k) := UTab.nil
noncomputable def whole_Wrap (k : Nat) (x0 : Int) : Option (Int) :=
  bif (decide ((Int.tmod x0 64) < (-32))) then
    some (wr .i64 ((Int.tmod x0 64) + 64))
  else
  bif (decide ((32 : Int) ≤ (Int.tmod x0 64))) then
    some (wr .i64 ((Int.tmod x0 64) - 64))
  else
  some (Int.tmod x0 64)
noncomputable def z34b : AC :=
  (.seq (.region [(iO 2 (.mv (nI 0)))])
  (.seq (.region [(iO 3 (.mv (.t 0))),
    (iO 4 (.bin .rem (.t 3) (nI 64))),
    (iO 0 (.mv (.t 4)))])
  (.seq (.block 0 (.seq (.region [(iO 6 (.mv (.t 0))),
    (iO 7 (.bin .lss (.t 6) (nI (-32)))),
    (iO 5 (.mv (.t 7)))])
  (.cond (.t 5)
  (.seq (.region [(iO 8 (.mv (.t 0))),
      (iO 9 (.bin .add (.t 8) (nI 64))),
      (iO 2 (.mv (.t 9)))])
    .ret)
  (.seq (.region [(iO 11 (.mv (.t 0))),
      (iO 12 (.bin .geq (.t 11) (nI 32))),
      (iO 10 (.mv (.t 12)))])
    (.cond (.t 10)
    (.seq (.region [(iO 13 (.mv (.t 0))),
        (iO 14 (.bin .sub (.t 13) (nI 64))),
        (iO 2 (.mv (.t 14)))])
      .ret)
    .skip)))))
  (.seq (.region [(iO 15 (.mv (.t 0))),
    (iO 2 (.mv (.t 15)))])
  .ret))))
noncomputable def z34f : FDef := ⟨1, 16, [.tmp 2 none], z34b⟩
noncomputable def z34p : XPat := ⟨.normal, [(.tv (.int .i64))], []⟩
noncomputable def z34x : List XPat := [⟨.ret, [(.tv (.int .i64))], []⟩]
noncomputable def z34t (k : Nat) (d : z34p.D) : Option (XD z34x) := whole_Wrap k d
noncomputable def z34_e (k : Nat) : UEntry := mkU z34p z34x (z34t k) nilU
theorem z34_n (k : Nat) : UNat (z34_e k) := mkU_nat nilU_nat
theorem z34_fu (k : Nat) : FU P GL 44 (z34_e k) :=
  fn_typed (uorc := uorT (z34U0 k)) hmo (T33_ok k).oo (z34U0_k k) (fd := z34f) (AllU.no (by kernel_rfl)) (fn := Tryd.f44) (by kernel_rfl) (by kernel_rfl) (fun d => by kernel_rfl) FU_nil
noncomputable def T34 (k : Nat) : List (Nat × Ent) := (44, ⟨z34_e k⟩) :: T33 k
theorem T34_ok (k : Nat) : TabOK P GL (T34 k) := (T33_ok k).cons (z34_fu k) (z34_n k)
/-! ### (*overspill.cellin.reader).middle -/
noncomputable def z35U0 (_ : Nat) : List (Nat × Ent) := []
theorem z35U0_k (k : Nat) : UTab (z35U0 k) := UTab.nil
noncomputable def z35u0d : UDef := ⟨[(1, none), (8, none)], [24, 25, 26, 27, 28, 29, 30, 31, 32, 33, 34, 35, 36, 37, 38, 39], [(.normal, [(39, none)])], []⟩
noncomputable def z35u0p : XPat := ⟨.normal, [(.ptr 0 []), (.tv (.int .i64))], [(.box (.tv YCell))]⟩
noncomputable def z35u0x : List XPat := [⟨.normal, [(.tv .bool)], [(.box (.tv YCell))]⟩]
noncomputable def cellin_reader_middleu0 (k : Nat) (x0 : Int) (x1 : DCell) : Option ((Bool) × (DCell)) :=
  bif (decide (x0 = 0)) then
    bif (decide (x1.2.2.1 = 1)) then
      some (true, x1)
    else
    some ((decide (x1.2.2.1 = 4)), x1)
  else
  some (false, x1)
noncomputable def z35u0b : AC :=
  (.region [(iO 24 (.mv (.t 8))),
    (iO 25 (.bin .eql (.t 24) (nI 0))),
    (iO 26 (.mv (.t 25))),
    ⟨some 27, some (2, 26, true), (.op (.mv (.t 1))), []⟩,
    ⟨some 28, some (2, 26, true), (.op (.nilc (.t 27))), []⟩,
    ⟨some 29, some (2, 26, true), (.op (.fad 2 2 (.t 28))), []⟩,
    ⟨some 30, some (2, 26, true), (.op (.load false 1 (.t 29))), []⟩,
    ⟨some 31, some (2, 26, true), (.op (.bin .eql (.t 30) (nI 1))), []⟩,
    ⟨some 32, some (2, 26, true), (.op (.mv (.t 31))), []⟩,
    ⟨some 33, some (8, 32, false), (.op (.mv (.t 1))), []⟩,
    ⟨some 34, some (8, 32, false), (.op (.nilc (.t 33))), []⟩,
    ⟨some 35, some (8, 32, false), (.op (.fad 2 2 (.t 34))), []⟩,
    ⟨some 36, some (8, 32, false), (.op (.load false 1 (.t 35))), []⟩,
    ⟨some 37, some (8, 32, false), (.op (.bin .eql (.t 36) (nI 4))), []⟩,
    ⟨some 38, some (2, 26, true), (.op (.pick (.t 32) (.c (.tv .bool (true : Bool))) (.t 37))), []⟩,
    (iO 39 (.pick (.t 26) (.t 38) (.c (.tv .bool (false : Bool)))))])
noncomputable def z35u0t (k : Nat) (d : z35u0p.D) : Option (XD z35u0x) := cellin_reader_middleu0 k d.1.2 d.2
theorem z35u0_k (k : Nat) : UOK P GL (mkU z35u0p z35u0x (z35u0t k) nilU) z35u0d false z35u0b :=
  unit_typed (ud := z35u0d) (body := z35u0b) (uorc := uorT (z35U0 k)) hmo (T34_ok k).oo (z35U0_k k) (AllU.no (by kernel_rfl)) (fun d => by kernel_rfl)
noncomputable def z35U1 (k : Nat) : List (Nat × Ent) := (0, ⟨mkU z35u0p z35u0x (z35u0t k) nilU⟩) :: z35U0 k
theorem z35U1_k (k : Nat) : UTab (z35U1 k) := (z35U0_k k).cons (mkU_nat nilU_nat)
noncomputable def z35u1d : UDef := ⟨[(0, none), (1, none), (8, none), (39, none)], [8, 40, 41, 42, 43, 44, 45, 46, 47, 48, 49, 50], [(.normal, [(8, none)])], []⟩
noncomputable def z35u1p : XPat := ⟨.normal, [(.ptr 0 []), (.ptr 2 []), (.tv (.int .i64)), (.tv .bool)], [(.box (.cons (.ptr 1 []) (.cons (.tv (.int .i64)) .nil))), (.box (.tv YReader)), (.box (.tv YCell))]⟩
noncomputable def z35u1x : List XPat := [⟨.normal, [(.tv (.int .i64))], [(.box (.cons (.ptr 1 []) (.cons (.tv (.int .i64)) .nil))), (.box (.tv YReader)), (.box (.tv YCell))]⟩]
noncomputable def cellin_reader_middleu1 (k : Nat) (x0 : Int) (x1 : Bool) (x2 : Int) (x3 : DReader) (x4 : DCell) : Option ((Int) × (((Unit) × ((Int) × (Unit))) × ((DReader) × (DCell)))) :=
  bif x1 then
    Option.bind (steps_Take k x3) fun (v98 : ((Int) × ((Int) × (Unit))) × (DReader)) =>
    some (v98.1.2.1, (((), (x2, ())), (v98.2, (x4.1, (x4.2.1, (x4.2.2.1, (v98.1.1, x4.2.2.2.2)))))))
  else
  some (x0, (((), (x2, ())), (x3, x4)))
noncomputable def z35u1b : AC :=
  (.cond (.t 39)
  (.region [(iO 41 (.mv (.t 1))),
      (iO 42 (.mv (.t 0))),
      (iO 43 (.nilc (.t 42))),
      (iO 44 (.fad 0 0 (.t 43))),
      (iO 45 (.load false 1 (.t 44))),
      (iC 46 54 [((.t 45), none)]),
      (iO 40 (.mv (.t 46))),
      (iO 47 (.ext (.t 40) 0)),
      (iO 48 (.ext (.t 40) 1)),
      (iO 49 (.nilc (.t 41))),
      (iO 50 (.fad 3 3 (.t 49))),
      (iS (.store 1 none (.t 50) (.t 47))),
      (iO 8 (.mv (.t 48)))])
  .skip)
noncomputable def z35u1t (k : Nat) (d : z35u1p.D) : Option (XD z35u1x) := cellin_reader_middleu1 k d.1.2.2.1 d.1.2.2.2 d.2.1.2.1 d.2.2.1 d.2.2.2
theorem z35u1_k (k : Nat) : UOK P GL (mkU z35u1p z35u1x (z35u1t k) nilU) z35u1d false z35u1b :=
  unit_typed (ud := z35u1d) (body := z35u1b) (uorc := uorT (z35U1 k)) hmo (T34_ok k).oo (z35U1_k k) (AllU.no (by kernel_rfl)) (fun d => by kernel_rfl)
noncomputable def z35U2 (k : Nat) : List (Nat × Ent) := (1, ⟨mkU z35u1p z35u1x (z35u1t k) nilU⟩) :: z35U1 k
theorem z35U2_k (k : Nat) : UTab (z35U2 k) := (z35U1_k k).cons (mkU_nat nilU_nat)
noncomputable def z35u2d : UDef := ⟨[(1, none), (8, none)], [54, 55, 56, 57, 58, 59, 60, 61, 62, 63], [(.normal, [(63, none)])], []⟩
noncomputable def z35u2p : XPat := ⟨.normal, [(.ptr 0 []), (.tv (.int .i64))], [(.box (.tv YCell))]⟩
noncomputable def z35u2x : List XPat := [⟨.normal, [(.tv .bool)], [(.box (.tv YCell))]⟩]
noncomputable def cellin_reader_middleu2 (k : Nat) (x0 : Int) (x1 : DCell) : Option ((Bool) × (DCell)) :=
  bif (decide (x0 = 0)) then
    Option.bind (cellin_intra k x1.2.2.1) fun (v101 : Bool) =>
    some ((!v101), x1)
  else
  some (false, x1)
noncomputable def z35u2b : AC :=
  (.region [(iO 54 (.mv (.t 8))),
    (iO 55 (.bin .eql (.t 54) (nI 0))),
    (iO 56 (.mv (.t 55))),
    ⟨some 57, some (2, 56, true), (.op (.mv (.t 1))), []⟩,
    ⟨some 58, some (2, 56, true), (.op (.nilc (.t 57))), []⟩,
    ⟨some 59, some (2, 56, true), (.op (.fad 2 2 (.t 58))), []⟩,
    ⟨some 60, some (2, 56, true), (.op (.load false 1 (.t 59))), []⟩,
    ⟨some 61, some (2, 56, true), (.call (.c (.fn 53 .nil .nil)) [((.t 60), none)]), []⟩,
    ⟨some 62, some (2, 56, true), (.op (.un .not (.t 61))), []⟩,
    (iO 63 (.pick (.t 56) (.t 62) (.c (.tv .bool (false : Bool)))))])
noncomputable def z35u2t (k : Nat) (d : z35u2p.D) : Option (XD z35u2x) := cellin_reader_middleu2 k d.1.2 d.2
theorem z35u2_k (k : Nat) : UOK P GL (mkU z35u2p z35u2x (z35u2t k) nilU) z35u2d false z35u2b :=
  unit_typed (ud := z35u2d) (body := z35u2b) (uorc := uorT (z35U2 k)) hmo (T34_ok k).oo (z35U2_k k) (AllU.no (by kernel_rfl)) (fun d => by kernel_rfl)
noncomputable def z35U3 (k : Nat) : List (Nat × Ent) := (2, ⟨mkU z35u2p z35u2x (z35u2t k) nilU⟩) :: z35U2 k
theorem z35U3_k (k : Nat) : UTab (z35U3 k) := (z35U2_k k).cons (mkU_nat nilU_nat)
noncomputable def z35u3d : UDef := ⟨[(0, none), (1, none), (5, none), (8, none), (51, none)], [8, 9, 10, 51, 52, 53, 54, 55, 56, 57, 58, 59, 60, 61, 62, 63, 64, 65, 66, 67, 68, 69, 70, 71, 72, 73, 74, 75, 76, 77, 78, 79, 80, 81, 82, 83, 84], [((.exit 0), [(8, none)])], []⟩
noncomputable def z35u3p : XPat := ⟨.normal, [(.ptr 0 []), (.ptr 2 []), (.ptr 3 []), (.tv (.int .i64)), (.tv (.int .i64))], [(.box (.cons (.ptr 1 []) (.cons (.tv (.int .i64)) .nil))), (.box (.tv YReader)), (.box (.tv YCell)), (.box (.tv (.arr 2 (.int .i64))))]⟩
noncomputable def z35u3x : List XPat := [⟨(.exit 0), [(.tv (.int .i64))], [(.box (.cons (.ptr 1 []) (.cons (.tv (.int .i64)) .nil))), (.box (.tv YReader)), (.box (.tv YCell)), (.box (.tv (.arr 2 (.int .i64))))]⟩]
noncomputable def cellin_reader_middleu3 (k : Nat) : Nat → (Int) → (Int) → (Int) → (DReader) → (DCell) → (List (Int)) → Option ((Int) × (((Unit) × ((Int) × (Unit))) × ((DReader) × ((DCell) × (List (Int))))))
  | 0, _, _, _, _, _, _ => none
  | n + 1, x0, x1, x2, x3, x4, x5 =>
    bif (decide (x1 < 2)) then
      Option.bind (cellin_reader_middleu2 k x0 x4) fun (v131 : (Bool) × (DCell)) =>
      bif v131.1 then
        Option.bind (mvd_Take k x3) fun (v132 : ((Int) × ((Int) × (Unit))) × (DReader)) =>
        bif (inR x1 2) then
          Option.bind (whole_Wrap k (List.getD x5 (Int.toNat x1) 0)) fun (v133 : Int) =>
          Option.bind (whole_Wrap k (wr .i64 (v133 + v132.1.1))) fun (v134 : Int) =>
          bif (inR x1 2) then
            Option.bind (cellin_reader_middleu3 k n v132.1.2.1 (wr .i64 (x1 + 1)) x2 v132.2 (v131.2.1, (v131.2.2.1, (v131.2.2.2.1, (v131.2.2.2.2.1, ((List.set v131.2.2.2.2.2.1 (Int.toNat x1) v134), v131.2.2.2.2.2.2))))) x5) fun r => some r
          else
            none
        else
          none
      else
      Option.bind (cellin_reader_middleu3 k n x0 (wr .i64 (x1 + 1)) x2 x3 v131.2 x5) fun r => some r
    else
    some (x0, (((), (x2, ())), (x3, (x4, x5))))
noncomputable def z35u3b : AC :=
  (.seq (.region [(iO 52 (.bin .lss (.t 51) (nI 2)))])
  (.seq (.cond (.t 52)
  .skip
  (.exit 0))
  (.seq (.block 1 (.seq (.region [(iO 53 (.mv (.t 51))),
    (iO 9 (.mv (.t 53)))])
  (.seq (.unit 2 z35u2d false z35u2b)
  (.cond (.t 63)
  (.seq (.region [(iO 10 (.mv (nI 0)))])
    (.seq (.region [(iO 65 (.mv (.t 0))),
      (iO 66 (.nilc (.t 65))),
      (iO 67 (.fad 0 0 (.t 66))),
      (iO 68 (.load false 1 (.t 67))),
      (iC 69 55 [((.t 68), none)]),
      (iO 64 (.mv (.t 69))),
      (iO 70 (.ext (.t 64) 0)),
      (iO 71 (.ext (.t 64) 1)),
      (iO 10 (.mv (.t 70))),
      (iO 8 (.mv (.t 71)))])
    (.draw [(iO 72 (.mv (.t 1))),
      (iO 73 (.mv (.t 9))),
      (iO 74 (.mv (.t 9))),
      (iOa 75 (.iad 2 1 (.t 5) (.t 74)) [2]),
      (iOa 76 (.load false 1 (.t 75)) [2, 3]),
      (iCa 77 44 [((.t 76), none)] [2, 3, 4]),
      (iO 78 (.mv (.t 10))),
      (iOa 79 (.bin .add (.t 77) (.t 78)) (rg [2, 5])),
      (iCa 80 44 [((.t 79), none)] (rg [2, 6])),
      (iOa 81 (.nilc (.t 72)) [0]),
      (iOa 82 (.fad 4 4 (.t 81)) [0, 9]),
      (iOa 83 (.iad 2 1 (.t 82) (.t 73)) (rg [0, 11])),
      (iSa (.store 1 none (.t 83) (.t 80)) (rg [0, 12]))])))
  .skip))))
  (.region [(iO 84 (.bin .add (.t 51) (nI 1))),
    (iO 51 (.mv (.t 84)))]))))
noncomputable def z35u3t (k n : Nat) (d : z35u3p.D) : Option (XD z35u3x) := cellin_reader_middleu3 k n d.1.2.2.2.1 d.1.2.2.2.2 d.2.1.2.1 d.2.2.1 d.2.2.2.1 d.2.2.2.2
theorem z35u3_k (k : Nat) : UOK P GL (mkU z35u3p z35u3x (z35u3t k k) nilU) z35u3d true z35u3b :=
  loop_typed (ud := z35u3d) (body := z35u3b) (uorc := uorT (z35U3 k)) hmo (T34_ok k).oo (z35U3_k k) (AllU.seq (AllU.no (by kernel_rfl)) (AllU.seq (AllU.no (by kernel_rfl)) (AllU.seq (AllU.block (AllU.seq (AllU.no (by kernel_rfl)) (AllU.seq (AllU.unit (uorc := uorT (z35U3 k)) (u := 2) (z35u2_k k)) (AllU.no (by kernel_rfl))))) (AllU.no (by kernel_rfl))))) (t := z35u3t k) (fun d => by kernel_rfl) (fun n d => by kernel_rfl) k
noncomputable def z35U4 (k : Nat) : List (Nat × Ent) := (3, ⟨mkU z35u3p z35u3x (z35u3t k k) nilU⟩) :: z35U3 k
theorem z35U4_k (k : Nat) : UTab (z35U4 k) := (z35U3_k k).cons (mkU_nat nilU_nat)
noncomputable def cellin_reader_middle (k : Nat) (x0 : List (Int)) (x1 : Int) (x2 : DReader) (x3 : DCell) : Option ((Int) × (((Unit) × ((Int) × (Unit))) × ((DReader) × (DCell)))) :=
  Option.bind (cellin_intra k x3.2.2.1) fun (v85 : Bool) =>
  Option.bind (cbpy_Take k v85 x2) fun (v94 : ((Int) × ((Int) × (Unit))) × (DReader)) =>
  Option.bind (cellin_reader_middleu0 k v94.1.2.1 x3) fun (v95 : (Bool) × (DCell)) =>
  Option.bind (cellin_reader_middleu1 k v94.1.2.1 v95.1 x1 v94.2 v95.2) fun (v99 : (Int) × (((Unit) × ((Int) × (Unit))) × ((DReader) × (DCell)))) =>
  Option.bind (cellin_reader_middleu3 k k v99.1 0 v99.2.1.2.1 v99.2.2.1 v99.2.2.2 x0) fun (v135 : (Int) × (((Unit) × ((Int) × (Unit))) × ((DReader) × ((DCell) × (List (Int)))))) =>
  some (v94.1.1, (((), (v135.1, ())), (v135.2.2.1, v135.2.2.2.1)))
noncomputable def z35b : AC :=
  (.seq (.region [(iO 5 (.box (.t 2))),
    (iO 6 (.mv (nI 0)))])
  (.seq (.draw [(iO 12 (.mv (.t 0))),
    (iOa 13 (.nilc (.t 12)) [0]),
    (iOa 14 (.fad 0 0 (.t 13)) [0, 1]),
    (iOa 15 (.load false 1 (.t 14)) [0, 1, 2]),
    (iO 16 (.mv (.t 1))),
    (iOa 17 (.nilc (.t 16)) [4]),
    (iOa 18 (.fad 2 2 (.t 17)) [4, 5]),
    (iOa 19 (.load false 1 (.t 18)) [4, 5, 6]),
    (iCa 20 53 [((.t 19), none)] (rg [4, 4])),
    (iCa 21 52 [((.t 15), none), ((.t 20), none)] (rg [0, 9])),
    (iOa 11 (.mv (.t 21)) (rg [0, 10])),
    (iOa 22 (.ext (.t 11) 0) (rg [0, 11])),
    (iOa 23 (.ext (.t 11) 1) (rg [0, 11])),
    (iOa 7 (.mv (.t 22)) (rg [0, 12])),
    (iOa 8 (.mv (.t 23)) (rg [0, 14]))])
  (.seq (.seq (.unit 0 z35u0d false z35u0b)
  (.unit 1 z35u1d false z35u1b))
  (.seq (.seq (.region [(iO 51 (.mv (nI 0)))])
  (.block 0 (.unit 3 z35u3d true z35u3b)))
  (.seq (.region [(iO 85 (.mv (.t 0))),
    (iO 86 (.mv (.t 8))),
    (iO 87 (.nilc (.t 85))),
    (iO 88 (.fad 1 1 (.t 87))),
    (iS (.store 1 none (.t 88) (.t 86)))])
  (.seq (.region [(iO 89 (.mv (.t 7))),
    (iO 6 (.mv (.t 89)))])
  .ret))))))
noncomputable def z35f : FDef := ⟨3, 90, [.tmp 6 none], z35b⟩
noncomputable def z35p : XPat := ⟨.normal, [(.ptr 0 []), (.ptr 2 []), (.tv (.arr 2 (.int .i64)))], [(.box (.cons (.ptr 1 []) (.cons (.tv (.int .i64)) .nil))), (.box (.tv YReader)), (.box (.tv YCell))]⟩
noncomputable def z35x : List XPat := [⟨.ret, [(.tv (.int .i64))], [(.box (.cons (.ptr 1 []) (.cons (.tv (.int .i64)) .nil))), (.box (.tv YReader)), (.box (.tv YCell))]⟩]
noncomputable def z35t (k : Nat) (d : z35p.D) : Option (XD z35x) := cellin_reader_middle k d.1.2.2 d.2.1.2.1 d.2.2.1 d.2.2.2
noncomputable def z35_e (k : Nat) : UEntry := mkU z35p z35x (z35t k) nilU
theorem z35_n (k : Nat) : UNat (z35_e k) := mkU_nat nilU_nat
theorem z35_fu (k : Nat) : FU P GL 25 (z35_e k) :=
  fn_typed (uorc := uorT (z35U4 k)) hmo (T34_ok k).oo (z35U4_k k) (fd := z35f) (AllU.seq (AllU.no (by kernel_rfl)) (AllU.seq (AllU.no (by kernel_rfl)) (AllU.seq (AllU.seq (AllU.unit (uorc := uorT (z35U4 k)) (u := 0) (z35u0_k k)) (AllU.unit (uorc := uorT (z35U4 k)) (u := 1) (z35u1_k k))) (AllU.seq (AllU.seq (AllU.no (by kernel_rfl)) (AllU.block (AllU.unit (uorc := uorT (z35U4 k)) (u := 3) (z35u3_k k)))) (AllU.no (by kernel_rfl)))))) (fn := Tryd.f25) (by kernel_rfl) (by kernel_rfl) (fun d => by kernel_rfl) FU_nil
noncomputable def T35 (k : Nat) : List (Nat × Ent) := (25, ⟨z35_e k⟩) :: T34 k
theorem T35_ok (k : Nat) : TabOK P GL (T35 k) := (T34_ok k).cons (z35_fu k) (z35_n k)
/-! ### overspill.blocks.first -/
noncomputable def z36U0 (_ : Nat) : List (Nat × Ent) := []
theorem z36U0_k (k : Nat) : UTab (z36U0 k) := UTab.nil
noncomputable def z36u0d : UDef := ⟨[(4, none), (15, none)], [15, 18, 19], [(.normal, [(15, none)])], []⟩
noncomputable def z36u0p : XPat := ⟨.normal, [(.tv (.int .i64)), (.tv .bool)], []⟩
noncomputable def z36u0x : List XPat := [⟨.normal, [(.tv .bool)], []⟩]
noncomputable def blocks_firstu0 (k : Nat) (x0 : Int) (x1 : Bool) : Option (Bool) :=
  bif x1 then
    some x1
  else
  some (decide (x0 = 128))
noncomputable def z36u0b : AC :=
  (.cond (.t 15)
  .skip
  (.region [(iO 18 (.mv (.t 4))),
      (iO 19 (.bin .eql (.t 18) (nI 128))),
      (iO 15 (.mv (.t 19)))]))
noncomputable def z36u0t (k : Nat) (d : z36u0p.D) : Option (XD z36u0x) := blocks_firstu0 k d.1 d.2
theorem z36u0_k (k : Nat) : UOK P GL (mkU z36u0p z36u0x (z36u0t k) nilU) z36u0d false z36u0b :=
  unit_typed (ud := z36u0d) (body := z36u0b) (uorc := uorT (z36U0 k)) hmo (T35_ok k).oo (z36U0_k k) (AllU.no (by kernel_rfl)) (fun d => by kernel_rfl)
noncomputable def z36U1 (k : Nat) : List (Nat × Ent) := (0, ⟨mkU z36u0p z36u0x (z36u0t k) nilU⟩) :: z36U0 k
theorem z36U1_k (k : Nat) : UTab (z36U1 k) := (z36U0_k k).cons (mkU_nat nilU_nat)
noncomputable def blocks_first (k : Nat) (x0 : DReader) : Option (((Int) × ((Int) × (Unit))) × (DReader)) :=
  Option.bind (inbits_Reader_Take k 8 x0) fun (v139 : ((Int) × ((Int) × (Unit))) × (DReader)) =>
  bif (!(decide (v139.1.2.1 = 0))) then
    some ((0, (v139.1.2.1, ())), v139.2)
  else
  Option.bind (blocks_firstu0 k v139.1.1 (decide (v139.1.1 = 0))) fun (v140 : Bool) =>
  bif v140 then
    some ((0, (7, ())), v139.2)
  else
  bif (decide (v139.1.1 = 255)) then
    some ((128, (0, ())), v139.2)
  else
  some ((v139.1.1, (0, ())), v139.2)
noncomputable def z36b : AC :=
  (.seq (.region [(iO 2 (.mv (nI 0))),
    (iO 3 (.mv (nI 0)))])
  (.seq (.region [(iO 7 (.mv (.t 0))),
    (iC 8 72 [((.t 7), none), ((nI 8), none)]),
    (iO 6 (.mv (.t 8))),
    (iO 9 (.ext (.t 6) 0)),
    (iO 10 (.ext (.t 6) 1)),
    (iO 4 (.mv (.t 9))),
    (iO 5 (.mv (.t 10)))])
  (.seq (.block 0 (.seq (.region [(iO 12 (.mv (.t 5))),
    (iO 13 (.bin .neq (.t 12) (nI 0))),
    (iO 11 (.mv (.t 13)))])
  (.cond (.t 11)
  (.seq (.region [(iO 14 (.mv (.t 5))),
      (iO 2 (.mv (nI 0))),
      (iO 3 (.mv (.t 14)))])
    .ret)
  (.seq (.seq (.region [(iO 16 (.mv (.t 4))),
      (iO 17 (.bin .eql (.t 16) (nI 0))),
      (iO 15 (.mv (.t 17)))])
    (.unit 0 z36u0d false z36u0b))
    (.cond (.t 15)
    (.seq (.region [(iO 2 (.mv (nI 0))),
        (iO 3 (.mv (nI 7)))])
      .ret)
    (.seq (.region [(iO 21 (.mv (.t 4))),
        (iO 22 (.bin .eql (.t 21) (nI 255))),
        (iO 20 (.mv (.t 22)))])
      (.cond (.t 20)
      (.seq (.region [(iO 2 (.mv (nI 128))),
          (iO 3 (.mv (nI 0)))])
        .ret)
      .skip)))))))
  (.seq (.region [(iO 23 (.mv (.t 4))),
    (iO 2 (.mv (.t 23))),
    (iO 3 (.mv (nI 0)))])
  .ret))))
noncomputable def z36f : FDef := ⟨1, 24, [.tmp 2 none, .tmp 3 none], z36b⟩
noncomputable def z36p : XPat := ⟨.normal, [(.ptr 0 [])], [(.box (.tv YReader))]⟩
noncomputable def z36x : List XPat := [⟨.ret, [(.tup (.cons (.tv (.int .i64)) (.cons (.tv (.int .i64)) .nil)))], [(.box (.tv YReader))]⟩]
noncomputable def z36t (k : Nat) (d : z36p.D) : Option (XD z36x) := blocks_first k d.2
noncomputable def z36_e (k : Nat) : UEntry := mkU z36p z36x (z36t k) nilU
theorem z36_n (k : Nat) : UNat (z36_e k) := mkU_nat nilU_nat
theorem z36_fu (k : Nat) : FU P GL 78 (z36_e k) :=
  fn_typed (uorc := uorT (z36U1 k)) hmo (T35_ok k).oo (z36U1_k k) (fd := z36f) (AllU.seq (AllU.no (by kernel_rfl)) (AllU.seq (AllU.no (by kernel_rfl)) (AllU.seq (AllU.block (AllU.seq (AllU.no (by kernel_rfl)) (AllU.cond (AllU.no (by kernel_rfl)) (AllU.seq (AllU.seq (AllU.no (by kernel_rfl)) (AllU.unit (uorc := uorT (z36U1 k)) (u := 0) (z36u0_k k))) (AllU.no (by kernel_rfl)))))) (AllU.no (by kernel_rfl))))) (fn := Tryd.f78) (by kernel_rfl) (by kernel_rfl) (fun d => by kernel_rfl) FU_nil
noncomputable def T36 (k : Nat) : List (Nat × Ent) := (78, ⟨z36_e k⟩) :: T35 k
theorem T36_ok (k : Nat) : TabOK P GL (T36 k) := (T35_ok k).cons (z36_fu k) (z36_n k)
/-! ### overspill.blocks.from -/
noncomputable def z37U0 (_ : Nat) : List (Nat × Ent) := []
theorem z37U0_k (k : Nat) : UTab (z37U0 k) := UTab.nil
noncomputable def blocks_from (k : Nat) (x0 : Bool) : Option (Int) :=
  bif x0 then
    some 1
  else
  some 0
noncomputable def z37b : AC :=
  (.seq (.region [(iO 2 (.mv (nI 0)))])
  (.seq (.seq (.region [(iO 3 (.mv (.t 0)))])
  (.cond (.t 3)
  (.seq (.region [(iO 2 (.mv (nI 1)))])
    .ret)
  .skip))
  (.seq (.region [(iO 2 (.mv (nI 0)))])
  .ret)))
noncomputable def z37f : FDef := ⟨1, 4, [.tmp 2 none], z37b⟩
noncomputable def z37p : XPat := ⟨.normal, [(.tv .bool)], []⟩
noncomputable def z37x : List XPat := [⟨.ret, [(.tv (.int .i64))], []⟩]
noncomputable def z37t (k : Nat) (d : z37p.D) : Option (XD z37x) := blocks_from k d
noncomputable def z37_e (k : Nat) : UEntry := mkU z37p z37x (z37t k) nilU
theorem z37_n (k : Nat) : UNat (z37_e k) := mkU_nat nilU_nat
theorem z37_fu (k : Nat) : FU P GL 80 (z37_e k) :=
  fn_typed (uorc := uorT (z37U0 k)) hmo (T36_ok k).oo (z37U0_k k) (fd := z37f) (AllU.no (by kernel_rfl)) (fn := Tryd.f80) (by kernel_rfl) (by kernel_rfl) (fun d => by kernel_rfl) FU_nil
noncomputable def T37 (k : Nat) : List (Nat × Ent) := (80, ⟨z37_e k⟩) :: T36 k
theorem T37_ok (k : Nat) : TabOK P GL (T37 k) := (T36_ok k).cons (z37_fu k) (z37_n k)
/-! ### overspill.tcoef.Right -/
noncomputable def z38U0 (_ : Nat) : List (Nat × Ent) := []
theorem z38U0_k (k : Nat) : UTab (z38U0 k) := UTab.nil
noncomputable def tcoef_Right (k : Nat) (x0 : DEvent) : Option (Bool) :=
  bif (decide ((0 : Int) ≤ x0.2.1)) then
    bif (decide (x0.2.1 ≤ 63)) then
      bif (!(decide (x0.2.2.1 = 0))) then
        bif (decide (((-127) : Int) ≤ x0.2.2.1)) then
          some (decide (x0.2.2.1 ≤ 127))
        else
        some false
      else
      some false
    else
    some false
  else
  some false
noncomputable def z38b : AC :=
  (.seq (.region [(iO 1 (.box (.t 0))),
    (iO 2 (.mv (.c (.tv .bool (false : Bool)))))])
  (.seq (.region [(iO 3 (.fad 1 1 (.t 1))),
    (iO 4 (.load false 1 (.t 3))),
    (iO 5 (.bin .geq (.t 4) (nI 0))),
    (iO 6 (.mv (.t 5))),
    ⟨some 7, some (3, 6, true), (.op (.fad 1 1 (.t 1))), []⟩,
    ⟨some 8, some (3, 6, true), (.op (.load false 1 (.t 7))), []⟩,
    ⟨some 9, some (3, 6, true), (.op (.bin .leq (.t 8) (nI 63))), []⟩,
    (iO 10 (.pick (.t 6) (.t 9) (.c (.tv .bool (false : Bool))))),
    (iO 11 (.mv (.t 10))),
    ⟨some 12, some (8, 11, true), (.op (.fad 2 2 (.t 1))), []⟩,
    ⟨some 13, some (8, 11, true), (.op (.load false 1 (.t 12))), []⟩,
    ⟨some 14, some (8, 11, true), (.op (.bin .neq (.t 13) (nI 0))), []⟩,
    (iO 15 (.pick (.t 11) (.t 14) (.c (.tv .bool (false : Bool))))),
    (iO 16 (.mv (.t 15))),
    ⟨some 17, some (13, 16, true), (.op (.fad 2 2 (.t 1))), []⟩,
    ⟨some 18, some (13, 16, true), (.op (.load false 1 (.t 17))), []⟩,
    ⟨some 19, some (13, 16, true), (.op (.bin .geq (.t 18) (nI (-127)))), []⟩,
    (iO 20 (.pick (.t 16) (.t 19) (.c (.tv .bool (false : Bool))))),
    (iO 21 (.mv (.t 20))),
    ⟨some 22, some (18, 21, true), (.op (.fad 2 2 (.t 1))), []⟩,
    ⟨some 23, some (18, 21, true), (.op (.load false 1 (.t 22))), []⟩,
    ⟨some 24, some (18, 21, true), (.op (.bin .leq (.t 23) (nI 127))), []⟩,
    (iO 25 (.pick (.t 21) (.t 24) (.c (.tv .bool (false : Bool))))),
    (iO 2 (.mv (.t 25)))])
  .ret))
noncomputable def z38f : FDef := ⟨1, 26, [.tmp 2 none], z38b⟩
noncomputable def z38p : XPat := ⟨.normal, [(.tv YEvent)], []⟩
noncomputable def z38x : List XPat := [⟨.ret, [(.tv .bool)], []⟩]
noncomputable def z38t (k : Nat) (d : z38p.D) : Option (XD z38x) := tcoef_Right k d
noncomputable def z38_e (k : Nat) : UEntry := mkU z38p z38x (z38t k) nilU
theorem z38_n (k : Nat) : UNat (z38_e k) := mkU_nat nilU_nat
theorem z38_fu (k : Nat) : FU P GL 92 (z38_e k) :=
  fn_typed (uorc := uorT (z38U0 k)) hmo (T37_ok k).oo (z38U0_k k) (fd := z38f) (AllU.no (by kernel_rfl)) (fn := Tryd.f92) (by kernel_rfl) (by kernel_rfl) (fun d => by kernel_rfl) FU_nil
noncomputable def T38 (k : Nat) : List (Nat × Ent) := (92, ⟨z38_e k⟩) :: T37 k
theorem T38_ok (k : Nat) : TabOK P GL (T38 k) := (T37_ok k).cons (z38_fu k) (z38_n k)
/-! ### overspill.tcoef.many -/
noncomputable def z39U0 (_ : Nat) : List (Nat × Ent) := []
theorem z39U0_k (k : Nat) : UTab (z39U0 k) := UTab.nil
noncomputable def z39u0d : UDef := ⟨[(0, none), (1, none)], [5, 6, 7, 8, 9, 10], [(.normal, [(5, none)])], []⟩
noncomputable def z39u0p : XPat := ⟨.normal, [(.tv .bool), (.tv (.int .i64))], []⟩
noncomputable def z39u0x : List XPat := [⟨.normal, [(.tv .bool)], []⟩]
noncomputable def tcoef_manyu0 (k : Nat) (x0 : Bool) (x1 : Int) : Option (Bool) :=
  bif x0 then
    some (decide (x1 = 0))
  else
  some false
noncomputable def z39u0b : AC :=
  (.region [(iO 6 (.mv (.t 0))),
    (iO 7 (.mv (.t 6))),
    ⟨some 8, some (1, 7, true), (.op (.mv (.t 1))), []⟩,
    ⟨some 9, some (1, 7, true), (.op (.bin .eql (.t 8) (nI 0))), []⟩,
    (iO 10 (.pick (.t 7) (.t 9) (.c (.tv .bool (false : Bool))))),
    (iO 5 (.mv (.t 10)))])
noncomputable def z39u0t (k : Nat) (d : z39u0p.D) : Option (XD z39u0x) := tcoef_manyu0 k d.1 d.2
theorem z39u0_k (k : Nat) : UOK P GL (mkU z39u0p z39u0x (z39u0t k) nilU) z39u0d false z39u0b :=
  unit_typed (ud := z39u0d) (body := z39u0b) (uorc := uorT (z39U0 k)) hmo (T38_ok k).oo (z39U0_k k) (AllU.no (by kernel_rfl)) (fun d => by kernel_rfl)
noncomputable def z39U1 (k : Nat) : List (Nat × Ent) := (0, ⟨mkU z39u0p z39u0x (z39u0t k) nilU⟩) :: z39U0 k
theorem z39U1_k (k : Nat) : UTab (z39U1 k) := (z39U0_k k).cons (mkU_nat nilU_nat)
noncomputable def z39u1d : UDef := ⟨[(0, none), (1, none)], [11, 12, 13, 14, 15, 16], [(.normal, [(11, none)])], []⟩
noncomputable def z39u1p : XPat := ⟨.normal, [(.tv .bool), (.tv (.int .i64))], []⟩
noncomputable def z39u1x : List XPat := [⟨.normal, [(.tv .bool)], []⟩]
noncomputable def tcoef_manyu1 (k : Nat) (x0 : Bool) (x1 : Int) : Option (Bool) :=
  bif x0 then
    some (decide (x1 = 1))
  else
  some false
noncomputable def z39u1b : AC :=
  (.region [(iO 12 (.mv (.t 0))),
    (iO 13 (.mv (.t 12))),
    ⟨some 14, some (1, 13, true), (.op (.mv (.t 1))), []⟩,
    ⟨some 15, some (1, 13, true), (.op (.bin .eql (.t 14) (nI 1))), []⟩,
    (iO 16 (.pick (.t 13) (.t 15) (.c (.tv .bool (false : Bool))))),
    (iO 11 (.mv (.t 16)))])
noncomputable def z39u1t (k : Nat) (d : z39u1p.D) : Option (XD z39u1x) := tcoef_manyu1 k d.1 d.2
theorem z39u1_k (k : Nat) : UOK P GL (mkU z39u1p z39u1x (z39u1t k) nilU) z39u1d false z39u1b :=
  unit_typed (ud := z39u1d) (body := z39u1b) (uorc := uorT (z39U1 k)) hmo (T38_ok k).oo (z39U1_k k) (AllU.no (by kernel_rfl)) (fun d => by kernel_rfl)
noncomputable def z39U2 (k : Nat) : List (Nat × Ent) := (1, ⟨mkU z39u1p z39u1x (z39u1t k) nilU⟩) :: z39U1 k
theorem z39U2_k (k : Nat) : UTab (z39U2 k) := (z39U1_k k).cons (mkU_nat nilU_nat)
noncomputable def z39u2d : UDef := ⟨[(0, none), (1, none)], [17, 18, 19, 20, 21, 22], [(.normal, [(17, none)])], []⟩
noncomputable def z39u2p : XPat := ⟨.normal, [(.tv .bool), (.tv (.int .i64))], []⟩
noncomputable def z39u2x : List XPat := [⟨.normal, [(.tv .bool)], []⟩]
noncomputable def tcoef_manyu2 (k : Nat) (x0 : Bool) (x1 : Int) : Option (Bool) :=
  bif x0 then
    some (decide (x1 ≤ 40))
  else
  some false
noncomputable def z39u2b : AC :=
  (.region [(iO 18 (.mv (.t 0))),
    (iO 19 (.mv (.t 18))),
    ⟨some 20, some (1, 19, true), (.op (.mv (.t 1))), []⟩,
    ⟨some 21, some (1, 19, true), (.op (.bin .leq (.t 20) (nI 40))), []⟩,
    (iO 22 (.pick (.t 19) (.t 21) (.c (.tv .bool (false : Bool))))),
    (iO 17 (.mv (.t 22)))])
noncomputable def z39u2t (k : Nat) (d : z39u2p.D) : Option (XD z39u2x) := tcoef_manyu2 k d.1 d.2
theorem z39u2_k (k : Nat) : UOK P GL (mkU z39u2p z39u2x (z39u2t k) nilU) z39u2d false z39u2b :=
  unit_typed (ud := z39u2d) (body := z39u2b) (uorc := uorT (z39U2 k)) hmo (T38_ok k).oo (z39U2_k k) (AllU.no (by kernel_rfl)) (fun d => by kernel_rfl)
noncomputable def z39U3 (k : Nat) : List (Nat × Ent) := (2, ⟨mkU z39u2p z39u2x (z39u2t k) nilU⟩) :: z39U2 k
theorem z39U3_k (k : Nat) : UTab (z39U3 k) := (z39U2_k k).cons (mkU_nat nilU_nat)
noncomputable def tcoef_many (k : Nat) (x0 : Bool) (x1 : Int) : Option (Int) :=
  Option.bind (tcoef_manyu0 k x0 x1) fun (v152 : Bool) =>
  bif v152 then
    some 3
  else
  Option.bind (tcoef_manyu1 k x0 x1) fun (v153 : Bool) =>
  bif v153 then
    some 2
  else
  Option.bind (tcoef_manyu2 k x0 x1) fun (v154 : Bool) =>
  bif v154 then
    some 1
  else
  bif x0 then
    some 0
  else
  bif (decide (x1 = 0)) then
    some 12
  else
  bif (decide (x1 = 1)) then
    some 6
  else
  bif (decide (x1 = 2)) then
    some 4
  else
  bif (decide (x1 ≤ 6)) then
    some 3
  else
  bif (decide (x1 ≤ 10)) then
    some 2
  else
  bif (decide (x1 ≤ 26)) then
    some 1
  else
  some 0
noncomputable def z39b : AC :=
  (.seq (.region [(iO 4 (.mv (nI 0)))])
  (.seq (.block 0 (.seq (.unit 0 z39u0d false z39u0b)
  (.cond (.t 5)
  (.seq (.region [(iO 4 (.mv (nI 3)))])
    .ret)
  (.seq (.unit 1 z39u1d false z39u1b)
    (.cond (.t 11)
    (.seq (.region [(iO 4 (.mv (nI 2)))])
      .ret)
    (.seq (.unit 2 z39u2d false z39u2b)
      (.cond (.t 17)
      (.seq (.region [(iO 4 (.mv (nI 1)))])
        .ret)
      (.seq (.region [(iO 24 (.mv (.t 0))),
          (iO 23 (.mv (.t 24)))])
        (.cond (.t 23)
        (.seq (.region [(iO 4 (.mv (nI 0)))])
          .ret)
        (.seq (.region [(iO 26 (.mv (.t 1))),
            (iO 27 (.bin .eql (.t 26) (nI 0))),
            (iO 25 (.mv (.t 27)))])
          (.cond (.t 25)
          (.seq (.region [(iO 4 (.mv (nI 12)))])
            .ret)
          (.seq (.region [(iO 29 (.mv (.t 1))),
              (iO 30 (.bin .eql (.t 29) (nI 1))),
              (iO 28 (.mv (.t 30)))])
            (.cond (.t 28)
            (.seq (.region [(iO 4 (.mv (nI 6)))])
              .ret)
            (.seq (.region [(iO 32 (.mv (.t 1))),
                (iO 33 (.bin .eql (.t 32) (nI 2))),
                (iO 31 (.mv (.t 33)))])
              (.cond (.t 31)
              (.seq (.region [(iO 4 (.mv (nI 4)))])
                .ret)
              (.seq (.region [(iO 35 (.mv (.t 1))),
                  (iO 36 (.bin .leq (.t 35) (nI 6))),
                  (iO 34 (.mv (.t 36)))])
                (.cond (.t 34)
                (.seq (.region [(iO 4 (.mv (nI 3)))])
                  .ret)
                (.seq (.region [(iO 38 (.mv (.t 1))),
                    (iO 39 (.bin .leq (.t 38) (nI 10))),
                    (iO 37 (.mv (.t 39)))])
                  (.cond (.t 37)
                  (.seq (.region [(iO 4 (.mv (nI 2)))])
                    .ret)
                  (.seq (.region [(iO 41 (.mv (.t 1))),
                      (iO 42 (.bin .leq (.t 41) (nI 26))),
                      (iO 40 (.mv (.t 42)))])
                    (.cond (.t 40)
                    (.seq (.region [(iO 4 (.mv (nI 1)))])
                      .ret)
                    .skip)))))))))))))))))))))
  (.seq (.region [(iO 4 (.mv (nI 0)))])
  .ret)))
noncomputable def z39f : FDef := ⟨2, 43, [.tmp 4 none], z39b⟩
noncomputable def z39p : XPat := ⟨.normal, [(.tv .bool), (.tv (.int .i64))], []⟩
noncomputable def z39x : List XPat := [⟨.ret, [(.tv (.int .i64))], []⟩]
noncomputable def z39t (k : Nat) (d : z39p.D) : Option (XD z39x) := tcoef_many k d.1 d.2
noncomputable def z39_e (k : Nat) : UEntry := mkU z39p z39x (z39t k) nilU
theorem z39_n (k : Nat) : UNat (z39_e k) := mkU_nat nilU_nat
theorem z39_fu (k : Nat) : FU P GL 104 (z39_e k) :=
  fn_typed (uorc := uorT (z39U3 k)) hmo (T38_ok k).oo (z39U3_k k) (fd := z39f) (AllU.seq (AllU.no (by kernel_rfl)) (AllU.seq (AllU.block (AllU.seq (AllU.unit (uorc := uorT (z39U3 k)) (u := 0) (z39u0_k k)) (AllU.cond (AllU.no (by kernel_rfl)) (AllU.seq (AllU.unit (uorc := uorT (z39U3 k)) (u := 1) (z39u1_k k)) (AllU.cond (AllU.no (by kernel_rfl)) (AllU.seq (AllU.unit (uorc := uorT (z39U3 k)) (u := 2) (z39u2_k k)) (AllU.no (by kernel_rfl)))))))) (AllU.no (by kernel_rfl)))) (fn := Tryd.f104) (by kernel_rfl) (by kernel_rfl) (fun d => by kernel_rfl) FU_nil
noncomputable def T39 (k : Nat) : List (Nat × Ent) := (104, ⟨z39_e k⟩) :: T38 k
theorem T39_ok (k : Nat) : TabOK P GL (T39 k) := (T38_ok k).cons (z39_fu k) (z39_n k)
/-! ### overspill.tcoef.place -/
noncomputable def z40U0 (_ : Nat) : List (Nat × Ent) := []
theorem z40U0_k (k : Nat) : UTab (z40U0 k) := UTab.nil
noncomputable def z40u0d : UDef := ⟨[(7, none), (16, none)], [7, 8, 16, 17, 18, 19, 20, 21, 22, 23], [((.exit 0), [(7, none)])], []⟩
noncomputable def z40u0p : XPat := ⟨.normal, [(.tv (.int .i64)), (.tv (.int .i64))], []⟩
noncomputable def z40u0x : List XPat := [⟨(.exit 0), [(.tv (.int .i64))], []⟩]
noncomputable def tcoef_placeu0 (k : Nat) : Nat → (Int) → (Int) → Option (Int)
  | 0, _, _ => none
  | n + 1, x0, x1 =>
    bif (decide (x1 < 63)) then
      Option.bind (tcoef_many k false x1) fun (v157 : Int) =>
      Option.bind (tcoef_placeu0 k n (wr .i64 (x0 + v157)) (wr .i64 (x1 + 1))) fun r => some r
    else
    some x0
noncomputable def z40u0b : AC :=
  (.seq (.region [(iO 17 (.bin .lss (.t 16) (nI 63)))])
  (.seq (.cond (.t 17)
  .skip
  (.exit 0))
  (.seq (.block 1 (.seq (.region [(iO 18 (.mv (.t 16))),
    (iO 8 (.mv (.t 18)))])
  (.region [(iO 19 (.mv (.t 7))),
    (iO 20 (.mv (.t 8))),
    (iC 21 104 [((.c (.tv .bool (false : Bool))), none), ((.t 20), none)]),
    (iO 22 (.bin .add (.t 19) (.t 21))),
    (iO 7 (.mv (.t 22)))])))
  (.region [(iO 23 (.bin .add (.t 16) (nI 1))),
    (iO 16 (.mv (.t 23)))]))))
noncomputable def z40u0t (k n : Nat) (d : z40u0p.D) : Option (XD z40u0x) := tcoef_placeu0 k n d.1 d.2
theorem z40u0_k (k : Nat) : UOK P GL (mkU z40u0p z40u0x (z40u0t k k) nilU) z40u0d true z40u0b :=
  loop_typed (ud := z40u0d) (body := z40u0b) (uorc := uorT (z40U0 k)) hmo (T39_ok k).oo (z40U0_k k) (AllU.no (by kernel_rfl)) (t := z40u0t k) (fun d => by kernel_rfl) (fun n d => by kernel_rfl) k
noncomputable def z40U1 (k : Nat) : List (Nat × Ent) := (0, ⟨mkU z40u0p z40u0x (z40u0t k k) nilU⟩) :: z40U0 k
theorem z40U1_k (k : Nat) : UTab (z40U1 k) := (z40U0_k k).cons (mkU_nat nilU_nat)
noncomputable def z40u1d : UDef := ⟨[(7, none), (15, none)], [7, 8, 16, 17, 18, 19, 20, 21, 22, 23], [(.normal, [(7, none)])], []⟩
noncomputable def z40u1p : XPat := ⟨.normal, [(.tv (.int .i64)), (.tv .bool)], []⟩
noncomputable def z40u1x : List XPat := [⟨.normal, [(.tv (.int .i64))], []⟩]
noncomputable def tcoef_placeu1 (k : Nat) (x0 : Int) (x1 : Bool) : Option (Int) :=
  bif x1 then
    Option.bind (tcoef_placeu0 k k x0 0) fun (v159 : Int) =>
    some v159
  else
  some x0
noncomputable def z40u1b : AC :=
  (.cond (.t 15)
  (.seq (.region [(iO 16 (.mv (nI 0)))])
    (.block 0 (.unit 0 z40u0d true z40u0b)))
  .skip)
noncomputable def z40u1t (k : Nat) (d : z40u1p.D) : Option (XD z40u1x) := tcoef_placeu1 k d.1 d.2
theorem z40u1_k (k : Nat) : UOK P GL (mkU z40u1p z40u1x (z40u1t k) nilU) z40u1d false z40u1b :=
  unit_typed (ud := z40u1d) (body := z40u1b) (uorc := uorT (z40U1 k)) hmo (T39_ok k).oo (z40U1_k k) (AllU.cond (AllU.seq (AllU.no (by kernel_rfl)) (AllU.block (AllU.unit (uorc := uorT (z40U1 k)) (u := 0) (z40u0_k k)))) (AllU.no (by kernel_rfl))) (fun d => by kernel_rfl)
noncomputable def z40U2 (k : Nat) : List (Nat × Ent) := (1, ⟨mkU z40u1p z40u1x (z40u1t k) nilU⟩) :: z40U1 k
theorem z40U2_k (k : Nat) : UTab (z40U2 k) := (z40U1_k k).cons (mkU_nat nilU_nat)
noncomputable def z40u2d : UDef := ⟨[(0, none), (7, none), (24, none), (25, none)], [7, 9, 25, 26, 27, 28, 29, 30, 31, 32, 33], [((.exit 2), [(7, none)])], []⟩
noncomputable def z40u2p : XPat := ⟨.normal, [(.tv .bool), (.tv (.int .i64)), (.tv (.int .i64)), (.tv (.int .i64))], []⟩
noncomputable def z40u2x : List XPat := [⟨(.exit 2), [(.tv (.int .i64))], []⟩]
noncomputable def tcoef_placeu2 (k : Nat) : Nat → (Bool) → (Int) → (Int) → (Int) → Option (Int)
  | 0, _, _, _, _ => none
  | n + 1, x0, x1, x2, x3 =>
    bif (decide (x3 < x2)) then
      Option.bind (tcoef_many k x0 x3) fun (v162 : Int) =>
      Option.bind (tcoef_placeu2 k n x0 (wr .i64 (x1 + v162)) x2 (wr .i64 (x3 + 1))) fun r => some r
    else
    some x1
noncomputable def z40u2b : AC :=
  (.seq (.region [(iO 26 (.bin .lss (.t 25) (.t 24)))])
  (.seq (.cond (.t 26)
  .skip
  (.exit 2))
  (.seq (.block 3 (.seq (.region [(iO 27 (.mv (.t 25))),
    (iO 9 (.mv (.t 27)))])
  (.region [(iO 28 (.mv (.t 7))),
    (iO 29 (.mv (.t 0))),
    (iO 30 (.mv (.t 9))),
    (iC 31 104 [((.t 29), none), ((.t 30), none)]),
    (iO 32 (.bin .add (.t 28) (.t 31))),
    (iO 7 (.mv (.t 32)))])))
  (.region [(iO 33 (.bin .add (.t 25) (nI 1))),
    (iO 25 (.mv (.t 33)))]))))
noncomputable def z40u2t (k n : Nat) (d : z40u2p.D) : Option (XD z40u2x) := tcoef_placeu2 k n d.1 d.2.1 d.2.2.1 d.2.2.2
theorem z40u2_k (k : Nat) : UOK P GL (mkU z40u2p z40u2x (z40u2t k k) nilU) z40u2d true z40u2b :=
  loop_typed (ud := z40u2d) (body := z40u2b) (uorc := uorT (z40U2 k)) hmo (T39_ok k).oo (z40U2_k k) (AllU.no (by kernel_rfl)) (t := z40u2t k) (fun d => by kernel_rfl) (fun n d => by kernel_rfl) k
noncomputable def z40U3 (k : Nat) : List (Nat × Ent) := (2, ⟨mkU z40u2p z40u2x (z40u2t k k) nilU⟩) :: z40U2 k
theorem z40U3_k (k : Nat) : UTab (z40U3 k) := (z40U2_k k).cons (mkU_nat nilU_nat)
noncomputable def tcoef_place (k : Nat) (x0 : Bool) (x1 : Int) (x2 : Int) : Option (Int) :=
  Option.bind (tcoef_many k x0 x1) fun (v155 : Int) =>
  bif (decide (v155 < x2)) then
    some (-1)
  else
  Option.bind (tcoef_placeu1 k 0 x0) fun (v160 : Int) =>
  Option.bind (tcoef_placeu2 k k x0 v160 x1 0) fun (v163 : Int) =>
  some (wr .i64 ((wr .i64 (v163 + x2)) - 1))
noncomputable def z40b : AC :=
  (.seq (.region [(iO 6 (.mv (nI 0)))])
  (.seq (.seq (.region [(iO 10 (.mv (.t 2))),
    (iO 11 (.mv (.t 0))),
    (iO 12 (.mv (.t 1))),
    (iC 13 104 [((.t 11), none), ((.t 12), none)]),
    (iO 14 (.bin .gtr (.t 10) (.t 13)))])
  (.cond (.t 14)
  (.seq (.region [(iO 6 (.mv (nI (-1))))])
    .ret)
  .skip))
  (.seq (.region [(iO 7 (.mv (nI 0)))])
  (.seq (.seq (.region [(iO 15 (.mv (.t 0)))])
  (.unit 1 z40u1d false z40u1b))
  (.seq (.seq (.region [(iO 24 (.mv (.t 1))),
    (iO 25 (.mv (nI 0)))])
  (.block 2 (.unit 2 z40u2d true z40u2b)))
  (.seq (.region [(iO 34 (.mv (.t 7))),
    (iO 35 (.mv (.t 2))),
    (iO 36 (.bin .add (.t 34) (.t 35))),
    (iO 37 (.bin .sub (.t 36) (nI 1))),
    (iO 6 (.mv (.t 37)))])
  .ret))))))
noncomputable def z40f : FDef := ⟨3, 38, [.tmp 6 none], z40b⟩
noncomputable def z40p : XPat := ⟨.normal, [(.tv .bool), (.tv (.int .i64)), (.tv (.int .i64))], []⟩
noncomputable def z40x : List XPat := [⟨.ret, [(.tv (.int .i64))], []⟩]
noncomputable def z40t (k : Nat) (d : z40p.D) : Option (XD z40x) := tcoef_place k d.1 d.2.1 d.2.2
noncomputable def z40_e (k : Nat) : UEntry := mkU z40p z40x (z40t k) nilU
theorem z40_n (k : Nat) : UNat (z40_e k) := mkU_nat nilU_nat
theorem z40_fu (k : Nat) : FU P GL 93 (z40_e k) :=
  fn_typed (uorc := uorT (z40U3 k)) hmo (T39_ok k).oo (z40U3_k k) (fd := z40f) (AllU.seq (AllU.no (by kernel_rfl)) (AllU.seq (AllU.no (by kernel_rfl)) (AllU.seq (AllU.no (by kernel_rfl)) (AllU.seq (AllU.seq (AllU.no (by kernel_rfl)) (AllU.unit (uorc := uorT (z40U3 k)) (u := 1) (z40u1_k k))) (AllU.seq (AllU.seq (AllU.no (by kernel_rfl)) (AllU.block (AllU.unit (uorc := uorT (z40U3 k)) (u := 2) (z40u2_k k)))) (AllU.no (by kernel_rfl))))))) (fn := Tryd.f93) (by kernel_rfl) (by kernel_rfl) (fun d => by kernel_rfl) FU_nil
noncomputable def T40 (k : Nat) : List (Nat × Ent) := (93, ⟨z40_e k⟩) :: T39 k
theorem T40_ok (k : Nat) : TabOK P GL (T40 k) := (T39_ok k).cons (z40_fu k) (z40_n k)
/-! ### overspill.tcoef.escaped -/
noncomputable def z41U0 (_ : Nat) : List (Nat × Ent) := []
theorem z41U0_k (k : Nat) : UTab (z41U0 k) := UTab.nil
noncomputable def z41u0d : UDef := ⟨[(6, none), (20, none)], [6, 21, 22], [(.normal, [(6, none)])], []⟩
noncomputable def z41u0p : XPat := ⟨.normal, [(.tv (.int .i64)), (.tv .bool)], []⟩
noncomputable def z41u0x : List XPat := [⟨.normal, [(.tv (.int .i64))], []⟩]
noncomputable def tcoef_escapedu0 (k : Nat) (x0 : Int) (x1 : Bool) : Option (Int) :=
  bif x1 then
    some (wr .i64 (x0 - 256))
  else
  some x0
noncomputable def z41u0b : AC :=
  (.cond (.t 20)
  (.region [(iO 21 (.mv (.t 6))),
      (iO 22 (.bin .sub (.t 21) (nI 256))),
      (iO 6 (.mv (.t 22)))])
  .skip)
noncomputable def z41u0t (k : Nat) (d : z41u0p.D) : Option (XD z41u0x) := tcoef_escapedu0 k d.1 d.2
theorem z41u0_k (k : Nat) : UOK P GL (mkU z41u0p z41u0x (z41u0t k) nilU) z41u0d false z41u0b :=
  unit_typed (ud := z41u0d) (body := z41u0b) (uorc := uorT (z41U0 k)) hmo (T40_ok k).oo (z41U0_k k) (AllU.no (by kernel_rfl)) (fun d => by kernel_rfl)
noncomputable def z41U1 (k : Nat) : List (Nat × Ent) := (0, ⟨mkU z41u0p z41u0x (z41u0t k) nilU⟩) :: z41U0 k
theorem z41U1_k (k : Nat) : UTab (z41U1 k) := (z41U0_k k).cons (mkU_nat nilU_nat)
noncomputable def tcoef_escaped (k : Nat) (x0 : DReader) : Option (((DEvent) × ((Int) × (Unit))) × (DReader)) :=
  Option.bind (inbits_Reader_Take k 15 x0) fun (v149 : ((Int) × ((Int) × (Unit))) × (DReader)) =>
  bif (!(decide (v149.1.2.1 = 0))) then
    some (((false, (0, (0, ()))), (v149.1.2.1, ())), v149.2)
  else
  Option.bind (tcoef_escapedu0 k (Int.tmod v149.1.1 256) (decide ((128 : Int) ≤ (Int.tmod v149.1.1 256)))) fun (v150 : Int) =>
  Option.bind (tcoef_Right k ((decide ((shrI .i64 v149.1.1 14) = 1)), ((bitop .and .i64 (shrI .i64 v149.1.1 8) 63), (v150, ())))) fun (v151 : Bool) =>
  bif (!v151) then
    some (((false, (0, (0, ()))), (7, ())), v149.2)
  else
  Option.bind (tcoef_place k (decide ((shrI .i64 v149.1.1 14) = 1)) (bitop .and .i64 (shrI .i64 v149.1.1 8) 63) (mxI v150 (wr .i64 (0 - v150)))) fun (v164 : Int) =>
  bif (decide ((0 : Int) ≤ v164)) then
    some (((false, (0, (0, ()))), (7, ())), v149.2)
  else
  some ((((decide ((shrI .i64 v149.1.1 14) = 1)), ((bitop .and .i64 (shrI .i64 v149.1.1 8) 63), (v150, ()))), (0, ())), v149.2)
noncomputable def z41b : AC :=
  (.seq (.region [(iO 2 (.alloc 78 (.tv YEvent))),
    (iO 3 (.mv (nI 0)))])
  (.seq (.region [(iO 9 (.mv (.t 0))),
    (iC 10 72 [((.t 9), none), ((nI 15), none)]),
    (iO 8 (.mv (.t 10))),
    (iO 11 (.ext (.t 8) 0)),
    (iO 12 (.ext (.t 8) 1)),
    (iO 4 (.mv (.t 11))),
    (iO 5 (.mv (.t 12)))])
  (.seq (.seq (.region [(iO 13 (.mv (.t 5))),
    (iO 14 (.bin .neq (.t 13) (nI 0)))])
  (.cond (.t 14)
  (.seq (.region [(iO 15 (.build 78 (.tv YEvent) [])),
      (iO 16 (.mv (.t 5))),
      (iS (.store 3 none (.t 2) (.t 15))),
      (iO 3 (.mv (.t 16)))])
    .ret)
  .skip))
  (.seq (.region [(iO 17 (.mv (.t 4))),
    (iO 18 (.bin .rem (.t 17) (nI 256))),
    (iO 6 (.mv (.t 18)))])
  (.seq (.seq (.region [(iO 19 (.mv (.t 6))),
    (iO 20 (.bin .geq (.t 19) (nI 128)))])
  (.unit 0 z41u0d false z41u0b))
  (.seq (.region [(iO 23 (.mv (.t 4))),
    (iO 24 (.bin .shr (.t 23) (.c (.tv (.int .u64) (14 : Int))))),
    (iO 25 (.bin .eql (.t 24) (nI 1))),
    (iO 26 (.mv (.t 4))),
    (iO 27 (.bin .shr (.t 26) (.c (.tv (.int .u64) (8 : Int))))),
    (iO 28 (.bin .and (.t 27) (nI 63))),
    (iO 29 (.mv (.t 6))),
    (iO 30 (.build 78 (.tv YEvent) [(0, (.fld 0 0), 1, (.t 25)), (1, (.fld 1 1), 1, (.t 28)), (2, (.fld 2 2), 1, (.t 29))])),
    (iO 7 (.alloc 78 (.tv YEvent))),
    (iS (.store 3 none (.t 7) (.t 30)))])
  (.seq (.seq (.region [(iO 31 (.load true 3 (.t 7))),
    (iC 32 92 [((.t 31), some YEvent)]),
    (iO 33 (.un .not (.t 32))),
    (iO 34 (.mv (.t 33))),
    ⟨some 35, some (3, 34, false), (.op (.fad 0 0 (.t 7))), []⟩,
    ⟨some 36, some (3, 34, false), (.op (.load false 1 (.t 35))), []⟩,
    ⟨some 37, some (3, 34, false), (.op (.fad 1 1 (.t 7))), []⟩,
    ⟨some 38, some (3, 34, false), (.op (.load false 1 (.t 37))), []⟩,
    ⟨some 39, some (3, 34, false), (.op (.mv (.t 6))), []⟩,
    ⟨some 40, some (3, 34, false), (.op (.mv (.t 6))), []⟩,
    ⟨some 41, some (3, 34, false), (.op (.un .neg (.t 40))), []⟩,
    ⟨some 42, some (3, 34, false), (.op (.mx (.t 39) (.t 41))), []⟩,
    ⟨some 43, some (3, 34, false), (.call (.c (.fn 93 .nil .nil)) [((.t 36), none), ((.t 38), none), ((.t 42), none)]), []⟩,
    ⟨some 44, some (3, 34, false), (.op (.bin .geq (.t 43) (nI 0))), []⟩,
    (iO 45 (.pick (.t 34) (.c (.tv .bool (true : Bool))) (.t 44)))])
  (.cond (.t 45)
  (.seq (.region [(iO 46 (.build 78 (.tv YEvent) [])),
      (iS (.store 3 none (.t 2) (.t 46))),
      (iO 3 (.mv (nI 7)))])
    .ret)
  .skip))
  (.seq (.region [(iO 47 (.load true 3 (.t 7))),
    (iS (.store 3 none (.t 2) (.t 47))),
    (iO 3 (.mv (nI 0)))])
  .ret))))))))
noncomputable def z41f : FDef := ⟨1, 48, [.cell 2 3 true (some YEvent), .tmp 3 none], z41b⟩
noncomputable def z41p : XPat := ⟨.normal, [(.ptr 0 [])], [(.box (.tv YReader))]⟩
noncomputable def z41x : List XPat := [⟨.ret, [(.tup (.cons (.tv YEvent) (.cons (.tv (.int .i64)) .nil)))], [(.box (.tv YReader))]⟩]
noncomputable def z41t (k : Nat) (d : z41p.D) : Option (XD z41x) := tcoef_escaped k d.2
noncomputable def z41_e (k : Nat) : UEntry := mkU z41p z41x (z41t k) nilU
theorem z41_n (k : Nat) : UNat (z41_e k) := mkU_nat nilU_nat
theorem z41_fu (k : Nat) : FU P GL 109 (z41_e k) :=
  fn_typed (uorc := uorT (z41U1 k)) hmo (T40_ok k).oo (z41U1_k k) (fd := z41f) (AllU.seq (AllU.no (by kernel_rfl)) (AllU.seq (AllU.no (by kernel_rfl)) (AllU.seq (AllU.no (by kernel_rfl)) (AllU.seq (AllU.no (by kernel_rfl)) (AllU.seq (AllU.seq (AllU.no (by kernel_rfl)) (AllU.unit (uorc := uorT (z41U1 k)) (u := 0) (z41u0_k k))) (AllU.no (by kernel_rfl))))))) (fn := Tryd.f109) (by kernel_rfl) (by kernel_rfl) (fun d => by kernel_rfl) FU_nil
noncomputable def T41 (k : Nat) : List (Nat × Ent) := (109, ⟨z41_e k⟩) :: T40 k
theorem T41_ok (k : Nat) : TabOK P GL (T41 k) := (T40_ok k).cons (z41_fu k) (z41_n k)
/-! ### overspill.tcoef.find -/
noncomputable def z42U0 (_ : Nat) : List (Nat × Ent) := []
theorem z42U0_k (k : Nat) : UTab (z42U0 k) := UTab.nil
noncomputable def z42u0d : UDef := ⟨[(0, none), (1, none), (6, none), (7, none)], [14, 15, 16, 17, 18, 19, 20, 21, 22, 23, 24], [(.normal, [(14, none)])], []⟩
noncomputable def z42u0p : XPat := ⟨.normal, [(.tv (.int .i64)), (.tv (.int .i64)), (.tv (.int .i64)), (.tv (.int .i64))], []⟩
noncomputable def z42u0x : List XPat := [⟨.normal, [(.tv .bool)], []⟩]
noncomputable def tcoef_findu0 (k : Nat) (x0 : Int) (x1 : Int) (x2 : Int) (x3 : Int) : Option (Bool) :=
  bif (decide (x3 = x1)) then
    bif (inR x2 102) then
      some (decide ((List.getD tbl1 (Int.toNat x2) 0) = x0))
    else
      none
  else
  some false
noncomputable def z42u0b : AC :=
  (.region [(iO 15 (.mv (.t 7))),
    (iO 16 (.mv (.t 1))),
    (iO 17 (.bin .eql (.t 15) (.t 16))),
    (iO 18 (.mv (.t 17))),
    ⟨some 19, some (3, 18, true), (.op (.mv (.t 6))), []⟩,
    ⟨some 20, some (3, 18, true), (.op (.iad 102 1 (.g 1) (.t 19))), []⟩,
    ⟨some 21, some (3, 18, true), (.op (.load false 1 (.t 20))), []⟩,
    ⟨some 22, some (3, 18, true), (.op (.mv (.t 0))), []⟩,
    ⟨some 23, some (3, 18, true), (.op (.bin .eql (.t 21) (.t 22))), []⟩,
    (iO 24 (.pick (.t 18) (.t 23) (.c (.tv .bool (false : Bool))))),
    (iO 14 (.mv (.t 24)))])
noncomputable def z42u0t (k : Nat) (d : z42u0p.D) : Option (XD z42u0x) := tcoef_findu0 k d.1 d.2.1 d.2.2.1 d.2.2.2
theorem z42u0_k (k : Nat) : UOK P GL (mkU z42u0p z42u0x (z42u0t k) nilU) z42u0d false z42u0b :=
  unit_typed (ud := z42u0d) (body := z42u0b) (uorc := uorT (z42U0 k)) hmo (T41_ok k).oo (z42U0_k k) (AllU.no (by kernel_rfl)) (fun d => by kernel_rfl)
noncomputable def z42U1 (k : Nat) : List (Nat × Ent) := (0, ⟨mkU z42u0p z42u0x (z42u0t k) nilU⟩) :: z42U0 k
theorem z42U1_k (k : Nat) : UTab (z42U1 k) := (z42U0_k k).cons (mkU_nat nilU_nat)
noncomputable def z42u1d : UDef := ⟨[(0, none), (1, none), (5, none), (8, none)], [4, 5, 6, 7, 8, 9, 10, 11, 12, 13, 14, 15, 16, 17, 18, 19, 20, 21, 22, 23, 24, 25, 26, 27, 28, 29, 30, 31, 32, 33, 34, 35, 36, 37, 38, 39, 40, 41, 42], [(.ret, [(4, none), (5, none)]), ((.exit 0), [(5, none)])], []⟩
noncomputable def z42u1p : XPat := ⟨.normal, [(.tv (.int .i64)), (.tv (.int .i64)), (.tv .bool), (.tv (.int .i64))], []⟩
noncomputable def z42u1x : List XPat := [⟨.ret, [(.tv (.int .i64)), (.tv .bool)], []⟩, ⟨(.exit 0), [(.tv .bool)], []⟩]
noncomputable def tcoef_findu1 (k : Nat) : Nat → (Int) → (Int) → (Bool) → (Int) → Option (((Int) × (Bool)) ⊕ (Bool))
  | 0, _, _, _, _ => none
  | n + 1, x0, x1, x2, x3 =>
    bif (decide (x3 < 102)) then
      bif (inR x3 102) then
        Option.bind (tcoef_findu0 k x0 x1 x3 (List.getD tbl2 (Int.toNat x3) 0)) fun (v167 : Bool) =>
        bif v167 then
          some (Sum.inl (x3, true))
        else
        bif (decide (x1 < (List.getD tbl2 (Int.toNat x3) 0))) then
          bif (inR x3 102) then
            bif (decide ((wr .u64 (wr .i64 ((List.getD tbl2 (Int.toNat x3) 0) - x1))) < 0)) then
              none
            else
            bif (decide ((shrI .i64 (List.getD tbl1 (Int.toNat x3) 0) (wr .u64 (wr .i64 ((List.getD tbl2 (Int.toNat x3) 0) - x1)))) = x0)) then
              Option.bind (tcoef_findu1 k n x0 x1 true (wr .i64 (x3 + 1))) fun r => Sum.elim (fun w => some (Sum.inl w)) (fun w => some (Sum.inr w)) r
            else
            Option.bind (tcoef_findu1 k n x0 x1 x2 (wr .i64 (x3 + 1))) fun r => Sum.elim (fun w => some (Sum.inl w)) (fun w => some (Sum.inr w)) r
          else
            none
        else
        Option.bind (tcoef_findu1 k n x0 x1 x2 (wr .i64 (x3 + 1))) fun r => Sum.elim (fun w => some (Sum.inl w)) (fun w => some (Sum.inr w)) r
      else
        none
    else
    some (Sum.inr x2)
noncomputable def z42u1b : AC :=
  (.seq (.region [(iO 9 (.bin .lss (.t 8) (nI 102)))])
  (.seq (.cond (.t 9)
  .skip
  (.exit 0))
  (.seq (.block 1 (.seq (.region [(iO 10 (.mv (.t 8))),
    (iO 6 (.mv (.t 10)))])
  (.seq (.region [(iO 11 (.mv (.t 6))),
    (iO 12 (.iad 102 1 (.g 2) (.t 11))),
    (iO 13 (.load false 1 (.t 12))),
    (iO 7 (.mv (.t 13)))])
  (.block 2 (.seq (.unit 0 z42u0d false z42u0b)
  (.cond (.t 14)
  (.seq (.region [(iO 25 (.mv (.t 6))),
      (iO 4 (.mv (.t 25))),
      (iO 5 (.mv (.c (.tv .bool (true : Bool)))))])
    .ret)
  (.seq (.region [(iO 27 (.mv (.t 7))),
      (iO 28 (.mv (.t 1))),
      (iO 29 (.bin .gtr (.t 27) (.t 28))),
      (iO 30 (.mv (.t 29))),
      ⟨some 31, some (3, 30, true), (.op (.mv (.t 6))), []⟩,
      ⟨some 32, some (3, 30, true), (.op (.iad 102 1 (.g 1) (.t 31))), []⟩,
      ⟨some 33, some (3, 30, true), (.op (.load false 1 (.t 32))), []⟩,
      ⟨some 34, some (3, 30, true), (.op (.mv (.t 7))), []⟩,
      ⟨some 35, some (3, 30, true), (.op (.mv (.t 1))), []⟩,
      ⟨some 36, some (3, 30, true), (.op (.bin .sub (.t 34) (.t 35))), []⟩,
      ⟨some 37, some (3, 30, true), (.op (.conv .u64 (.t 36))), []⟩,
      ⟨some 38, some (3, 30, true), (.op (.bin .shr (.t 33) (.t 37))), []⟩,
      ⟨some 39, some (3, 30, true), (.op (.mv (.t 0))), []⟩,
      ⟨some 40, some (3, 30, true), (.op (.bin .eql (.t 38) (.t 39))), []⟩,
      (iO 41 (.pick (.t 30) (.t 40) (.c (.tv .bool (false : Bool))))),
      (iO 26 (.mv (.t 41)))])
    (.cond (.t 26)
    (.region [(iO 5 (.mv (.c (.tv .bool (true : Bool)))))])
    .skip))))))))
  (.region [(iO 42 (.bin .add (.t 8) (nI 1))),
    (iO 8 (.mv (.t 42)))]))))
noncomputable def z42u1t (k n : Nat) (d : z42u1p.D) : Option (XD z42u1x) := tcoef_findu1 k n d.1 d.2.1 d.2.2.1 d.2.2.2
theorem z42u1_k (k : Nat) : UOK P GL (mkU z42u1p z42u1x (z42u1t k k) nilU) z42u1d true z42u1b :=
  loop_typed (ud := z42u1d) (body := z42u1b) (uorc := uorT (z42U1 k)) hmo (T41_ok k).oo (z42U1_k k) (AllU.seq (AllU.no (by kernel_rfl)) (AllU.seq (AllU.no (by kernel_rfl)) (AllU.seq (AllU.block (AllU.seq (AllU.no (by kernel_rfl)) (AllU.seq (AllU.no (by kernel_rfl)) (AllU.block (AllU.seq (AllU.unit (uorc := uorT (z42U1 k)) (u := 0) (z42u0_k k)) (AllU.no (by kernel_rfl))))))) (AllU.no (by kernel_rfl))))) (t := z42u1t k) (fun d => by kernel_rfl) (fun n d => by kernel_rfl) k
noncomputable def z42U2 (k : Nat) : List (Nat × Ent) := (1, ⟨mkU z42u1p z42u1x (z42u1t k k) nilU⟩) :: z42U1 k
theorem z42U2_k (k : Nat) : UTab (z42U2 k) := (z42U1_k k).cons (mkU_nat nilU_nat)
noncomputable def tcoef_find (k : Nat) (x0 : Int) (x1 : Int) : Option ((Int) × ((Bool) × (Unit))) :=
  Option.bind (tcoef_findu1 k k x0 x1 false 0) fun r =>
  Sum.elim (fun (v168 : (Int) × (Bool)) =>
    some (v168.1, (v168.2, ())))
    (fun (v169 : Bool) =>
    bif v169 then
      some ((-1), (true, ()))
    else
    bif (decide (x1 < 7)) then
      bif (decide ((wr .u64 (wr .i64 (7 - x1))) < 0)) then
        none
      else
      some ((-1), ((decide ((shrI .i64 3 (wr .u64 (wr .i64 (7 - x1)))) = x0)), ()))
    else
    some ((-1), (false, ()))) r
noncomputable def z42b : AC :=
  (.seq (.region [(iO 4 (.mv (nI 0))),
    (iO 5 (.mv (.c (.tv .bool (false : Bool)))))])
  (.seq (.seq (.region [(iO 8 (.mv (nI 0)))])
  (.block 0 (.unit 1 z42u1d true z42u1b)))
  (.seq (.region [(iO 43 (.mv (.t 5))),
    (iO 44 (.mv (.t 43))),
    ⟨some 45, some (1, 44, false), (.op (.mv (.t 1))), []⟩,
    ⟨some 46, some (1, 44, false), (.op (.bin .lss (.t 45) (nI 7))), []⟩,
    ⟨some 47, some (1, 44, false), (.op (.mv (.t 46))), []⟩,
    ⟨some 48, some (4, 47, true), (.op (.mv (.t 1))), []⟩,
    ⟨some 49, some (4, 47, true), (.op (.bin .sub (nI 7) (.t 48))), []⟩,
    ⟨some 50, some (4, 47, true), (.op (.conv .u64 (.t 49))), []⟩,
    ⟨some 51, some (4, 47, true), (.op (.bin .shr (nI 3) (.t 50))), []⟩,
    ⟨some 52, some (4, 47, true), (.op (.mv (.t 0))), []⟩,
    ⟨some 53, some (4, 47, true), (.op (.bin .eql (.t 51) (.t 52))), []⟩,
    ⟨some 54, some (1, 44, false), (.op (.pick (.t 47) (.t 53) (.c (.tv .bool (false : Bool))))), []⟩,
    (iO 55 (.pick (.t 44) (.c (.tv .bool (true : Bool))) (.t 54))),
    (iO 4 (.mv (nI (-1)))),
    (iO 5 (.mv (.t 55)))])
  .ret)))
noncomputable def z42f : FDef := ⟨2, 56, [.tmp 4 none, .tmp 5 none], z42b⟩
noncomputable def z42p : XPat := ⟨.normal, [(.tv (.int .i64)), (.tv (.int .i64))], []⟩
noncomputable def z42x : List XPat := [⟨.ret, [(.tup (.cons (.tv (.int .i64)) (.cons (.tv .bool) .nil)))], []⟩]
noncomputable def z42t (k : Nat) (d : z42p.D) : Option (XD z42x) := tcoef_find k d.1 d.2
noncomputable def z42_e (k : Nat) : UEntry := mkU z42p z42x (z42t k) nilU
theorem z42_n (k : Nat) : UNat (z42_e k) := mkU_nat nilU_nat
theorem z42_fu (k : Nat) : FU P GL 110 (z42_e k) :=
  fn_typed (uorc := uorT (z42U2 k)) hmo (T41_ok k).oo (z42U2_k k) (fd := z42f) (AllU.seq (AllU.no (by kernel_rfl)) (AllU.seq (AllU.seq (AllU.no (by kernel_rfl)) (AllU.block (AllU.unit (uorc := uorT (z42U2 k)) (u := 1) (z42u1_k k)))) (AllU.no (by kernel_rfl)))) (fn := Tryd.f110) (by kernel_rfl) (by kernel_rfl) (fun d => by kernel_rfl) FU_nil
noncomputable def T42 (k : Nat) : List (Nat × Ent) := (110, ⟨z42_e k⟩) :: T41 k
theorem T42_ok (k : Nat) : TabOK P GL (T42 k) := (T41_ok k).cons (z42_fu k) (z42_n k)
/-! ### overspill.tcoef.event -/
noncomputable def z43U0 (_ : Nat) : List (Nat × Ent) := []
theorem z43U0_k (k : Nat) : UTab (z43U0 k) := UTab.nil
noncomputable def z43u0d : UDef := ⟨[(0, none), (2, none), (3, none), (4, none)], [0, 3, 4, 5, 6, 7, 8, 9, 10, 11, 12, 13, 14, 15, 16, 17, 18, 19, 20, 21, 22, 23], [(.ret, [])], []⟩
noncomputable def z43u0p : XPat := ⟨.normal, [(.tv (.int .i64)), (.ptr 0 []), (.tv .bool), (.tv (.int .i64))], [(.box (.tv YEvent))]⟩
noncomputable def z43u0x : List XPat := [⟨.ret, [], [(.box (.tv YEvent))]⟩]
noncomputable def tcoef_eventu0 (k : Nat) : Nat → (Int) → (Bool) → (Int) → (DEvent) → Option ((Unit) × (DEvent))
  | 0, _, _, _, _ => none
  | n + 1, x0, x1, x2, x3 =>
    Option.bind (tcoef_many k x1 x2) fun (v173 : Int) =>
    bif (decide (v173 = 0)) then
      Option.bind (tcoef_eventu0 k n x0 true 0 x3) fun r => some r
    else
    bif (decide (x0 < v173)) then
      some ((), (x1, (x2, ((wr .i64 (x0 + 1)), ()))))
    else
    Option.bind (tcoef_eventu0 k n (wr .i64 (x0 - v173)) x1 (wr .i64 (x2 + 1)) x3) fun r => some r
noncomputable def z43u0b : AC :=
  (.seq (.block 1 (.seq (.region [(iO 8 (.mv (.t 3))),
    (iO 9 (.mv (.t 4))),
    (iC 10 104 [((.t 8), none), ((.t 9), none)]),
    (iO 5 (.mv (.t 10)))])
  (.seq (.seq (.region [(iO 11 (.mv (.t 5))),
    (iO 12 (.bin .eql (.t 11) (nI 0)))])
  (.cond (.t 12)
  (.seq (.region [(iO 3 (.mv (.c (.tv .bool (true : Bool))))),
      (iO 4 (.mv (nI (-1))))])
    (.exit 1))
  .skip))
  (.seq (.seq (.region [(iO 13 (.mv (.t 0))),
    (iO 14 (.mv (.t 5))),
    (iO 15 (.bin .lss (.t 13) (.t 14)))])
  (.cond (.t 15)
  (.seq (.region [(iO 16 (.mv (.t 3))),
      (iO 17 (.mv (.t 4))),
      (iO 18 (.mv (.t 0))),
      (iO 19 (.bin .add (.t 18) (nI 1))),
      (iO 20 (.build 78 (.tv YEvent) [(0, (.fld 0 0), 1, (.t 16)), (1, (.fld 1 1), 1, (.t 17)), (2, (.fld 2 2), 1, (.t 19))])),
      (iS (.store 3 none (.t 2) (.t 20)))])
    .ret)
  .skip))
  (.region [(iO 21 (.mv (.t 0))),
    (iO 22 (.mv (.t 5))),
    (iO 23 (.bin .sub (.t 21) (.t 22))),
    (iO 0 (.mv (.t 23)))])))))
  (.region [(iO 6 (.mv (.t 4))),
    (iO 7 (.bin .add (.t 6) (nI 1))),
    (iO 4 (.mv (.t 7)))]))
noncomputable def z43u0t (k n : Nat) (d : z43u0p.D) : Option (XD z43u0x) := tcoef_eventu0 k n d.1.1 d.1.2.2.1 d.1.2.2.2 d.2
theorem z43u0_k (k : Nat) : UOK P GL (mkU z43u0p z43u0x (z43u0t k k) nilU) z43u0d true z43u0b :=
  loop_typed (ud := z43u0d) (body := z43u0b) (uorc := uorT (z43U0 k)) hmo (T42_ok k).oo (z43U0_k k) (AllU.no (by kernel_rfl)) (t := z43u0t k) (fun d => by kernel_rfl) (fun n d => by kernel_rfl) k
noncomputable def z43U1 (k : Nat) : List (Nat × Ent) := (0, ⟨mkU z43u0p z43u0x (z43u0t k k) nilU⟩) :: z43U0 k
theorem z43U1_k (k : Nat) : UTab (z43U1 k) := (z43U0_k k).cons (mkU_nat nilU_nat)
noncomputable def tcoef_event (k : Nat) (x0 : Int) : Option (DEvent) :=
  Option.bind (tcoef_eventu0 k k x0 false 0 (false, (0, (0, ())))) fun (v174 : (Unit) × (DEvent)) =>
  some v174.2
noncomputable def z43b : AC :=
  (.seq (.region [(iO 2 (.alloc 78 (.tv YEvent)))])
  (.seq (.region [(iO 3 (.mv (.c (.tv .bool (false : Bool)))))])
  (.seq (.region [(iO 4 (.mv (nI 0)))])
  (.block 0 (.unit 0 z43u0d true z43u0b)))))
noncomputable def z43f : FDef := ⟨1, 24, [.cell 2 3 true (some YEvent)], z43b⟩
noncomputable def z43p : XPat := ⟨.normal, [(.tv (.int .i64))], []⟩
noncomputable def z43x : List XPat := [⟨.ret, [(.tv YEvent)], []⟩]
noncomputable def z43t (k : Nat) (d : z43p.D) : Option (XD z43x) := tcoef_event k d
noncomputable def z43_e (k : Nat) : UEntry := mkU z43p z43x (z43t k) nilU
theorem z43_n (k : Nat) : UNat (z43_e k) := mkU_nat nilU_nat
theorem z43_fu (k : Nat) : FU P GL 111 (z43_e k) :=
  fn_typed (uorc := uorT (z43U1 k)) hmo (T42_ok k).oo (z43U1_k k) (fd := z43f) (AllU.seq (AllU.no (by kernel_rfl)) (AllU.seq (AllU.no (by kernel_rfl)) (AllU.seq (AllU.no (by kernel_rfl)) (AllU.block (AllU.unit (uorc := uorT (z43U1 k)) (u := 0) (z43u0_k k)))))) (fn := Tryd.f111) (by kernel_rfl) (by kernel_rfl) (fun d => by kernel_rfl) FU_nil
noncomputable def T43 (k : Nat) : List (Nat × Ent) := (111, ⟨z43_e k⟩) :: T42 k
theorem T43_ok (k : Nat) : TabOK P GL (T43 k) := (T42_ok k).cons (z43_fu k) (z43_n k)
/-! ### overspill.tcoef.read -/
noncomputable def z44U0 (_ : Nat) : List (Nat × Ent) := []
theorem z44U0_k (k : Nat) : UTab (z44U0 k) := UTab.nil
noncomputable def z44u0d : UDef := ⟨[(4, none), (5, none)], [30, 31, 32, 33, 34, 35], [(.normal, [(35, none)])], []⟩
noncomputable def z44u0p : XPat := ⟨.normal, [(.tv (.int .i64)), (.tv (.int .i64))], []⟩
noncomputable def z44u0x : List XPat := [⟨.normal, [(.tv .bool)], []⟩]
noncomputable def tcoef_readu0 (k : Nat) (x0 : Int) (x1 : Int) : Option (Bool) :=
  bif (decide (x1 = 7)) then
    some (decide (x0 = 3))
  else
  some false
noncomputable def z44u0b : AC :=
  (.region [(iO 30 (.mv (.t 5))),
    (iO 31 (.bin .eql (.t 30) (nI 7))),
    (iO 32 (.mv (.t 31))),
    ⟨some 33, some (2, 32, true), (.op (.mv (.t 4))), []⟩,
    ⟨some 34, some (2, 32, true), (.op (.bin .eql (.t 33) (nI 3))), []⟩,
    (iO 35 (.pick (.t 32) (.t 34) (.c (.tv .bool (false : Bool)))))])
noncomputable def z44u0t (k : Nat) (d : z44u0p.D) : Option (XD z44u0x) := tcoef_readu0 k d.1 d.2
theorem z44u0_k (k : Nat) : UOK P GL (mkU z44u0p z44u0x (z44u0t k) nilU) z44u0d false z44u0b :=
  unit_typed (ud := z44u0d) (body := z44u0b) (uorc := uorT (z44U0 k)) hmo (T43_ok k).oo (z44U0_k k) (AllU.no (by kernel_rfl)) (fun d => by kernel_rfl)
noncomputable def z44U1 (k : Nat) : List (Nat × Ent) := (0, ⟨mkU z44u0p z44u0x (z44u0t k) nilU⟩) :: z44U0 k
theorem z44U1_k (k : Nat) : UTab (z44U1 k) := (z44U0_k k).cons (mkU_nat nilU_nat)
noncomputable def z44u1d : UDef := ⟨[(0, none), (2, none), (4, none), (5, none)], [3, 4, 5, 6, 7, 8, 9, 10, 11, 12, 13, 14, 15, 16, 17, 18, 19, 20, 21, 22, 23, 24, 25, 26, 27, 28, 29, 30, 31, 32, 33, 34, 35, 36, 37, 38, 39, 40, 41, 42, 43, 44, 45, 46, 47, 48, 49, 50, 51, 52, 53, 54, 55, 56, 57, 58, 59, 60, 61, 62, 63, 64, 65, 66, 67, 68], [(.ret, [(3, none)]), ((.exit 0), [])], []⟩
noncomputable def z44u1p : XPat := ⟨.normal, [(.ptr 0 []), (.ptr 1 []), (.tv (.int .i64)), (.tv (.int .i64))], [(.box (.tv YReader)), (.box (.tv YEvent))]⟩
noncomputable def z44u1x : List XPat := [⟨.ret, [(.tv (.int .i64))], [(.box (.tv YReader)), (.box (.tv YEvent))]⟩, ⟨(.exit 0), [], [(.box (.tv YReader)), (.box (.tv YEvent))]⟩]
noncomputable def tcoef_readu1 (k : Nat) : Nat → (Int) → (Int) → (DReader) → (DEvent) → Option (((Int) × ((DReader) × (DEvent))) ⊕ ((Unit) × ((DReader) × (DEvent))))
  | 0, _, _, _, _ => none
  | n + 1, x0, x1, x2, x3 =>
    bif (decide (x1 ≤ 12)) then
      Option.bind (inbits_Reader_Take k 1 x2) fun (v176 : ((Int) × ((Int) × (Unit))) × (DReader)) =>
      bif (!(decide (v176.1.2.1 = 0))) then
        some (Sum.inl (v176.1.2.1, (v176.2, (false, (0, (0, ()))))))
      else
      Option.bind (tcoef_readu0 k (bitop .or .i64 (shlI .i64 x0 1) v176.1.1) x1) fun (v177 : Bool) =>
      bif v177 then
        Option.bind (tcoef_escaped k v176.2) fun (v178 : ((DEvent) × ((Int) × (Unit))) × (DReader)) =>
        some (Sum.inl (v178.1.2.1, (v178.2, v178.1.1)))
      else
      Option.bind (tcoef_find k (bitop .or .i64 (shlI .i64 x0 1) v176.1.1) x1) fun (v179 : (Int) × ((Bool) × (Unit))) =>
      bif (decide ((0 : Int) ≤ v179.1)) then
        Option.bind (inbits_Reader_Take k 1 v176.2) fun (v180 : ((Int) × ((Int) × (Unit))) × (DReader)) =>
        bif (!(decide (v180.1.2.1 = 0))) then
          some (Sum.inl (v180.1.2.1, (v180.2, (false, (0, (0, ()))))))
        else
        Option.bind (tcoef_event k v179.1) fun (v181 : DEvent) =>
        some (Sum.inl (0, (v180.2, (v181.1, (v181.2.1, ((wr .i64 (v181.2.2.1 * (wr .i64 (1 - (wr .i64 (2 * v180.1.1)))))), v181.2.2.2))))))
      else
      bif (!v179.2.1) then
        some (Sum.inr ((), (v176.2, x3)))
      else
      Option.bind (tcoef_readu1 k n (bitop .or .i64 (shlI .i64 x0 1) v176.1.1) (wr .i64 (x1 + 1)) v176.2 x3) fun r => Sum.elim (fun w => some (Sum.inl w)) (fun w => some (Sum.inr w)) r
    else
    some (Sum.inr ((), (x2, x3)))
noncomputable def z44u1b : AC :=
  (.seq (.seq (.region [(iO 13 (.mv (.t 5))),
    (iO 14 (.bin .leq (.t 13) (nI 12)))])
  (.cond (.t 14)
  .skip
  (.exit 0)))
  (.seq (.block 1 (.seq (.region [(iO 18 (.mv (.t 0))),
    (iC 19 72 [((.t 18), none), ((nI 1), none)]),
    (iO 17 (.mv (.t 19))),
    (iO 20 (.ext (.t 17) 0)),
    (iO 21 (.ext (.t 17) 1)),
    (iO 6 (.mv (.t 20))),
    (iO 7 (.mv (.t 21)))])
  (.seq (.seq (.region [(iO 22 (.mv (.t 7))),
    (iO 23 (.bin .neq (.t 22) (nI 0)))])
  (.cond (.t 23)
  (.seq (.region [(iO 24 (.build 78 (.tv YEvent) [])),
      (iO 25 (.mv (.t 7))),
      (iS (.store 3 none (.t 2) (.t 24))),
      (iO 3 (.mv (.t 25)))])
    .ret)
  .skip))
  (.seq (.region [(iO 26 (.mv (.t 4))),
    (iO 27 (.bin .shl (.t 26) (.c (.tv (.int .u64) (1 : Int))))),
    (iO 28 (.mv (.t 6))),
    (iO 29 (.bin .or (.t 27) (.t 28))),
    (iO 4 (.mv (.t 29)))])
  (.seq (.seq (.unit 0 z44u0d false z44u0b)
  (.cond (.t 35)
  (.seq (.region [(iO 36 (.mv (.t 0))),
      (iC 37 109 [((.t 36), none)]),
      (iO 38 (.ext (.t 37) 0)),
      (iO 39 (.ext (.t 37) 1)),
      (iS (.store 3 none (.t 2) (.t 38))),
      (iO 3 (.mv (.t 39)))])
    .ret)
  .skip))
  (.seq (.region [(iO 41 (.mv (.t 4))),
    (iO 42 (.mv (.t 5))),
    (iC 43 110 [((.t 41), none), ((.t 42), none)]),
    (iO 40 (.mv (.t 43))),
    (iO 44 (.ext (.t 40) 0)),
    (iO 45 (.ext (.t 40) 1)),
    (iO 8 (.mv (.t 44))),
    (iO 9 (.mv (.t 45)))])
  (.seq (.seq (.region [(iO 46 (.mv (.t 8))),
    (iO 47 (.bin .geq (.t 46) (nI 0)))])
  (.cond (.t 47)
  (.seq (.region [(iO 49 (.mv (.t 0))),
      (iC 50 72 [((.t 49), none), ((nI 1), none)]),
      (iO 48 (.mv (.t 50))),
      (iO 51 (.ext (.t 48) 0)),
      (iO 52 (.ext (.t 48) 1)),
      (iO 10 (.mv (.t 51))),
      (iO 11 (.mv (.t 52)))])
    (.seq (.seq (.region [(iO 53 (.mv (.t 11))),
      (iO 54 (.bin .neq (.t 53) (nI 0)))])
    (.cond (.t 54)
    (.seq (.region [(iO 55 (.build 78 (.tv YEvent) [])),
        (iO 56 (.mv (.t 11))),
        (iS (.store 3 none (.t 2) (.t 55))),
        (iO 3 (.mv (.t 56)))])
      .ret)
    .skip))
    (.seq (.region [(iO 57 (.mv (.t 8))),
      (iC 58 111 [((.t 57), none)]),
      (iO 12 (.alloc 78 (.tv YEvent))),
      (iS (.store 3 none (.t 12) (.t 58)))])
    (.seq (.region [(iO 59 (.fad 2 2 (.t 12))),
      (iO 60 (.load false 1 (.t 59))),
      (iO 61 (.mv (.t 10))),
      (iO 62 (.bin .mul (nI 2) (.t 61))),
      (iO 63 (.bin .sub (nI 1) (.t 62))),
      (iO 64 (.bin .mul (.t 60) (.t 63))),
      (iO 65 (.fad 2 2 (.t 12))),
      (iS (.store 1 none (.t 65) (.t 64)))])
    (.seq (.region [(iO 66 (.load true 3 (.t 12))),
      (iS (.store 3 none (.t 2) (.t 66))),
      (iO 3 (.mv (nI 0)))])
    .ret)))))
  .skip))
  (.seq (.region [(iO 67 (.mv (.t 9))),
    (iO 68 (.un .not (.t 67)))])
  (.cond (.t 68)
  (.exit 0)
  .skip)))))))))
  (.region [(iO 15 (.mv (.t 5))),
    (iO 16 (.bin .add (.t 15) (nI 1))),
    (iO 5 (.mv (.t 16)))])))
noncomputable def z44u1t (k n : Nat) (d : z44u1p.D) : Option (XD z44u1x) := tcoef_readu1 k n d.1.2.2.1 d.1.2.2.2 d.2.1 d.2.2
theorem z44u1_k (k : Nat) : UOK P GL (mkU z44u1p z44u1x (z44u1t k k) nilU) z44u1d true z44u1b :=
  loop_typed (ud := z44u1d) (body := z44u1b) (uorc := uorT (z44U1 k)) hmo (T43_ok k).oo (z44U1_k k) (AllU.seq (AllU.no (by kernel_rfl)) (AllU.seq (AllU.block (AllU.seq (AllU.no (by kernel_rfl)) (AllU.seq (AllU.no (by kernel_rfl)) (AllU.seq (AllU.no (by kernel_rfl)) (AllU.seq (AllU.seq (AllU.unit (uorc := uorT (z44U1 k)) (u := 0) (z44u0_k k)) (AllU.no (by kernel_rfl))) (AllU.no (by kernel_rfl))))))) (AllU.no (by kernel_rfl)))) (t := z44u1t k) (fun d => by kernel_rfl) (fun n d => by kernel_rfl) k
noncomputable def z44U2 (k : Nat) : List (Nat × Ent) := (1, ⟨mkU z44u1p z44u1x (z44u1t k k) nilU⟩) :: z44U1 k
theorem z44U2_k (k : Nat) : UTab (z44U2 k) := (z44U1_k k).cons (mkU_nat nilU_nat)
noncomputable def tcoef_read (k : Nat) (x0 : DReader) : Option (((DEvent) × ((Int) × (Unit))) × (DReader)) :=
  Option.bind (tcoef_readu1 k k 0 1 x0 (false, (0, (0, ())))) fun r =>
  Sum.elim (fun (v182 : (Int) × ((DReader) × (DEvent))) =>
    some ((v182.2.2, (v182.1, ())), v182.2.1))
    (fun (v183 : (Unit) × ((DReader) × (DEvent))) =>
    some (((false, (0, (0, ()))), (3, ())), v183.2.1)) r
noncomputable def z44b : AC :=
  (.seq (.region [(iO 2 (.alloc 78 (.tv YEvent))),
    (iO 3 (.mv (nI 0)))])
  (.seq (.seq (.region [(iO 4 (.mv (nI 0))),
    (iO 5 (.mv (nI 1)))])
  (.block 0 (.unit 1 z44u1d true z44u1b)))
  (.seq (.region [(iO 69 (.build 78 (.tv YEvent) [])),
    (iS (.store 3 none (.t 2) (.t 69))),
    (iO 3 (.mv (nI 3)))])
  .ret)))
noncomputable def z44f : FDef := ⟨1, 70, [.cell 2 3 true (some YEvent), .tmp 3 none], z44b⟩
noncomputable def z44p : XPat := ⟨.normal, [(.ptr 0 [])], [(.box (.tv YReader))]⟩
noncomputable def z44x : List XPat := [⟨.ret, [(.tup (.cons (.tv YEvent) (.cons (.tv (.int .i64)) .nil)))], [(.box (.tv YReader))]⟩]
noncomputable def z44t (k : Nat) (d : z44p.D) : Option (XD z44x) := tcoef_read k d.2
noncomputable def z44_e (k : Nat) : UEntry := mkU z44p z44x (z44t k) nilU
theorem z44_n (k : Nat) : UNat (z44_e k) := mkU_nat nilU_nat
theorem z44_fu (k : Nat) : FU P GL 106 (z44_e k) :=
  fn_typed (uorc := uorT (z44U2 k)) hmo (T43_ok k).oo (z44U2_k k) (fd := z44f) (AllU.seq (AllU.no (by kernel_rfl)) (AllU.seq (AllU.seq (AllU.no (by kernel_rfl)) (AllU.block (AllU.unit (uorc := uorT (z44U2 k)) (u := 1) (z44u1_k k)))) (AllU.no (by kernel_rfl)))) (fn := Tryd.f106) (by kernel_rfl) (by kernel_rfl) (fun d => by kernel_rfl) FU_nil
noncomputable def T44 (k : Nat) : List (Nat × Ent) := (106, ⟨z44_e k⟩) :: T43 k
theorem T44_ok (k : Nat) : TabOK P GL (T44 k) := (T43_ok k).cons (z44_fu k) (z44_n k)
/-! ### overspill.tcoef.Take -/
noncomputable def z45U0 (_ : Nat) : List (Nat × Ent) := []
theorem z45U0_k (k : Nat) : UTab (z45U0 k) := UTab.nil
noncomputable def tcoef_Take (k : Nat) (x0 : DReader) : Option (((DEvent) × ((Int) × (Unit))) × (DReader)) :=
  Option.bind (inbits_Reader_At k x0) fun (v146 : (Int) × (DReader)) =>
  Option.bind (tcoef_read k v146.2) fun (v184 : ((DEvent) × ((Int) × (Unit))) × (DReader)) =>
  bif (!(decide (v184.1.2.1 = 0))) then
    Option.bind (inbits_Reader_Seek k v146.1 v184.2) fun (v185 : (Int) × (DReader)) =>
    some ((v184.1.1, (v184.1.2.1, ())), v185.2)
  else
  some ((v184.1.1, (v184.1.2.1, ())), v184.2)
noncomputable def z45b : AC :=
  (.seq (.region [(iO 2 (.alloc 78 (.tv YEvent))),
    (iO 3 (.mv (nI 0)))])
  (.seq (.seq (.region [(iO 7 (.mv (.t 0))),
    (iO 8 (.eqp false (.t 7) (.c .nilp)))])
  (.cond (.t 8)
  (.seq (.region [(iO 9 .bad),
      (iS .bad),
      (iO 3 .bad)])
    .ret)
  .skip))
  (.seq (.region [(iO 10 (.mv (.t 0))),
    (iC 11 14 [((.t 10), none)]),
    (iO 4 (.mv (.t 11)))])
  (.seq (.region [(iO 13 (.mv (.t 0))),
    (iC 14 106 [((.t 13), none)]),
    (iO 12 (.mv (.t 14))),
    (iO 15 (.ext (.t 12) 0)),
    (iO 16 (.ext (.t 12) 1)),
    (iO 5 (.alloc 78 (.tv YEvent))),
    (iS (.store 3 none (.t 5) (.t 15))),
    (iO 6 (.mv (.t 16)))])
  (.seq (.seq (.region [(iO 17 (.mv (.t 6))),
    (iO 18 (.bin .neq (.t 17) (nI 0)))])
  (.cond (.t 18)
  (.region [(iO 19 (.mv (.t 0))),
      (iO 20 (.mv (.t 4))),
      (iC 21 8 [((.t 19), none), ((.t 20), none)])])
  .skip))
  (.seq (.region [(iO 22 (.load true 3 (.t 5))),
    (iO 23 (.mv (.t 6))),
    (iS (.store 3 none (.t 2) (.t 22))),
    (iO 3 (.mv (.t 23)))])
  .ret))))))
noncomputable def z45f : FDef := ⟨1, 24, [.cell 2 3 true (some YEvent), .tmp 3 none], z45b⟩
noncomputable def z45p : XPat := ⟨.normal, [(.ptr 0 [])], [(.box (.tv YReader))]⟩
noncomputable def z45x : List XPat := [⟨.ret, [(.tup (.cons (.tv YEvent) (.cons (.tv (.int .i64)) .nil)))], [(.box (.tv YReader))]⟩]
noncomputable def z45t (k : Nat) (d : z45p.D) : Option (XD z45x) := tcoef_Take k d.2
noncomputable def z45_e (k : Nat) : UEntry := mkU z45p z45x (z45t k) nilU
theorem z45_n (k : Nat) : UNat (z45_e k) := mkU_nat nilU_nat
theorem z45_fu (k : Nat) : FU P GL 98 (z45_e k) :=
  fn_typed (uorc := uorT (z45U0 k)) hmo (T44_ok k).oo (z45U0_k k) (fd := z45f) (AllU.no (by kernel_rfl)) (fn := Tryd.f98) (by kernel_rfl) (by kernel_rfl) (fun d => by kernel_rfl) FU_nil
noncomputable def T45 (k : Nat) : List (Nat × Ent) := (98, ⟨z45_e k⟩) :: T44 k
theorem T45_ok (k : Nat) : TabOK P GL (T45 k) := (T44_ok k).cons (z45_fu k) (z45_n k)
/-! ### overspill.blocks.events -/
noncomputable def z46U0 (_ : Nat) : List (Nat × Ent) := []
theorem z46U0_k (k : Nat) : UTab (z46U0 k) := UTab.nil
noncomputable def z46u0d : UDef := ⟨[(0, none), (1, none), (6, none)], [1, 4, 5, 6, 7, 8, 9, 10, 11, 12, 13, 14, 15, 16, 17, 18, 19, 20, 21, 22, 23, 24, 25, 26, 27, 28, 29], [(.ret, [(4, none), (5, none), (6, none)]), ((.exit 0), [(6, none)])], []⟩
noncomputable def z46u0p : XPat := ⟨.normal, [(.ptr 0 []), (.tv (.int .i64)), (.row 1)], [(.box (.tv YReader)), (.row YEvent false)]⟩
noncomputable def z46u0x : List XPat := [⟨.ret, [(.row 1), (.tv (.int .i64)), (.row 2)], [(.box (.tv YReader)), (.row YEvent false), (.row YEvent false)]⟩, ⟨(.exit 0), [(.row 1)], [(.box (.tv YReader)), (.row YEvent false)]⟩]
noncomputable def blocks_eventsu0 (k : Nat) : Nat → (Int) → (DReader) → (List (DEvent)) → Option ((((Unit) × ((Int) × (Unit))) × ((DReader) × ((List (DEvent)) × (List (DEvent))))) ⊕ ((Unit) × ((DReader) × (List (DEvent)))))
  | 0, _, _, _ => none
  | n + 1, x0, x1, x2 =>
    Option.bind (tcoef_Take k x1) fun (v187 : ((DEvent) × ((Int) × (Unit))) × (DReader)) =>
    bif (!(decide (v187.1.2.1 = 0))) then
      some (Sum.inl (((), (v187.1.2.1, ())), (v187.2, (([] : List (DEvent)), x2))))
    else
    bif (decide ((64 : Int) < (wr .i64 (x0 + (wr .i64 (v187.1.1.2.1 + 1)))))) then
      some (Sum.inl (((), (7, ())), (v187.2, (([] : List (DEvent)), x2))))
    else
    bif (decide ((List.length x2) + 1 ≤ rowMax)) then
      bif v187.1.1.1 then
        some (Sum.inr ((), (v187.2, (x2 ++ ([v187.1.1] : List (DEvent))))))
      else
      Option.bind (blocks_eventsu0 k n (wr .i64 (x0 + (wr .i64 (v187.1.1.2.1 + 1)))) v187.2 (x2 ++ ([v187.1.1] : List (DEvent)))) fun r => Sum.elim (fun w => some (Sum.inl w)) (fun w => some (Sum.inr w)) r
    else
      none
noncomputable def z46u0b : AC :=
  (.block 1 (.seq (.region [(iO 10 (.mv (.t 0))),
    (iC 11 98 [((.t 10), none)]),
    (iO 9 (.mv (.t 11))),
    (iO 12 (.ext (.t 9) 0)),
    (iO 13 (.ext (.t 9) 1)),
    (iO 7 (.alloc 78 (.tv YEvent))),
    (iS (.store 3 none (.t 7) (.t 12))),
    (iO 8 (.mv (.t 13)))])
  (.seq (.seq (.region [(iO 14 (.mv (.t 8))),
    (iO 15 (.bin .neq (.t 14) (nI 0)))])
  (.cond (.t 15)
  (.seq (.region [(iO 16 (.mv (.t 8))),
      (iO 4 (.nrow YEvent)),
      (iO 5 (.mv (.t 16)))])
    .ret)
  .skip))
  (.seq (.region [(iO 17 (.mv (.t 1))),
    (iO 18 (.fad 1 1 (.t 7))),
    (iO 19 (.load false 1 (.t 18))),
    (iO 20 (.bin .add (.t 19) (nI 1))),
    (iO 21 (.bin .add (.t 17) (.t 20))),
    (iO 1 (.mv (.t 21)))])
  (.seq (.seq (.region [(iO 22 (.mv (.t 1))),
    (iO 23 (.bin .gtr (.t 22) (nI 64)))])
  (.cond (.t 23)
  (.seq (.region [(iO 4 (.nrow YEvent)),
      (iO 5 (.mv (nI 7)))])
    .ret)
  .skip))
  (.seq (.region [(iO 24 (.mv (.t 6))),
    (iO 25 (.load true 3 (.t 7))),
    (iO 26 (.bslice YEvent [(.t 25)])),
    (iO 27 (.app YEvent (.t 24) (.t 26))),
    (iO 6 (.mv (.t 27)))])
  (.seq (.region [(iO 28 (.fad 0 0 (.t 7))),
    (iO 29 (.load false 1 (.t 28)))])
  (.cond (.t 29)
  (.exit 0)
  .skip))))))))
noncomputable def z46u0t (k n : Nat) (d : z46u0p.D) : Option (XD z46u0x) := blocks_eventsu0 k n d.1.2.1 d.2.1 d.2.2
theorem z46u0_k (k : Nat) : UOK P GL (mkU z46u0p z46u0x (z46u0t k k) nilU) z46u0d true z46u0b :=
  loop_typed (ud := z46u0d) (body := z46u0b) (uorc := uorT (z46U0 k)) hmo (T45_ok k).oo (z46U0_k k) (AllU.no (by kernel_rfl)) (t := z46u0t k) (fun d => by kernel_rfl) (fun n d => by kernel_rfl) k
noncomputable def z46U1 (k : Nat) : List (Nat × Ent) := (0, ⟨mkU z46u0p z46u0x (z46u0t k k) nilU⟩) :: z46U0 k
theorem z46U1_k (k : Nat) : UTab (z46U1 k) := (z46U0_k k).cons (mkU_nat nilU_nat)
noncomputable def blocks_events (k : Nat) (x0 : Int) (x1 : DReader) : Option (((List (DEvent)) × ((Int) × (Unit))) × (DReader)) :=
  Option.bind (blocks_eventsu0 k k x0 x1 ([] : List (DEvent))) fun r =>
  Sum.elim (fun (v188 : ((Unit) × ((Int) × (Unit))) × ((DReader) × ((List (DEvent)) × (List (DEvent))))) =>
    some ((v188.2.2.1, (v188.1.2.1, ())), v188.2.1))
    (fun (v189 : (Unit) × ((DReader) × (List (DEvent)))) =>
    some ((v189.2.2, (0, ())), v189.2.1)) r
noncomputable def z46b : AC :=
  (.seq (.region [(iO 4 (.nrow YEvent)),
    (iO 5 (.mv (nI 0)))])
  (.scope (.seq (.region [(iO 6 (.nrow YEvent))])
  (.seq .label
  (.seq (.block 0 (.unit 0 z46u0d true z46u0b))
  (.seq (.region [(iO 30 (.mv (.t 6))),
    (iO 4 (.mv (.t 30))),
    (iO 5 (.mv (nI 0)))])
  .ret))))))
noncomputable def z46f : FDef := ⟨2, 31, [.tmp 4 (some (.sl YEvent)), .tmp 5 none], z46b⟩
noncomputable def z46p : XPat := ⟨.normal, [(.ptr 0 []), (.tv (.int .i64))], [(.box (.tv YReader))]⟩
noncomputable def z46x : List XPat := [⟨.ret, [(.tup (.cons (.tv (.sl YEvent)) (.cons (.tv (.int .i64)) .nil)))], [(.box (.tv YReader))]⟩]
noncomputable def z46t (k : Nat) (d : z46p.D) : Option (XD z46x) := blocks_events k d.1.2 d.2
noncomputable def z46_e (k : Nat) : UEntry := mkU z46p z46x (z46t k) nilU
theorem z46_n (k : Nat) : UNat (z46_e k) := mkU_nat nilU_nat
theorem z46_fu (k : Nat) : FU P GL 79 (z46_e k) :=
  fn_typed (uorc := uorT (z46U1 k)) hmo (T45_ok k).oo (z46U1_k k) (fd := z46f) (AllU.seq (AllU.no (by kernel_rfl)) (AllU.scope (AllU.seq (AllU.no (by kernel_rfl)) (AllU.seq (AllU.no (by kernel_rfl)) (AllU.seq (AllU.block (AllU.unit (uorc := uorT (z46U1 k)) (u := 0) (z46u0_k k))) (AllU.no (by kernel_rfl))))))) (fn := Tryd.f79) (by kernel_rfl) (by kernel_rfl) (fun d => by kernel_rfl) FU_nil
noncomputable def T46 (k : Nat) : List (Nat × Ent) := (79, ⟨z46_e k⟩) :: T45 k
theorem T46_ok (k : Nat) : TabOK P GL (T46 k) := (T45_ok k).cons (z46_fu k) (z46_n k)
end Go.Proofs.YtlemoepklgfjoaaDoor
