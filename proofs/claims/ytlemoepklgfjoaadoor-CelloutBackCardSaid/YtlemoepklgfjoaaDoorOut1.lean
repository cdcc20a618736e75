/-
  The functions of the program as typed functions; each is what the machine's call tells. Printed by a program of mine.
-/
import Derived.Test.YtlemoepklgfjoaaDoorM3
import Derived.Test.YtlemoepklgfjoaaDoorProg
set_option maxRecDepth 100000
namespace Go.Proofs.YtlemoepklgfjoaaDoor
open Go Go.Av

noncomputable abbrev P : Program := Tryd.prog
theorem hmo : P.follows .mixedOrders = true := by kernel_rfl
abbrev wr (k : IntKind) (x : Int) : Int := k.wrap x
def tbl0 : List Int := [1, 1, 1, 1, 3, 5, 4, 3, 11, 10, 9, 17, 16, 15, 14, 13, 12, 11, 10, 9, 8, 7, 6, 5, 4, 7, 6, 5, 4, 3, 2, 3, 2]
def tbl1 : List Int := [2, 15, 21, 23, 31, 37, 36, 33, 32, 7, 6, 32, 6, 20, 30, 15, 33, 80, 14, 29, 14, 81, 13, 35, 13, 12, 34, 82, 11, 12, 83, 19, 11, 84, 18, 10, 17, 9, 16, 8, 22, 85, 21, 20, 28, 27, 33, 32, 31, 30, 29, 28, 27, 26, 34, 35, 86, 87, 7, 25, 5, 15, 4, 14, 13, 12, 19, 18, 17, 16, 26, 25, 24, 23, 22, 21, 20, 19, 24, 23, 22, 21, 20, 19, 18, 17, 7, 6, 5, 4, 36, 37, 38, 39, 88, 89, 90, 91, 92, 93, 94, 95]
def tbl2 : List Int := [2, 4, 6, 7, 8, 9, 9, 10, 10, 11, 11, 11, 3, 6, 8, 10, 11, 12, 4, 8, 10, 12, 5, 9, 10, 5, 9, 12, 5, 10, 12, 6, 10, 12, 6, 10, 6, 10, 6, 10, 7, 12, 7, 7, 8, 8, 9, 9, 9, 9, 9, 9, 9, 9, 11, 11, 12, 12, 4, 9, 11, 6, 11, 6, 6, 6, 7, 7, 7, 7, 8, 8, 8, 8, 8, 8, 8, 8, 9, 9, 9, 9, 9, 9, 9, 9, 10, 10, 10, 10, 11, 11, 11, 11, 12, 12, 12, 12, 12, 12, 12, 12]
def tbl3 : List Int := [0, 0, 0, 0, 0, 0, 0, 0, 0, 1, 1, 1, 1, 1, 0, 0, 0, 0, 0, 0, 0, 0, 0, 0, 0, 0, 0, 0, 0, 0, 0, 0, 1, 0, 0, 0, 0, 0, 0, 0, 0, 0, 0, 0, 0, 0, 0, 0, 0, 0, 0, 0, 0, 0, 0, 0, 0, 0, 0, 0, 0, 0, 0, 0, 0, 0, 0, 0, 0, 0, 0, 0, 0, 0, 0, 0, 0, 0, 0, 0, 0, 0, 0, 0, 0, 0, 0, 0, 0, 0, 0, 0, 0, 0, 0, 0, 0, 0, 0, 0, 0, 0, 0, 0, 0, 0, 0, 0, 0, 0, 0, 0, 0, 0, 0, 0, 0, 0, 0, 0, 0, 0, 0, 0, 0, 0, 0, 0, 0, 0, 0, 0, 0, 0, 0, 0, 0, 0, 0, 0, 0, 0, 0, 0, 0, 0, 0, 0, 0, 0, 0, 0, 0, 0, 0, 0, 0, 0, 0, 0, 0, 0, 0, 0, 0, 0, 0, 0, 0, 0, 0, 0, 0, 0, 0, 0, 0, 0, 0, 0, 0, 0, 0, 0, 0, 0, 0, 0, 0, 0, 0, 0, 0, 0, 0, 0, 0, 0, 0, 0, 0, 0, 0, 0, 0, 0, 0, 0, 0, 0, 0, 0, 0, 0, 0, 0, 0, 0, 0, 0, 0, 0, 0, 0, 0, 0, 0, 0, 0, 0, 0, 0, 0, 0, 0, 0, 0, 0, 0, 0, 0, 0, 0, 0, 0, 0, 0, 0, 0, 0, 0, 0, 0, 0, 0, 0]
noncomputable def GL : Nat → AV := fun n => bif Nat.beq n 0 then .fp (.arr 33 (.int .i64)) tbl0 else bif Nat.beq n 1 then .fp (.arr 102 (.int .i64)) tbl1 else bif Nat.beq n 2 then .fp (.arr 102 (.int .i64)) tbl2 else bif Nat.beq n 3 then .fp (.arr 256 (.int .u8)) tbl3 else .dead
noncomputable def T0 (_ : Nat) : List (Nat × Ent) := []
theorem T0_ok (k : Nat) : TabOK P GL (T0 k) := TabOK.nil
abbrev YReader : Ty := (.pr .str (.pr (.int .i64) .nil))
abbrev DReader : Type := (List UInt8) × Int × Unit
/-! ### overspill.inbits.New -/
noncomputable def z1U0 (_ : Nat) : List (Nat × Ent) := []
theorem z1U0_k (k : Nat) : UTab (z1U0 k) := UTab.nil
noncomputable def inbits_New (k : Nat) (x0 : List UInt8) : Option ((Unit) × (DReader)) :=
  some ((), (x0, (0, ())))
noncomputable def z1b : AC :=
  (.seq (.region [(iO 2 (.mv (.c .nilp)))])
  (.seq (.region [(iO 3 (.mv (.t 0))),
    (iO 4 (.build 55 (.tv YReader) [(0, (.fld 0 0), 1, (.t 3))])),
    (iO 5 (.box (.t 4))),
    (iO 2 (.mv (.t 5)))])
  .ret))
noncomputable def z1f : FDef := ⟨1, 6, [.tmp 2 none], z1b⟩
noncomputable def z1p : XPat := ⟨.normal, [(.tv .str)], []⟩
noncomputable def z1x : List XPat := [⟨.ret, [(.ptr 0 [])], [(.box (.tv YReader))]⟩]
noncomputable def z1t (k : Nat) (d : z1p.D) : Option (XD z1x) := inbits_New k d
noncomputable def z1_e (k : Nat) : UEntry := mkU z1p z1x (z1t k) nilU
theorem z1_n (k : Nat) : UNat (z1_e k) := mkU_nat nilU_nat
theorem z1_fu (k : Nat) : FU P GL 7 (z1_e k) :=
  fn_typed (uorc := uorT (z1U0 k)) hmo (T0_ok k).oo (z1U0_k k) (fd := z1f) (AllU.no (by kernel_rfl)) (fn := Tryd.f7) (by kernel_rfl) (by kernel_rfl) (fun d => by kernel_rfl) FU_nil
noncomputable def T1 (k : Nat) : List (Nat × Ent) := (7, ⟨z1_e k⟩) :: T0 k
theorem T1_ok (k : Nat) : TabOK P GL (T1 k) := (T0_ok k).cons (z1_fu k) (z1_n k)
/-! ### (*overspill.inbits.Reader).Seek -/
noncomputable def z2U0 (_ : Nat) : List (Nat × Ent) := []
theorem z2U0_k (k : Nat) : UTab (z2U0 k) := UTab.nil
noncomputable def inbits_Reader_Seek (k : Nat) (x0 : Int) (x1 : DReader) : Option ((Int) × (DReader)) :=
  bif (decide (x0 < 0)) then
    some (1, x1)
  else
  bif (decide ((wr .i64 (8 * ((List.length x1.1 : Nat) : Int))) < x0)) then
    some (1, x1)
  else
  some (0, (x1.1, (x0, x1.2.2)))
noncomputable def z2b : AC :=
  (.seq (.region [(iO 4 (.mv (nI 0)))])
  (.seq (.seq (.region [(iO 5 (.mv (.t 0))),
    (iO 6 (.eqp false (.t 5) (.c .nilp))),
    (iO 7 (.mv (.t 6))),
    ⟨some 8, some (2, 7, false), (.op (.mv (.t 1))), []⟩,
    ⟨some 9, some (2, 7, false), (.op (.bin .lss (.t 8) (nI 0))), []⟩,
    (iO 10 (.pick (.t 7) (.c (.tv .bool (true : Bool))) (.t 9))),
    (iO 11 (.mv (.t 10))),
    ⟨some 12, some (6, 11, false), (.op (.mv (.t 1))), []⟩,
    ⟨some 13, some (6, 11, false), (.op (.mv (.t 0))), []⟩,
    ⟨some 14, some (6, 11, false), (.op (.nilc (.t 13))), []⟩,
    ⟨some 15, some (6, 11, false), (.op (.fad 0 0 (.t 14))), []⟩,
    ⟨some 16, some (6, 11, false), (.op (.load false 1 (.t 15))), []⟩,
    ⟨some 17, some (6, 11, false), (.op (.lens (.t 16))), []⟩,
    ⟨some 18, some (6, 11, false), (.op (.bin .mul (nI 8) (.t 17))), []⟩,
    ⟨some 19, some (6, 11, false), (.op (.bin .gtr (.t 12) (.t 18))), []⟩,
    (iO 20 (.pick (.t 11) (.c (.tv .bool (true : Bool))) (.t 19)))])
  (.cond (.t 20)
  (.seq (.region [(iO 4 (.mv (nI 1)))])
    .ret)
  .skip))
  (.seq (.region [(iO 21 (.mv (.t 0))),
    (iO 22 (.mv (.t 1))),
    (iO 23 (.nilc (.t 21))),
    (iO 24 (.fad 1 1 (.t 23))),
    (iS (.store 1 none (.t 24) (.t 22)))])
  (.seq (.region [(iO 4 (.mv (nI 0)))])
  .ret))))
noncomputable def z2f : FDef := ⟨2, 25, [.tmp 4 none], z2b⟩
noncomputable def z2p : XPat := ⟨.normal, [(.ptr 0 []), (.tv (.int .i64))], [(.box (.tv YReader))]⟩
noncomputable def z2x : List XPat := [⟨.ret, [(.tv (.int .i64))], [(.box (.tv YReader))]⟩]
noncomputable def z2t (k : Nat) (d : z2p.D) : Option (XD z2x) := inbits_Reader_Seek k d.1.2 d.2
noncomputable def z2_e (k : Nat) : UEntry := mkU z2p z2x (z2t k) nilU
theorem z2_n (k : Nat) : UNat (z2_e k) := mkU_nat nilU_nat
theorem z2_fu (k : Nat) : FU P GL 8 (z2_e k) :=
  fn_typed (uorc := uorT (z2U0 k)) hmo (T1_ok k).oo (z2U0_k k) (fd := z2f) (AllU.no (by kernel_rfl)) (fn := Tryd.f8) (by kernel_rfl) (by kernel_rfl) (fun d => by kernel_rfl) FU_nil
noncomputable def T2 (k : Nat) : List (Nat × Ent) := (8, ⟨z2_e k⟩) :: T1 k
theorem T2_ok (k : Nat) : TabOK P GL (T2 k) := (T1_ok k).cons (z2_fu k) (z2_n k)
/-! ### overspill.outbits.New -/
noncomputable def z3U0 (_ : Nat) : List (Nat × Ent) := []
theorem z3U0_k (k : Nat) : UTab (z3U0 k) := UTab.nil
noncomputable def outbits_New (k : Nat) : Option ((Unit) × (((Unit) × ((Int) × (Unit))) × (List (Int)))) :=
  some ((), (((), (0, ())), ([] : List (Int))))
noncomputable def z3b : AC :=
  (.seq (.region [(iO 0 (.mv (.c .nilp)))])
  (.seq (.region [(iO 1 (.build 80 (.cons (.row (.int .u8)) (.cons (.tv (.int .i64)) .nil)) [])),
    (iO 2 (.box (.t 1))),
    (iO 0 (.mv (.t 2)))])
  .ret))
noncomputable def z3f : FDef := ⟨0, 3, [.tmp 0 none], z3b⟩
noncomputable def z3p : XPat := ⟨.normal, [], []⟩
noncomputable def z3x : List XPat := [⟨.ret, [(.ptr 0 [])], [(.box (.cons (.row 1) (.cons (.tv (.int .i64)) .nil))), (.row (.int .u8) false)]⟩]
noncomputable def z3t (k : Nat) (d : z3p.D) : Option (XD z3x) := outbits_New k
noncomputable def z3_e (k : Nat) : UEntry := mkU z3p z3x (z3t k) nilU
theorem z3_n (k : Nat) : UNat (z3_e k) := mkU_nat nilU_nat
theorem z3_fu (k : Nat) : FU P GL 17 (z3_e k) :=
  fn_typed (uorc := uorT (z3U0 k)) hmo (T2_ok k).oo (z3U0_k k) (fd := z3f) (AllU.no (by kernel_rfl)) (fn := Tryd.f17) (by kernel_rfl) (by kernel_rfl) (fun d => by kernel_rfl) FU_nil
noncomputable def T3 (k : Nat) : List (Nat × Ent) := (17, ⟨z3_e k⟩) :: T2 k
theorem T3_ok (k : Nat) : TabOK P GL (T3 k) := (T2_ok k).cons (z3_fu k) (z3_n k)
abbrev YEvent : Ty := (.pr .bool (.pr (.int .i64) (.pr (.int .i64) .nil)))
abbrev YCell : Ty := (.pr (.int .i64) (.pr .bool (.pr (.int .i64) (.pr (.int .i64) (.pr (.arr 2 (.int .i64)) (.pr (.arr 6 (.int .i64)) (.pr (.arr 6 (.sl YEvent)) .nil)))))))
abbrev DEvent : Type := Bool × Int × Int × Unit
abbrev DCell : Type := Int × Bool × Int × Int × (List (Int)) × (List (Int)) × (List (List (DEvent))) × Unit
/-! ### overspill.cellout.bare -/
noncomputable def z4U0 (_ : Nat) : List (Nat × Ent) := []
theorem z4U0_k (k : Nat) : UTab (z4U0 k) := UTab.nil
noncomputable def z4u0d : UDef := ⟨[(1, none)], [3, 6, 7, 8, 9, 10, 11, 12, 13, 14, 15, 16, 17, 18, 19, 20, 21, 22, 23, 24, 25], [(.normal, [(3, none)])], []⟩
noncomputable def z4u0p : XPat := ⟨.normal, [(.ptr 0 [])], [(.box (.tv YCell))]⟩
noncomputable def z4u0x : List XPat := [⟨.normal, [(.tv .bool)], [(.box (.tv YCell))]⟩]
noncomputable def cellout_bareu0 (k : Nat) (x0 : DCell) : Option ((Bool) × (DCell)) :=
  bif (decide (x0.2.2.1 = 0)) then
    bif (decide (x0.2.2.2.1 = 0)) then
      bif (false ^^ Ty.eqB (.arr 2 (.int .i64)) x0.2.2.2.2.1 (Ty.zero (.arr 2 (.int .i64)))) then
        some ((false ^^ Ty.eqB (.arr 6 (.int .i64)) x0.2.2.2.2.2.1 (Ty.zero (.arr 6 (.int .i64)))), x0)
      else
      some (false, x0)
    else
    some (false, x0)
  else
  some (false, x0)
noncomputable def z4u0b : AC :=
  (.region [(iO 6 (.fad 2 2 (.t 1))),
    (iO 7 (.load false 1 (.t 6))),
    (iO 8 (.bin .eql (.t 7) (nI 0))),
    (iO 9 (.mv (.t 8))),
    ⟨some 10, some (3, 9, true), (.op (.fad 3 3 (.t 1))), []⟩,
    ⟨some 11, some (3, 9, true), (.op (.load false 1 (.t 10))), []⟩,
    ⟨some 12, some (3, 9, true), (.op (.bin .eql (.t 11) (nI 0))), []⟩,
    (iO 13 (.pick (.t 9) (.t 12) (.c (.tv .bool (false : Bool))))),
    (iO 14 (.mv (.t 13))),
    ⟨some 15, some (8, 14, true), (.op (.fad 4 4 (.t 1))), []⟩,
    ⟨some 16, some (8, 14, true), (.op (.load true 2 (.t 15))), []⟩,
    ⟨some 17, some (8, 14, true), (.op (.build 24 (.tv (.arr 2 (.int .i64))) [])), []⟩,
    ⟨some 18, some (8, 14, true), (.op (.eqa false (.arr 2 (.int .i64)) (.t 16) (.t 17))), []⟩,
    (iO 19 (.pick (.t 14) (.t 18) (.c (.tv .bool (false : Bool))))),
    (iO 20 (.mv (.t 19))),
    ⟨some 21, some (14, 20, true), (.op (.fad 5 6 (.t 1))), []⟩,
    ⟨some 22, some (14, 20, true), (.op (.load true 6 (.t 21))), []⟩,
    ⟨some 23, some (14, 20, true), (.op (.build 30 (.tv (.arr 6 (.int .i64))) [])), []⟩,
    ⟨some 24, some (14, 20, true), (.op (.eqa false (.arr 6 (.int .i64)) (.t 22) (.t 23))), []⟩,
    (iO 25 (.pick (.t 20) (.t 24) (.c (.tv .bool (false : Bool))))),
    (iO 3 (.mv (.t 25)))])
noncomputable def z4u0t (k : Nat) (d : z4u0p.D) : Option (XD z4u0x) := cellout_bareu0 k d.2
theorem z4u0_k (k : Nat) : UOK P GL (mkU z4u0p z4u0x (z4u0t k) nilU) z4u0d false z4u0b :=
  unit_typed (ud := z4u0d) (body := z4u0b) (uorc := uorT (z4U0 k)) hmo (T3_ok k).oo (z4U0_k k) (AllU.no (by kernel_rfl)) (fun d => by kernel_rfl)
noncomputable def z4U1 (k : Nat) : List (Nat × Ent) := (0, ⟨mkU z4u0p z4u0x (z4u0t k) nilU⟩) :: z4U0 k
theorem z4U1_k (k : Nat) : UTab (z4U1 k) := (z4U0_k k).cons (mkU_nat nilU_nat)
noncomputable def z4u1d : UDef := ⟨[(3, none), (27, none), (28, none)], [3, 5, 28, 29, 30, 31, 32, 33, 34, 35, 36, 37], [((.exit 0), [(3, none)])], []⟩
noncomputable def z4u1p : XPat := ⟨.normal, [(.tv .bool), (.tv (.arr 6 (.sl YEvent))), (.tv (.int .i64))], []⟩
noncomputable def z4u1x : List XPat := [⟨(.exit 0), [(.tv .bool)], []⟩]
noncomputable def cellout_bareu1 (k : Nat) : Nat → (Bool) → (List (List (DEvent))) → (Int) → Option (Bool)
  | 0, _, _, _ => none
  | n + 1, x0, x1, x2 =>
    bif (decide (x2 < 6)) then
      bif (inR x2 6) then
        bif x0 then
          Option.bind (cellout_bareu1 k n (decide (((List.length (List.getD x1 (Int.toNat x2) ([] : List (DEvent))) : Nat) : Int) = 0)) x1 (wr .i64 (x2 + 1))) fun r => some r
        else
        Option.bind (cellout_bareu1 k n false x1 (wr .i64 (x2 + 1))) fun r => some r
      else
        none
    else
    some x0
noncomputable def z4u1b : AC :=
  (.seq (.region [(iO 29 (.bin .lss (.t 28) (nI 6)))])
  (.seq (.cond (.t 29)
  .skip
  (.exit 0))
  (.seq (.block 1 (.seq (.region [(iO 30 (.ix 6 1 false (.t 27) (.t 28))),
    (iO 5 (.mv (.t 30)))])
  (.region [(iO 31 (.mv (.t 3))),
    (iO 32 (.mv (.t 31))),
    ⟨some 33, some (1, 32, true), (.op (.mv (.t 5))), []⟩,
    ⟨some 34, some (1, 32, true), (.op (.len (.t 33))), []⟩,
    ⟨some 35, some (1, 32, true), (.op (.bin .eql (.t 34) (nI 0))), []⟩,
    (iO 36 (.pick (.t 32) (.t 35) (.c (.tv .bool (false : Bool))))),
    (iO 3 (.mv (.t 36)))])))
  (.region [(iO 37 (.bin .add (.t 28) (nI 1))),
    (iO 28 (.mv (.t 37)))]))))
noncomputable def z4u1t (k n : Nat) (d : z4u1p.D) : Option (XD z4u1x) := cellout_bareu1 k n d.1 d.2.1 d.2.2
theorem z4u1_k (k : Nat) : UOK P GL (mkU z4u1p z4u1x (z4u1t k k) nilU) z4u1d true z4u1b :=
  loop_typed (ud := z4u1d) (body := z4u1b) (uorc := uorT (z4U1 k)) hmo (T3_ok k).oo (z4U1_k k) (AllU.no (by kernel_rfl)) (t := z4u1t k) (fun d => by kernel_rfl) (fun n d => by kernel_rfl) k
noncomputable def z4U2 (k : Nat) : List (Nat × Ent) := (1, ⟨mkU z4u1p z4u1x (z4u1t k k) nilU⟩) :: z4U1 k
theorem z4U2_k (k : Nat) : UTab (z4U2 k) := (z4U1_k k).cons (mkU_nat nilU_nat)
noncomputable def cellout_bare (k : Nat) (x0 : DCell) : Option (Bool) :=
  Option.bind (cellout_bareu0 k x0) fun (v7 : (Bool) × (DCell)) =>
  Option.bind (cellout_bareu1 k k v7.1 v7.2.2.2.2.2.2.2.1 0) fun (v8 : Bool) =>
  some v8
noncomputable def z4b : AC :=
  (.seq (.region [(iO 1 (.box (.t 0))),
    (iO 2 (.mv (.c (.tv .bool (false : Bool)))))])
  (.seq (.unit 0 z4u0d false z4u0b)
  (.seq (.seq (.region [(iO 26 (.fad 6 12 (.t 1))),
    (iO 27 (.load true 6 (.t 26))),
    (iO 28 (.mv (nI 0)))])
  (.block 0 (.unit 1 z4u1d true z4u1b)))
  (.seq (.region [(iO 38 (.mv (.t 3))),
    (iO 2 (.mv (.t 38)))])
  .ret))))
noncomputable def z4f : FDef := ⟨1, 39, [.tmp 2 none], z4b⟩
noncomputable def z4p : XPat := ⟨.normal, [(.tv YCell)], []⟩
noncomputable def z4x : List XPat := [⟨.ret, [(.tv .bool)], []⟩]
noncomputable def z4t (k : Nat) (d : z4p.D) : Option (XD z4x) := cellout_bare k d
noncomputable def z4_e (k : Nat) : UEntry := mkU z4p z4x (z4t k) nilU
theorem z4_n (k : Nat) : UNat (z4_e k) := mkU_nat nilU_nat
theorem z4_fu (k : Nat) : FU P GL 46 (z4_e k) :=
  fn_typed (uorc := uorT (z4U2 k)) hmo (T3_ok k).oo (z4U2_k k) (fd := z4f) (AllU.seq (AllU.no (by kernel_rfl)) (AllU.seq (AllU.unit (uorc := uorT (z4U2 k)) (u := 0) (z4u0_k k)) (AllU.seq (AllU.seq (AllU.no (by kernel_rfl)) (AllU.block (AllU.unit (uorc := uorT (z4U2 k)) (u := 1) (z4u1_k k)))) (AllU.no (by kernel_rfl))))) (fn := Tryd.f46) (by kernel_rfl) (by kernel_rfl) (fun d => by kernel_rfl) FU_nil
noncomputable def T4 (k : Nat) : List (Nat × Ent) := (46, ⟨z4_e k⟩) :: T3 k
theorem T4_ok (k : Nat) : TabOK P GL (T4 k) := (T3_ok k).cons (z4_fu k) (z4_n k)
/-! ### overspill.cellout.intra -/
noncomputable def z5U0 (_ : Nat) : List (Nat × Ent) := []
theorem z5U0_k (k : Nat) : UTab (z5U0 k) := UTab.nil
noncomputable def cellout_intra (k : Nat) (x0 : Int) : Option (Bool) :=
  bif (decide (x0 = 3)) then
    some true
  else
  some (decide (x0 = 4))
noncomputable def z5b : AC :=
  (.seq (.region [(iO 2 (.mv (.c (.tv .bool (false : Bool)))))])
  (.seq (.region [(iO 3 (.mv (.t 0))),
    (iO 4 (.bin .eql (.t 3) (nI 3))),
    (iO 5 (.mv (.t 4))),
    ⟨some 6, some (2, 5, false), (.op (.mv (.t 0))), []⟩,
    ⟨some 7, some (2, 5, false), (.op (.bin .eql (.t 6) (nI 4))), []⟩,
    (iO 8 (.pick (.t 5) (.c (.tv .bool (true : Bool))) (.t 7))),
    (iO 2 (.mv (.t 8)))])
  .ret))
noncomputable def z5f : FDef := ⟨1, 9, [.tmp 2 none], z5b⟩
noncomputable def z5p : XPat := ⟨.normal, [(.tv (.int .i64))], []⟩
noncomputable def z5x : List XPat := [⟨.ret, [(.tv .bool)], []⟩]
noncomputable def z5t (k : Nat) (d : z5p.D) : Option (XD z5x) := cellout_intra k d
noncomputable def z5_e (k : Nat) : UEntry := mkU z5p z5x (z5t k) nilU
theorem z5_n (k : Nat) : UNat (z5_e k) := mkU_nat nilU_nat
theorem z5_fu (k : Nat) : FU P GL 39 (z5_e k) :=
  fn_typed (uorc := uorT (z5U0 k)) hmo (T4_ok k).oo (z5U0_k k) (fd := z5f) (AllU.no (by kernel_rfl)) (fn := Tryd.f39) (by kernel_rfl) (by kernel_rfl) (fun d => by kernel_rfl) FU_nil
noncomputable def T5 (k : Nat) : List (Nat × Ent) := (39, ⟨z5_e k⟩) :: T4 k
theorem T5_ok (k : Nat) : TabOK P GL (T5 k) := (T4_ok k).cons (z5_fu k) (z5_n k)
/-! ### overspill.steps.Row -/
noncomputable def z6U0 (_ : Nat) : List (Nat × Ent) := []
theorem z6U0_k (k : Nat) : UTab (z6U0 k) := UTab.nil
noncomputable def steps_Row (k : Nat) (x0 : Int) : Option ((List UInt8) × ((Bool) × (Unit))) :=
  bif (decide (x0 = (-1))) then
    some (([48, 48] : List UInt8), (true, ()))
  else
  bif (decide (x0 = (-2))) then
    some (([48, 49] : List UInt8), (true, ()))
  else
  bif (decide (x0 = 1)) then
    some (([49, 48] : List UInt8), (true, ()))
  else
  bif (decide (x0 = 2)) then
    some (([49, 49] : List UInt8), (true, ()))
  else
  some (([] : List UInt8), (false, ()))
noncomputable def z6b : AC :=
  (.seq (.region [(iO 2 (.mv (.c (.tv .str (([] : List UInt8) : List UInt8))))),
    (iO 3 (.mv (.c (.tv .bool (false : Bool)))))])
  (.seq (.seq (.region [(iO 4 (.mv (.t 0)))])
  (.block 0 (.seq (.region [(iO 6 (.bin .eql (.t 4) (nI (-1)))),
    (iO 5 (.mv (.t 6)))])
  (.cond (.t 5)
  (.seq (.region [(iO 2 (.mv (.c (.tv .str (([48, 48] : List UInt8) : List UInt8))))),
      (iO 3 (.mv (.c (.tv .bool (true : Bool)))))])
    .ret)
  (.seq (.region [(iO 8 (.bin .eql (.t 4) (nI (-2)))),
      (iO 7 (.mv (.t 8)))])
    (.cond (.t 7)
    (.seq (.region [(iO 2 (.mv (.c (.tv .str (([48, 49] : List UInt8) : List UInt8))))),
        (iO 3 (.mv (.c (.tv .bool (true : Bool)))))])
      .ret)
    (.seq (.region [(iO 10 (.bin .eql (.t 4) (nI 1))),
        (iO 9 (.mv (.t 10)))])
      (.cond (.t 9)
      (.seq (.region [(iO 2 (.mv (.c (.tv .str (([49, 48] : List UInt8) : List UInt8))))),
          (iO 3 (.mv (.c (.tv .bool (true : Bool)))))])
        .ret)
      (.seq (.region [(iO 12 (.bin .eql (.t 4) (nI 2))),
          (iO 11 (.mv (.t 12)))])
        (.cond (.t 11)
        (.seq (.region [(iO 2 (.mv (.c (.tv .str (([49, 49] : List UInt8) : List UInt8))))),
            (iO 3 (.mv (.c (.tv .bool (true : Bool)))))])
          .ret)
        .skip))))))))))
  (.seq (.region [(iO 2 (.mv (.c (.tv .str (([] : List UInt8) : List UInt8))))),
    (iO 3 (.mv (.c (.tv .bool (false : Bool)))))])
  .ret)))
noncomputable def z6f : FDef := ⟨1, 13, [.tmp 2 none, .tmp 3 none], z6b⟩
noncomputable def z6p : XPat := ⟨.normal, [(.tv (.int .i64))], []⟩
noncomputable def z6x : List XPat := [⟨.ret, [(.tup (.cons (.tv .str) (.cons (.tv .bool) .nil)))], []⟩]
noncomputable def z6t (k : Nat) (d : z6p.D) : Option (XD z6x) := steps_Row k d
noncomputable def z6_e (k : Nat) : UEntry := mkU z6p z6x (z6t k) nilU
theorem z6_n (k : Nat) : UNat (z6_e k) := mkU_nat nilU_nat
theorem z6_fu (k : Nat) : FU P GL 42 (z6_e k) :=
  fn_typed (uorc := uorT (z6U0 k)) hmo (T5_ok k).oo (z6U0_k k) (fd := z6f) (AllU.no (by kernel_rfl)) (fn := Tryd.f42) (by kernel_rfl) (by kernel_rfl) (fun d => by kernel_rfl) FU_nil
noncomputable def T6 (k : Nat) : List (Nat × Ent) := (42, ⟨z6_e k⟩) :: T5 k
theorem T6_ok (k : Nat) : TabOK P GL (T6 k) := (T5_ok k).cons (z6_fu k) (z6_n k)
/-! ### overspill.cellout.stepped -/
noncomputable def z7U0 (_ : Nat) : List (Nat × Ent) := []
theorem z7U0_k (k : Nat) : UTab (z7U0 k) := UTab.nil
noncomputable def cellout_stepped (k : Nat) (x0 : Int) : Option (Bool) :=
  bif (decide (x0 = 1)) then
    some true
  else
  some (decide (x0 = 4))
noncomputable def z7b : AC :=
  (.seq (.region [(iO 2 (.mv (.c (.tv .bool (false : Bool)))))])
  (.seq (.region [(iO 3 (.mv (.t 0))),
    (iO 4 (.bin .eql (.t 3) (nI 1))),
    (iO 5 (.mv (.t 4))),
    ⟨some 6, some (2, 5, false), (.op (.mv (.t 0))), []⟩,
    ⟨some 7, some (2, 5, false), (.op (.bin .eql (.t 6) (nI 4))), []⟩,
    (iO 8 (.pick (.t 5) (.c (.tv .bool (true : Bool))) (.t 7))),
    (iO 2 (.mv (.t 8)))])
  .ret))
noncomputable def z7f : FDef := ⟨1, 9, [.tmp 2 none], z7b⟩
noncomputable def z7p : XPat := ⟨.normal, [(.tv (.int .i64))], []⟩
noncomputable def z7x : List XPat := [⟨.ret, [(.tv .bool)], []⟩]
noncomputable def z7t (k : Nat) (d : z7p.D) : Option (XD z7x) := cellout_stepped k d
noncomputable def z7_e (k : Nat) : UEntry := mkU z7p z7x (z7t k) nilU
theorem z7_n (k : Nat) : UNat (z7_e k) := mkU_nat nilU_nat
theorem z7_fu (k : Nat) : FU P GL 41 (z7_e k) :=
  fn_typed (uorc := uorT (z7U0 k)) hmo (T6_ok k).oo (z7U0_k k) (fd := z7f) (AllU.no (by kernel_rfl)) (fn := Tryd.f41) (by kernel_rfl) (by kernel_rfl) (fun d => by kernel_rfl) FU_nil
noncomputable def T7 (k : Nat) : List (Nat × Ent) := (41, ⟨z7_e k⟩) :: T6 k
theorem T7_ok (k : Nat) : TabOK P GL (T7 k) := (T6_ok k).cons (z7_fu k) (z7_n k)
/-! ### overspill.whole.Wrap -/
noncomputable def z8U0 (_ : Nat) : List (Nat × Ent) := []
theorem z8U0_k (k : Nat) : UTab (z8U0 k) := UTab.nil
noncomputable def whole_Wrap (k : Nat) (x0 : Int) : Option (Int) :=
  bif (decide ((Int.tmod x0 64) < (-32))) then
    some (wr .i64 ((Int.tmod x0 64) + 64))
  else
  bif (decide ((32 : Int) ≤ (Int.tmod x0 64))) then
    some (wr .i64 ((Int.tmod x0 64) - 64))
  else
  some (Int.tmod x0 64)
noncomputable def z8b : AC :=
  (.seq (.region [(iO 2 (.mv (nI 0)))])
  (.seq (.region [(iO 3 (.mv (.t 0))),
    (iO 4 (.bin .rem (.t 3) (nI 64))),
    (iO 0 (.mv (.t 4)))])
  (.seq (.block 0 (.seq (.region [(iO 6 (.mv (.t 0))),
    (iO 7 (.bin .lss (.t 6) (nI (-32)))),
    (iO 5 (.mv (.t 7)))])
  (.cond (.t 5)
  (.seq (.region [(iO 8 (.mv (.t 0))),
      (iO 9 (.bin .add (.t 8) (nI 64))),
      (iO 2 (.mv (.t 9)))])
    .ret)
  (.seq (.region [(iO 11 (.mv (.t 0))),
      (iO 12 (.bin .geq (.t 11) (nI 32))),
      (iO 10 (.mv (.t 12)))])
    (.cond (.t 10)
    (.seq (.region [(iO 13 (.mv (.t 0))),
        (iO 14 (.bin .sub (.t 13) (nI 64))),
        (iO 2 (.mv (.t 14)))])
      .ret)
    .skip)))))
  (.seq (.region [(iO 15 (.mv (.t 0))),
    (iO 2 (.mv (.t 15)))])
  .ret))))
noncomputable def z8f : FDef := ⟨1, 16, [.tmp 2 none], z8b⟩
noncomputable def z8p : XPat := ⟨.normal, [(.tv (.int .i64))], []⟩
noncomputable def z8x : List XPat := [⟨.ret, [(.tv (.int .i64))], []⟩]
noncomputable def z8t (k : Nat) (d : z8p.D) : Option (XD z8x) := whole_Wrap k d
noncomputable def z8_e (k : Nat) : UEntry := mkU z8p z8x (z8t k) nilU
theorem z8_n (k : Nat) : UNat (z8_e k) := mkU_nat nilU_nat
theorem z8_fu (k : Nat) : FU P GL 44 (z8_e k) :=
  fn_typed (uorc := uorT (z8U0 k)) hmo (T7_ok k).oo (z8U0_k k) (fd := z8f) (AllU.no (by kernel_rfl)) (fn := Tryd.f44) (by kernel_rfl) (by kernel_rfl) (fun d => by kernel_rfl) FU_nil
noncomputable def T8 (k : Nat) : List (Nat × Ent) := (44, ⟨z8_e k⟩) :: T7 k
theorem T8_ok (k : Nat) : TabOK P GL (T8 k) := (T7_ok k).cons (z8_fu k) (z8_n k)
/-! ### overspill.cellout.vector -/
noncomputable def z9U0 (_ : Nat) : List (Nat × Ent) := []
theorem z9U0_k (k : Nat) : UTab (z9U0 k) := UTab.nil
noncomputable def cellout_vector (k : Nat) (x0 : DCell) : Option (Bool) :=
  Option.bind (cellout_intra k x0.2.2.1) fun (v17 : Bool) =>
  bif v17 then
    some (false ^^ Ty.eqB (.arr 2 (.int .i64)) x0.2.2.2.2.1 (Ty.zero (.arr 2 (.int .i64))))
  else
  Option.bind (whole_Wrap k (List.getD x0.2.2.2.2.1 0 0)) fun (v18 : Int) =>
  bif (decide (v18 = (List.getD x0.2.2.2.2.1 0 0))) then
    Option.bind (whole_Wrap k (List.getD x0.2.2.2.2.1 1 0)) fun (v19 : Int) =>
    some (decide (v19 = (List.getD x0.2.2.2.2.1 1 0)))
  else
  some false
noncomputable def z9b : AC :=
  (.seq (.region [(iO 1 (.box (.t 0))),
    (iO 2 (.mv (.c (.tv .bool (false : Bool)))))])
  (.seq (.seq (.region [(iO 3 (.fad 2 2 (.t 1))),
    (iO 4 (.load false 1 (.t 3))),
    (iC 5 39 [((.t 4), none)])])
  (.cond (.t 5)
  (.seq (.region [(iO 6 (.fad 4 4 (.t 1))),
      (iO 7 (.load true 2 (.t 6))),
      (iO 8 (.build 24 (.tv (.arr 2 (.int .i64))) [])),
      (iO 9 (.eqa false (.arr 2 (.int .i64)) (.t 7) (.t 8))),
      (iO 2 (.mv (.t 9)))])
    .ret)
  .skip))
  (.seq (.draw [(iO 10 (.fad 4 4 (.t 1))),
    (iOa 11 (.iad 2 1 (.t 10) (nI 0)) [0]),
    (iOa 12 (.load false 1 (.t 11)) [0, 1]),
    (iCa 13 44 [((.t 12), none)] [0, 1, 2]),
    (iO 14 (.fad 4 4 (.t 1))),
    (iOa 15 (.iad 2 1 (.t 14) (nI 0)) [4]),
    (iOa 16 (.load false 1 (.t 15)) [4, 5]),
    (iOa 17 (.bin .eql (.t 13) (.t 16)) (rg [0, 7])),
    (iOa 18 (.mv (.t 17)) (rg [0, 8])),
    ⟨some 19, some (8, 18, true), (.op (.fad 4 4 (.t 1))), (rg [0, 9])⟩,
    ⟨some 20, some (8, 18, true), (.op (.iad 2 1 (.t 19) (nI 1))), (rg [0, 10])⟩,
    ⟨some 21, some (8, 18, true), (.op (.load false 1 (.t 20))), (rg [0, 11])⟩,
    ⟨some 22, some (8, 18, true), (.call (.c (.fn 44 .nil .nil)) [((.t 21), none)]), (rg [0, 12])⟩,
    ⟨some 23, some (8, 18, true), (.op (.fad 4 4 (.t 1))), (rg [0, 9])⟩,
    ⟨some 24, some (8, 18, true), (.op (.iad 2 1 (.t 23) (nI 1))), (rg [0, 9, 13, 1])⟩,
    ⟨some 25, some (8, 18, true), (.op (.load false 1 (.t 24))), (rg [0, 9, 13, 2])⟩,
    ⟨some 26, some (8, 18, true), (.op (.bin .eql (.t 22) (.t 25))), (rg [0, 16])⟩,
    (iOa 27 (.pick (.t 18) (.t 26) (.c (.tv .bool (false : Bool)))) (rg [0, 17])),
    (iOa 2 (.mv (.t 27)) (rg [0, 18]))])
  .ret)))
noncomputable def z9f : FDef := ⟨1, 28, [.tmp 2 none], z9b⟩
noncomputable def z9p : XPat := ⟨.normal, [(.tv YCell)], []⟩
noncomputable def z9x : List XPat := [⟨.ret, [(.tv .bool)], []⟩]
noncomputable def z9t (k : Nat) (d : z9p.D) : Option (XD z9x) := cellout_vector k d
noncomputable def z9_e (k : Nat) : UEntry := mkU z9p z9x (z9t k) nilU
theorem z9_n (k : Nat) : UNat (z9_e k) := mkU_nat nilU_nat
theorem z9_fu (k : Nat) : FU P GL 47 (z9_e k) :=
  fn_typed (uorc := uorT (z9U0 k)) hmo (T8_ok k).oo (z9U0_k k) (fd := z9f) (AllU.no (by kernel_rfl)) (fn := Tryd.f47) (by kernel_rfl) (by kernel_rfl) (fun d => by kernel_rfl) FU_nil
noncomputable def T9 (k : Nat) : List (Nat × Ent) := (47, ⟨z9_e k⟩) :: T8 k
theorem T9_ok (k : Nat) : TabOK P GL (T9 k) := (T8_ok k).cons (z9_fu k) (z9_n k)
/-! ### overspill.blocks.from -/
noncomputable def z10U0 (_ : Nat) : List (Nat × Ent) := []
theorem z10U0_k (k : Nat) : UTab (z10U0 k) := UTab.nil
noncomputable def blocks_from (k : Nat) (x0 : Bool) : Option (Int) :=
  bif x0 then
    some 1
  else
  some 0
noncomputable def z10b : AC :=
  (.seq (.region [(iO 2 (.mv (nI 0)))])
  (.seq (.seq (.region [(iO 3 (.mv (.t 0)))])
  (.cond (.t 3)
  (.seq (.region [(iO 2 (.mv (nI 1)))])
    .ret)
  .skip))
  (.seq (.region [(iO 2 (.mv (nI 0)))])
  .ret)))
noncomputable def z10f : FDef := ⟨1, 4, [.tmp 2 none], z10b⟩
noncomputable def z10p : XPat := ⟨.normal, [(.tv .bool)], []⟩
noncomputable def z10x : List XPat := [⟨.ret, [(.tv (.int .i64))], []⟩]
noncomputable def z10t (k : Nat) (d : z10p.D) : Option (XD z10x) := blocks_from k d
noncomputable def z10_e (k : Nat) : UEntry := mkU z10p z10x (z10t k) nilU
theorem z10_n (k : Nat) : UNat (z10_e k) := mkU_nat nilU_nat
theorem z10_fu (k : Nat) : FU P GL 80 (z10_e k) :=
  fn_typed (uorc := uorT (z10U0 k)) hmo (T9_ok k).oo (z10U0_k k) (fd := z10f) (AllU.no (by kernel_rfl)) (fn := Tryd.f80) (by kernel_rfl) (by kernel_rfl) (fun d => by kernel_rfl) FU_nil
noncomputable def T10 (k : Nat) : List (Nat × Ent) := (80, ⟨z10_e k⟩) :: T9 k
theorem T10_ok (k : Nat) : TabOK P GL (T10 k) := (T9_ok k).cons (z10_fu k) (z10_n k)
/-! ### overspill.tcoef.Right -/
noncomputable def z11U0 (_ : Nat) : List (Nat × Ent) := []
theorem z11U0_k (k : Nat) : UTab (z11U0 k) := UTab.nil
noncomputable def tcoef_Right (k : Nat) (x0 : DEvent) : Option (Bool) :=
  bif (decide ((0 : Int) ≤ x0.2.1)) then
    bif (decide (x0.2.1 ≤ 63)) then
      bif (!(decide (x0.2.2.1 = 0))) then
        bif (decide (((-127) : Int) ≤ x0.2.2.1)) then
          some (decide (x0.2.2.1 ≤ 127))
        else
        some false
      else
      some false
    else
    some false
  else
  some false
noncomputable def z11b : AC :=
  (.seq (.region [(iO 1 (.box (.t 0))),
    (iO 2 (.mv (.c (.tv .bool (false : Bool)))))])
  (.seq (.region [(iO 3 (.fad 1 1 (.t 1))),
    (iO 4 (.load false 1 (.t 3))),
    (iO 5 (.bin .geq (.t 4) (nI 0))),
    (iO 6 (.mv (.t 5))),
    ⟨some 7, some (3, 6, true), (.op (.fad 1 1 (.t 1))), []⟩,
    ⟨some 8, some (3, 6, true), (.op (.load false 1 (.t 7))), []⟩,
    ⟨some 9, some (3, 6, true), (.op (.bin .leq (.t 8) (nI 63))), []⟩,
    (iO 10 (.pick (.t 6) (.t 9) (.c (.tv .bool (false : Bool))))),
    (iO 11 (.mv (.t 10))),
    ⟨some 12, some (8, 11, true), (.op (.fad 2 2 (.t 1))), []⟩,
    ⟨some 13, some (8, 11, true), (.op (.load false 1 (.t 12))), []⟩,
    ⟨some 14, some (8, 11, true), (.op (.bin .neq (.t 13) (nI 0))), []⟩,
    (iO 15 (.pick (.t 11) (.t 14) (.c (.tv .bool (false : Bool))))),
    (iO 16 (.mv (.t 15))),
    ⟨some 17, some (13, 16, true), (.op (.fad 2 2 (.t 1))), []⟩,
    ⟨some 18, some (13, 16, true), (.op (.load false 1 (.t 17))), []⟩,
    ⟨some 19, some (13, 16, true), (.op (.bin .geq (.t 18) (nI (-127)))), []⟩,
    (iO 20 (.pick (.t 16) (.t 19) (.c (.tv .bool (false : Bool))))),
    (iO 21 (.mv (.t 20))),
    ⟨some 22, some (18, 21, true), (.op (.fad 2 2 (.t 1))), []⟩,
    ⟨some 23, some (18, 21, true), (.op (.load false 1 (.t 22))), []⟩,
    ⟨some 24, some (18, 21, true), (.op (.bin .leq (.t 23) (nI 127))), []⟩,
    (iO 25 (.pick (.t 21) (.t 24) (.c (.tv .bool (false : Bool))))),
    (iO 2 (.mv (.t 25)))])
  .ret))
noncomputable def z11f : FDef := ⟨1, 26, [.tmp 2 none], z11b⟩
noncomputable def z11p : XPat := ⟨.normal, [(.tv YEvent)], []⟩
noncomputable def z11x : List XPat := [⟨.ret, [(.tv .bool)], []⟩]
noncomputable def z11t (k : Nat) (d : z11p.D) : Option (XD z11x) := tcoef_Right k d
noncomputable def z11_e (k : Nat) : UEntry := mkU z11p z11x (z11t k) nilU
theorem z11_n (k : Nat) : UNat (z11_e k) := mkU_nat nilU_nat
theorem z11_fu (k : Nat) : FU P GL 92 (z11_e k) :=
  fn_typed (uorc := uorT (z11U0 k)) hmo (T10_ok k).oo (z11U0_k k) (fd := z11f) (AllU.no (by kernel_rfl)) (fn := Tryd.f92) (by kernel_rfl) (by kernel_rfl) (fun d => by kernel_rfl) FU_nil
noncomputable def T11 (k : Nat) : List (Nat × Ent) := (92, ⟨z11_e k⟩) :: T10 k
theorem T11_ok (k : Nat) : TabOK P GL (T11 k) := (T10_ok k).cons (z11_fu k) (z11_n k)
/-! ### overspill.runs.Levels -/
noncomputable def z12U0 (_ : Nat) : List (Nat × Ent) := []
theorem z12U0_k (k : Nat) : UTab (z12U0 k) := UTab.nil
noncomputable def z12u0d : UDef := ⟨[(1, none)], [10, 11, 12, 13, 14, 15], [(.normal, [(15, none)])], []⟩
noncomputable def z12u0p : XPat := ⟨.normal, [(.tv (.int .i64))], []⟩
noncomputable def z12u0x : List XPat := [⟨.normal, [(.tv .bool)], []⟩]
noncomputable def runs_Levelsu0 (k : Nat) (x0 : Int) : Option (Bool) :=
  bif (!(decide (x0 = 0))) then
    some (!(decide (x0 = 1)))
  else
  some false
noncomputable def z12u0b : AC :=
  (.region [(iO 10 (.mv (.t 1))),
    (iO 11 (.bin .neq (.t 10) (nI 0))),
    (iO 12 (.mv (.t 11))),
    ⟨some 13, some (2, 12, true), (.op (.mv (.t 1))), []⟩,
    ⟨some 14, some (2, 12, true), (.op (.bin .neq (.t 13) (nI 1))), []⟩,
    (iO 15 (.pick (.t 12) (.t 14) (.c (.tv .bool (false : Bool)))))])
noncomputable def z12u0t (k : Nat) (d : z12u0p.D) : Option (XD z12u0x) := runs_Levelsu0 k d
theorem z12u0_k (k : Nat) : UOK P GL (mkU z12u0p z12u0x (z12u0t k) nilU) z12u0d false z12u0b :=
  unit_typed (ud := z12u0d) (body := z12u0b) (uorc := uorT (z12U0 k)) hmo (T11_ok k).oo (z12U0_k k) (AllU.no (by kernel_rfl)) (fun d => by kernel_rfl)
noncomputable def z12U1 (k : Nat) : List (Nat × Ent) := (0, ⟨mkU z12u0p z12u0x (z12u0t k) nilU⟩) :: z12U0 k
theorem z12U1_k (k : Nat) : UTab (z12U1 k) := (z12U0_k k).cons (mkU_nat nilU_nat)
noncomputable def z12u1d : UDef := ⟨[(0, none), (7, none), (8, none), (9, none)], [25, 26, 27, 28, 29, 30, 31, 32, 33, 34, 35, 36, 37, 38, 39, 40, 41, 42, 43, 44], [(.normal, [(44, none)])], []⟩
noncomputable def z12u1p : XPat := ⟨.normal, [(.tv (.sl YEvent)), (.tv (.int .i64)), (.tv (.int .i64)), (.ptr 0 [])], [(.box (.tv YEvent))]⟩
noncomputable def z12u1x : List XPat := [⟨.normal, [(.tv .bool)], [(.box (.tv YEvent))]⟩]
noncomputable def runs_Levelsu1 (k : Nat) (x0 : List (DEvent)) (x1 : Int) (x2 : Int) (x3 : DEvent) : Option ((Bool) × (DEvent)) :=
  Option.bind (tcoef_Right k x3) fun (v32 : Bool) =>
  bif (!v32) then
    some (true, x3)
  else
  bif (true ^^ (x3.1 == (decide (x2 = (wr .i64 (((List.length x0 : Nat) : Int) - 1)))))) then
    some (true, x3)
  else
  some ((decide ((64 : Int) ≤ (wr .i64 (x1 + x3.2.1)))), x3)
noncomputable def z12u1b : AC :=
  (.region [(iO 25 (.load true 3 (.t 9))),
    (iC 26 92 [((.t 25), some YEvent)]),
    (iO 27 (.un .not (.t 26))),
    (iO 28 (.mv (.t 27))),
    ⟨some 29, some (3, 28, false), (.op (.fad 0 0 (.t 9))), []⟩,
    ⟨some 30, some (3, 28, false), (.op (.load false 1 (.t 29))), []⟩,
    ⟨some 31, some (3, 28, false), (.op (.mv (.t 8))), []⟩,
    ⟨some 32, some (3, 28, false), (.op (.mv (.t 0))), []⟩,
    ⟨some 33, some (3, 28, false), (.op (.len (.t 32))), []⟩,
    ⟨some 34, some (3, 28, false), (.op (.bin .sub (.t 33) (nI 1))), []⟩,
    ⟨some 35, some (3, 28, false), (.op (.bin .eql (.t 31) (.t 34))), []⟩,
    ⟨some 36, some (3, 28, false), (.op (.eqb true (.t 30) (.t 35))), []⟩,
    (iO 37 (.pick (.t 28) (.c (.tv .bool (true : Bool))) (.t 36))),
    (iO 38 (.mv (.t 37))),
    ⟨some 39, some (13, 38, false), (.op (.mv (.t 7))), []⟩,
    ⟨some 40, some (13, 38, false), (.op (.fad 1 1 (.t 9))), []⟩,
    ⟨some 41, some (13, 38, false), (.op (.load false 1 (.t 40))), []⟩,
    ⟨some 42, some (13, 38, false), (.op (.bin .add (.t 39) (.t 41))), []⟩,
    ⟨some 43, some (13, 38, false), (.op (.bin .geq (.t 42) (nI 64))), []⟩,
    (iO 44 (.pick (.t 38) (.c (.tv .bool (true : Bool))) (.t 43)))])
noncomputable def z12u1t (k : Nat) (d : z12u1p.D) : Option (XD z12u1x) := runs_Levelsu1 k d.1.1 d.1.2.1 d.1.2.2.1 d.2
theorem z12u1_k (k : Nat) : UOK P GL (mkU z12u1p z12u1x (z12u1t k) nilU) z12u1d false z12u1b :=
  unit_typed (ud := z12u1d) (body := z12u1b) (uorc := uorT (z12U1 k)) hmo (T11_ok k).oo (z12U1_k k) (AllU.no (by kernel_rfl)) (fun d => by kernel_rfl)
noncomputable def z12U2 (k : Nat) : List (Nat × Ent) := (1, ⟨mkU z12u1p z12u1x (z12u1t k) nilU⟩) :: z12U1 k
theorem z12U2_k (k : Nat) : UTab (z12U2 k) := (z12U1_k k).cons (mkU_nat nilU_nat)
noncomputable def z12u2d : UDef := ⟨[(0, none), (4, none), (6, none), (7, none), (18, none), (19, none), (20, none)], [5, 7, 8, 9, 20, 21, 22, 23, 24, 25, 26, 27, 28, 29, 30, 31, 32, 33, 34, 35, 36, 37, 38, 39, 40, 41, 42, 43, 44, 45, 46, 47, 48, 49, 50, 51, 52, 53, 54, 55, 56], [(.ret, [(5, none)]), ((.exit 0), [])], []⟩
noncomputable def z12u2p : XPat := ⟨.normal, [(.tv (.sl YEvent)), (.ptr 0 []), (.ptr 1 []), (.tv (.int .i64)), (.tv (.sl YEvent)), (.tv (.int .i64)), (.tv (.int .i64))], [(.box (.tv (.arr 64 (.int .i64)))), (.box (.tv (.arr 64 (.int .i64))))]⟩
noncomputable def z12u2x : List XPat := [⟨.ret, [(.tv (.int .i64))], [(.box (.tv (.arr 64 (.int .i64)))), (.box (.tv (.arr 64 (.int .i64))))]⟩, ⟨(.exit 0), [], [(.box (.tv (.arr 64 (.int .i64)))), (.box (.tv (.arr 64 (.int .i64))))]⟩]
noncomputable def runs_Levelsu2 (k : Nat) : Nat → (List (DEvent)) → (Int) → (List (DEvent)) → (Int) → (Int) → (List (Int)) → (List (Int)) → Option (((Int) × ((List (Int)) × (List (Int)))) ⊕ ((Unit) × ((List (Int)) × (List (Int)))))
  | 0, _, _, _, _, _, _, _ => none
  | n + 1, x0, x1, x2, x3, x4, x5, x6 =>
    bif (decide (x4 < x3)) then
      bif (inR x4 (List.length x2)) then
        Option.bind (runs_Levelsu1 k x0 x1 x4 (List.getD x2 (Int.toNat x4) (false, (0, (0, ()))))) fun (v34 : (Bool) × (DEvent)) =>
        bif v34.1 then
          some (Sum.inl (7, ((Ty.zero (.arr 64 (.int .i64))), x6)))
        else
        bif (inR (wr .i64 (x1 + v34.2.2.1)) 64) then
          Option.bind (runs_Levelsu2 k n x0 (wr .i64 ((wr .i64 (x1 + v34.2.2.1)) + 1)) x2 x3 (wr .i64 (x4 + 1)) x5 (List.set x6 (Int.toNat (wr .i64 (x1 + v34.2.2.1))) v34.2.2.2.1)) fun r => Sum.elim (fun w => some (Sum.inl w)) (fun w => some (Sum.inr w)) r
        else
          none
      else
        none
    else
    some (Sum.inr ((), (x5, x6)))
noncomputable def z12u2b : AC :=
  (.seq (.region [(iO 21 (.bin .lss (.t 20) (.t 19)))])
  (.seq (.cond (.t 21)
  .skip
  (.exit 0))
  (.seq (.block 1 (.seq (.region [(iO 22 (.mv (.t 20))),
    (iO 23 (.iads YEvent (.t 18) (.t 20))),
    (iO 24 (.load true 3 (.t 23))),
    (iO 9 (.alloc 78 (.tv YEvent))),
    (iO 8 (.mv (.t 22))),
    (iS (.store 3 none (.t 9) (.t 24)))])
  (.seq (.seq (.unit 1 z12u1d false z12u1b)
  (.cond (.t 44)
  (.seq (.region [(iO 45 (.build 138 (.tv (.arr 64 (.int .i64))) [])),
      (iS (.store 64 none (.t 4) (.t 45))),
      (iO 5 (.mv (nI 7)))])
    .ret)
  .skip))
  (.seq (.region [(iO 46 (.mv (.t 7))),
    (iO 47 (.fad 1 1 (.t 9))),
    (iO 48 (.load false 1 (.t 47))),
    (iO 49 (.bin .add (.t 46) (.t 48))),
    (iO 7 (.mv (.t 49)))])
  (.seq (.region [(iO 50 (.mv (.t 7))),
    (iO 51 (.fad 2 2 (.t 9))),
    (iO 52 (.load false 1 (.t 51))),
    (iO 53 (.iad 64 1 (.t 6) (.t 50))),
    (iS (.store 1 none (.t 53) (.t 52)))])
  (.region [(iO 54 (.mv (.t 7))),
    (iO 55 (.bin .add (.t 54) (nI 1))),
    (iO 7 (.mv (.t 55)))]))))))
  (.region [(iO 56 (.bin .add (.t 20) (nI 1))),
    (iO 20 (.mv (.t 56)))]))))
noncomputable def z12u2t (k n : Nat) (d : z12u2p.D) : Option (XD z12u2x) := runs_Levelsu2 k n d.1.1 d.1.2.2.2.1 d.1.2.2.2.2.1 d.1.2.2.2.2.2.1 d.1.2.2.2.2.2.2 d.2.1 d.2.2
theorem z12u2_k (k : Nat) : UOK P GL (mkU z12u2p z12u2x (z12u2t k k) nilU) z12u2d true z12u2b :=
  loop_typed (ud := z12u2d) (body := z12u2b) (uorc := uorT (z12U2 k)) hmo (T11_ok k).oo (z12U2_k k) (AllU.seq (AllU.no (by kernel_rfl)) (AllU.seq (AllU.no (by kernel_rfl)) (AllU.seq (AllU.block (AllU.seq (AllU.no (by kernel_rfl)) (AllU.seq (AllU.seq (AllU.unit (uorc := uorT (z12U2 k)) (u := 1) (z12u1_k k)) (AllU.no (by kernel_rfl))) (AllU.no (by kernel_rfl))))) (AllU.no (by kernel_rfl))))) (t := z12u2t k) (fun d => by kernel_rfl) (fun n d => by kernel_rfl) k
noncomputable def z12U3 (k : Nat) : List (Nat × Ent) := (2, ⟨mkU z12u2p z12u2x (z12u2t k k) nilU⟩) :: z12U2 k
theorem z12U3_k (k : Nat) : UTab (z12U3 k) := (z12U2_k k).cons (mkU_nat nilU_nat)
noncomputable def runs_Levels (k : Nat) (x0 : List (DEvent)) (x1 : Int) : Option ((List (Int)) × ((Int) × (Unit))) :=
  Option.bind (runs_Levelsu0 k x1) fun (v30 : Bool) =>
  bif v30 then
    some ((Ty.zero (.arr 64 (.int .i64))), (1, ()))
  else
  Option.bind (runs_Levelsu2 k k x0 x1 x0 ((List.length x0 : Nat) : Int) 0 (Ty.zero (.arr 64 (.int .i64))) (Ty.zero (.arr 64 (.int .i64)))) fun r =>
  Sum.elim (fun (v35 : (Int) × ((List (Int)) × (List (Int)))) =>
    some (v35.2.1, (v35.1, ())))
    (fun (v36 : (Unit) × ((List (Int)) × (List (Int)))) =>
    some (v36.2.2, (0, ()))) r
noncomputable def z12b : AC :=
  (.seq (.region [(iO 4 (.alloc 138 (.tv (.arr 64 (.int .i64))))),
    (iO 5 (.mv (nI 0)))])
  (.seq (.seq (.unit 0 z12u0d false z12u0b)
  (.cond (.t 15)
  (.seq (.region [(iO 16 (.build 138 (.tv (.arr 64 (.int .i64))) [])),
      (iS (.store 64 none (.t 4) (.t 16))),
      (iO 5 (.mv (nI 1)))])
    .ret)
  .skip))
  (.seq (.region [(iO 6 (.alloc 138 (.tv (.arr 64 (.int .i64)))))])
  (.seq (.region [(iO 17 (.mv (.t 1))),
    (iO 7 (.mv (.t 17)))])
  (.seq (.seq (.region [(iO 18 (.mv (.t 0))),
    (iO 19 (.len (.t 18))),
    (iO 20 (.mv (nI 0)))])
  (.block 0 (.unit 2 z12u2d true z12u2b)))
  (.seq (.region [(iO 57 (.load true 64 (.t 6))),
    (iS (.store 64 none (.t 4) (.t 57))),
    (iO 5 (.mv (nI 0)))])
  .ret))))))
noncomputable def z12f : FDef := ⟨2, 58, [.cell 4 64 true (some (.arr 64 (.int .i64))), .tmp 5 none], z12b⟩
noncomputable def z12p : XPat := ⟨.normal, [(.tv (.sl YEvent)), (.tv (.int .i64))], []⟩
noncomputable def z12x : List XPat := [⟨.ret, [(.tup (.cons (.tv (.arr 64 (.int .i64))) (.cons (.tv (.int .i64)) .nil)))], []⟩]
noncomputable def z12t (k : Nat) (d : z12p.D) : Option (XD z12x) := runs_Levels k d.1 d.2
noncomputable def z12_e (k : Nat) : UEntry := mkU z12p z12x (z12t k) nilU
theorem z12_n (k : Nat) : UNat (z12_e k) := mkU_nat nilU_nat
theorem z12_fu (k : Nat) : FU P GL 91 (z12_e k) :=
  fn_typed (uorc := uorT (z12U3 k)) hmo (T11_ok k).oo (z12U3_k k) (fd := z12f) (AllU.seq (AllU.no (by kernel_rfl)) (AllU.seq (AllU.seq (AllU.unit (uorc := uorT (z12U3 k)) (u := 0) (z12u0_k k)) (AllU.no (by kernel_rfl))) (AllU.seq (AllU.no (by kernel_rfl)) (AllU.seq (AllU.no (by kernel_rfl)) (AllU.seq (AllU.seq (AllU.no (by kernel_rfl)) (AllU.block (AllU.unit (uorc := uorT (z12U3 k)) (u := 2) (z12u2_k k)))) (AllU.no (by kernel_rfl))))))) (fn := Tryd.f91) (by kernel_rfl) (by kernel_rfl) (fun d => by kernel_rfl) FU_nil
noncomputable def T12 (k : Nat) : List (Nat × Ent) := (91, ⟨z12_e k⟩) :: T11 k
theorem T12_ok (k : Nat) : TabOK P GL (T12 k) := (T11_ok k).cons (z12_fu k) (z12_n k)
/-! ### overspill.blocks.may -/
noncomputable def z13U0 (_ : Nat) : List (Nat × Ent) := []
theorem z13U0_k (k : Nat) : UTab (z13U0 k) := UTab.nil
noncomputable def z13u0d : UDef := ⟨[(0, none), (1, none)], [9, 10, 11, 12, 13, 14, 15, 16, 17, 18, 19, 20], [(.normal, [(20, none)])], []⟩
noncomputable def z13u0p : XPat := ⟨.normal, [(.tv .bool), (.tv (.int .i64))], []⟩
noncomputable def z13u0x : List XPat := [⟨.normal, [(.tv .bool)], []⟩]
noncomputable def blocks_mayu0 (k : Nat) (x0 : Bool) (x1 : Int) : Option (Bool) :=
  bif (true ^^ (x0 == (!(decide (x1 = 0))))) then
    some true
  else
  bif (decide (x1 < 0)) then
    some true
  else
  some (decide ((255 : Int) ≤ x1))
noncomputable def z13u0b : AC :=
  (.region [(iO 9 (.mv (.t 0))),
    (iO 10 (.mv (.t 1))),
    (iO 11 (.bin .neq (.t 10) (nI 0))),
    (iO 12 (.eqb true (.t 9) (.t 11))),
    (iO 13 (.mv (.t 12))),
    ⟨some 14, some (4, 13, false), (.op (.mv (.t 1))), []⟩,
    ⟨some 15, some (4, 13, false), (.op (.bin .lss (.t 14) (nI 0))), []⟩,
    (iO 16 (.pick (.t 13) (.c (.tv .bool (true : Bool))) (.t 15))),
    (iO 17 (.mv (.t 16))),
    ⟨some 18, some (8, 17, false), (.op (.mv (.t 1))), []⟩,
    ⟨some 19, some (8, 17, false), (.op (.bin .geq (.t 18) (nI 255))), []⟩,
    (iO 20 (.pick (.t 17) (.c (.tv .bool (true : Bool))) (.t 19)))])
noncomputable def z13u0t (k : Nat) (d : z13u0p.D) : Option (XD z13u0x) := blocks_mayu0 k d.1 d.2
theorem z13u0_k (k : Nat) : UOK P GL (mkU z13u0p z13u0x (z13u0t k) nilU) z13u0d false z13u0b :=
  unit_typed (ud := z13u0d) (body := z13u0b) (uorc := uorT (z13U0 k)) hmo (T12_ok k).oo (z13U0_k k) (AllU.no (by kernel_rfl)) (fun d => by kernel_rfl)
noncomputable def z13U1 (k : Nat) : List (Nat × Ent) := (0, ⟨mkU z13u0p z13u0x (z13u0t k) nilU⟩) :: z13U0 k
theorem z13U1_k (k : Nat) : UTab (z13U1 k) := (z13U0_k k).cons (mkU_nat nilU_nat)
noncomputable def blocks_may (k : Nat) (x0 : Bool) (x1 : Int) (x2 : List (DEvent)) : Option (Bool) :=
  Option.bind (blocks_mayu0 k x0 x1) fun (v28 : Bool) =>
  bif v28 then
    some false
  else
  Option.bind (blocks_from k x0) fun (v29 : Int) =>
  Option.bind (runs_Levels k x2 v29) fun (v37 : (List (Int)) × ((Int) × (Unit))) =>
  some (decide (v37.2.1 = 0))
noncomputable def z13b : AC :=
  (.seq (.region [(iO 6 (.mv (.c (.tv .bool (false : Bool)))))])
  (.seq (.seq (.unit 0 z13u0d false z13u0b)
  (.cond (.t 20)
  (.seq (.region [(iO 6 (.mv (.c (.tv .bool (false : Bool)))))])
    .ret)
  .skip))
  (.seq (.region [(iO 22 (.mv (.t 2))),
    (iO 23 (.mv (.t 0))),
    (iC 24 80 [((.t 23), none)]),
    (iC 25 91 [((.t 22), some (.sl YEvent)), ((.t 24), none)]),
    (iO 21 (.mv (.t 25))),
    (iO 26 (.ext (.t 21) 0)),
    (iO 27 (.ext (.t 21) 1)),
    (iO 7 (.alloc 138 (.tv (.arr 64 (.int .i64))))),
    (iS (.store 64 none (.t 7) (.t 26))),
    (iO 8 (.mv (.t 27)))])
  (.seq (.region [(iO 28 (.mv (.t 8))),
    (iO 29 (.bin .eql (.t 28) (nI 0))),
    (iO 6 (.mv (.t 29)))])
  .ret))))
noncomputable def z13f : FDef := ⟨3, 30, [.tmp 6 none], z13b⟩
noncomputable def z13p : XPat := ⟨.normal, [(.tv .bool), (.tv (.int .i64)), (.tv (.sl YEvent))], []⟩
noncomputable def z13x : List XPat := [⟨.ret, [(.tv .bool)], []⟩]
noncomputable def z13t (k : Nat) (d : z13p.D) : Option (XD z13x) := blocks_may k d.1 d.2.1 d.2.2
noncomputable def z13_e (k : Nat) : UEntry := mkU z13p z13x (z13t k) nilU
theorem z13_n (k : Nat) : UNat (z13_e k) := mkU_nat nilU_nat
theorem z13_fu (k : Nat) : FU P GL 69 (z13_e k) :=
  fn_typed (uorc := uorT (z13U1 k)) hmo (T12_ok k).oo (z13U1_k k) (fd := z13f) (AllU.seq (AllU.no (by kernel_rfl)) (AllU.seq (AllU.seq (AllU.unit (uorc := uorT (z13U1 k)) (u := 0) (z13u0_k k)) (AllU.no (by kernel_rfl))) (AllU.no (by kernel_rfl)))) (fn := Tryd.f69) (by kernel_rfl) (by kernel_rfl) (fun d => by kernel_rfl) FU_nil
noncomputable def T13 (k : Nat) : List (Nat × Ent) := (69, ⟨z13_e k⟩) :: T12 k
theorem T13_ok (k : Nat) : TabOK P GL (T13 k) := (T12_ok k).cons (z13_fu k) (z13_n k)
/-! ### overspill.outbits.fits -/
noncomputable def z14U0 (_ : Nat) : List (Nat × Ent) := []
theorem z14U0_k (k : Nat) : UTab (z14U0 k) := UTab.nil
noncomputable def outbits_fits (k : Nat) (x0 : Int) (x1 : Int) : Option (Bool) :=
  bif (decide ((0 : Int) ≤ x1)) then
    bif (decide (x1 ≤ 32)) then
      bif (decide ((0 : Int) ≤ x0)) then
        bif (decide ((wr .u64 x1) < 0)) then
          none
        else
        some (decide (x0 < (shlI .i64 1 (wr .u64 x1))))
      else
      some false
    else
    some false
  else
  some false
noncomputable def z14b : AC :=
  (.seq (.region [(iO 4 (.mv (.c (.tv .bool (false : Bool)))))])
  (.seq (.region [(iO 5 (.mv (.t 1))),
    (iO 6 (.bin .geq (.t 5) (nI 0))),
    (iO 7 (.mv (.t 6))),
    ⟨some 8, some (2, 7, true), (.op (.mv (.t 1))), []⟩,
    ⟨some 9, some (2, 7, true), (.op (.bin .leq (.t 8) (nI 32))), []⟩,
    (iO 10 (.pick (.t 7) (.t 9) (.c (.tv .bool (false : Bool))))),
    (iO 11 (.mv (.t 10))),
    ⟨some 12, some (6, 11, true), (.op (.mv (.t 0))), []⟩,
    ⟨some 13, some (6, 11, true), (.op (.bin .geq (.t 12) (nI 0))), []⟩,
    (iO 14 (.pick (.t 11) (.t 13) (.c (.tv .bool (false : Bool))))),
    (iO 15 (.mv (.t 14))),
    ⟨some 16, some (10, 15, true), (.op (.mv (.t 0))), []⟩,
    ⟨some 17, some (10, 15, true), (.op (.mv (.t 1))), []⟩,
    ⟨some 18, some (10, 15, true), (.op (.conv .u64 (.t 17))), []⟩,
    ⟨some 19, some (10, 15, true), (.op (.bin .shl (nI 1) (.t 18))), []⟩,
    ⟨some 20, some (10, 15, true), (.op (.bin .lss (.t 16) (.t 19))), []⟩,
    (iO 21 (.pick (.t 15) (.t 20) (.c (.tv .bool (false : Bool))))),
    (iO 4 (.mv (.t 21)))])
  .ret))
noncomputable def z14f : FDef := ⟨2, 22, [.tmp 4 none], z14b⟩
noncomputable def z14p : XPat := ⟨.normal, [(.tv (.int .i64)), (.tv (.int .i64))], []⟩
noncomputable def z14x : List XPat := [⟨.ret, [(.tv .bool)], []⟩]
noncomputable def z14t (k : Nat) (d : z14p.D) : Option (XD z14x) := outbits_fits k d.1 d.2
noncomputable def z14_e (k : Nat) : UEntry := mkU z14p z14x (z14t k) nilU
theorem z14_n (k : Nat) : UNat (z14_e k) := mkU_nat nilU_nat
theorem z14_fu (k : Nat) : FU P GL 90 (z14_e k) :=
  fn_typed (uorc := uorT (z14U0 k)) hmo (T13_ok k).oo (z14U0_k k) (fd := z14f) (AllU.no (by kernel_rfl)) (fn := Tryd.f90) (by kernel_rfl) (by kernel_rfl) (fun d => by kernel_rfl) FU_nil
noncomputable def T14 (k : Nat) : List (Nat × Ent) := (90, ⟨z14_e k⟩) :: T13 k
theorem T14_ok (k : Nat) : TabOK P GL (T14 k) := (T13_ok k).cons (z14_fu k) (z14_n k)
/-! ### (*overspill.outbits.Writer).bit -/
noncomputable def z15U0 (_ : Nat) : List (Nat × Ent) := []
theorem z15U0_k (k : Nat) : UTab (z15U0 k) := UTab.nil
noncomputable def z15u0d : UDef := ⟨[(0, none), (9, none)], [10, 11, 12, 13, 14, 15, 16, 17, 18], [(.normal, [])], []⟩
noncomputable def z15u0p : XPat := ⟨.normal, [(.ptr 0 []), (.tv .bool)], [(.box (.cons (.row 1) (.cons (.tv (.int .i64)) .nil))), (.row (.int .u8) false)]⟩
noncomputable def z15u0x : List XPat := [⟨.normal, [], [(.box (.cons (.row 1) (.cons (.tv (.int .i64)) .nil))), (.row (.int .u8) false)]⟩]
noncomputable def outbits_Writer_bitu0 (k : Nat) (x0 : Bool) (x1 : Int) (x2 : List (Int)) : Option ((Unit) × (((Unit) × ((Int) × (Unit))) × (List (Int)))) :=
  bif x0 then
    bif (decide ((List.length x2) + 1 ≤ rowMax)) then
      some ((), (((), (x1, ())), (x2 ++ ([0] : List (Int)))))
    else
      none
  else
  some ((), (((), (x1, ())), x2))
noncomputable def z15u0b : AC :=
  (.cond (.t 9)
  (.region [(iO 10 (.mv (.t 0))),
      (iO 11 (.mv (.t 0))),
      (iO 12 (.nilc (.t 11))),
      (iO 13 (.fad 0 0 (.t 12))),
      (iO 14 (.load false 1 (.t 13))),
      (iO 15 (.bslice (.int .u8) [(.c (.tv (.int .u8) (0 : Int)))])),
      (iO 16 (.app (.int .u8) (.t 14) (.t 15))),
      (iO 17 (.nilc (.t 10))),
      (iO 18 (.fad 0 0 (.t 17))),
      (iS (.store 1 none (.t 18) (.t 16)))])
  .skip)
noncomputable def z15u0t (k : Nat) (d : z15u0p.D) : Option (XD z15u0x) := outbits_Writer_bitu0 k d.1.2 d.2.1.2.1 d.2.2
theorem z15u0_k (k : Nat) : UOK P GL (mkU z15u0p z15u0x (z15u0t k) nilU) z15u0d false z15u0b :=
  unit_typed (ud := z15u0d) (body := z15u0b) (uorc := uorT (z15U0 k)) hmo (T14_ok k).oo (z15U0_k k) (AllU.no (by kernel_rfl)) (fun d => by kernel_rfl)
noncomputable def z15U1 (k : Nat) : List (Nat × Ent) := (0, ⟨mkU z15u0p z15u0x (z15u0t k) nilU⟩) :: z15U0 k
theorem z15U1_k (k : Nat) : UTab (z15U1 k) := (z15U0_k k).cons (mkU_nat nilU_nat)
noncomputable def z15u1d : UDef := ⟨[(0, none), (19, none)], [20, 21, 22, 23, 24, 25, 26, 27, 28, 29, 30, 31, 32, 33, 34, 35, 36, 37, 38, 39, 40], [(.normal, [])], []⟩
noncomputable def z15u1p : XPat := ⟨.normal, [(.ptr 0 []), (.tv .bool)], [(.box (.cons (.row 1) (.cons (.tv (.int .i64)) .nil))), (.row (.int .u8) false)]⟩
noncomputable def z15u1x : List XPat := [⟨.normal, [], [(.box (.cons (.row 1) (.cons (.tv (.int .i64)) .nil))), (.row (.int .u8) false)]⟩]
noncomputable def outbits_Writer_bitu1 (k : Nat) (x0 : Bool) (x1 : Int) (x2 : List (Int)) : Option ((Unit) × (((Unit) × ((Int) × (Unit))) × (List (Int)))) :=
  bif x0 then
    bif (inR (wr .i64 (Int.tdiv x1 8)) (List.length x2)) then
      bif (decide ((wr .u64 (wr .i64 (7 - (Int.tmod x1 8)))) < 0)) then
        none
      else
      bif (inR (wr .i64 (Int.tdiv x1 8)) (List.length x2)) then
        some ((), (((), (x1, ())), (List.set x2 (Int.toNat (wr .i64 (Int.tdiv x1 8))) (bitop .or .u8 (List.getD x2 (Int.toNat (wr .i64 (Int.tdiv x1 8))) 0) (shlI .u8 1 (wr .u64 (wr .i64 (7 - (Int.tmod x1 8)))))))))
      else
        none
    else
      none
  else
  some ((), (((), (x1, ())), x2))
noncomputable def z15u1b : AC :=
  (.cond (.t 19)
  (.draw [(iO 20 (.mv (.t 0))),
      (iOa 21 (.nilc (.t 20)) [0]),
      (iOa 22 (.fad 0 0 (.t 21)) [0, 1]),
      (iOa 23 (.load false 1 (.t 22)) [0, 1, 2]),
      (iO 24 (.mv (.t 0))),
      (iOa 25 (.nilc (.t 24)) [4]),
      (iOa 26 (.fad 1 1 (.t 25)) [4, 5]),
      (iOa 27 (.load false 1 (.t 26)) [4, 5, 6]),
      (iOa 28 (.bin .quo (.t 27) (nI 8)) (rg [4, 4])),
      (iOa 29 (.iads (.int .u8) (.t 23) (.t 28)) (rg [0, 9])),
      (iOa 30 (.load false 1 (.t 29)) (rg [0, 10])),
      (iO 31 (.mv (.t 0))),
      (iOa 32 (.nilc (.t 31)) [11]),
      (iOa 33 (.fad 1 1 (.t 32)) [11, 12]),
      (iOa 34 (.load false 1 (.t 33)) [11, 12, 13]),
      (iOa 35 (.bin .rem (.t 34) (nI 8)) (rg [11, 4])),
      (iOa 36 (.bin .sub (nI 7) (.t 35)) (rg [11, 5])),
      (iOa 37 (.conv .u64 (.t 36)) (rg [11, 6])),
      (iOa 38 (.bin .shl (.c (.tv (.int .u8) (1 : Int))) (.t 37)) (rg [11, 7])),
      (iOa 39 (.bin .or (.t 30) (.t 38)) (rg [0, 19])),
      (iOa 40 (.iads (.int .u8) (.t 23) (.t 28)) (rg [0, 20])),
      (iSa (.store 1 none (.t 40) (.t 39)) (rg [0, 21]))])
  .skip)
noncomputable def z15u1t (k : Nat) (d : z15u1p.D) : Option (XD z15u1x) := outbits_Writer_bitu1 k d.1.2 d.2.1.2.1 d.2.2
theorem z15u1_k (k : Nat) : UOK P GL (mkU z15u1p z15u1x (z15u1t k) nilU) z15u1d false z15u1b :=
  unit_typed (ud := z15u1d) (body := z15u1b) (uorc := uorT (z15U1 k)) hmo (T14_ok k).oo (z15U1_k k) (AllU.no (by kernel_rfl)) (fun d => by kernel_rfl)
noncomputable def z15U2 (k : Nat) : List (Nat × Ent) := (1, ⟨mkU z15u1p z15u1x (z15u1t k) nilU⟩) :: z15U1 k
theorem z15U2_k (k : Nat) : UTab (z15U2 k) := (z15U1_k k).cons (mkU_nat nilU_nat)
noncomputable def outbits_Writer_bit (k : Nat) (x0 : Bool) (x1 : Int) (x2 : List (Int)) : Option ((Unit) × (((Unit) × ((Int) × (Unit))) × (List (Int)))) :=
  Option.bind (outbits_Writer_bitu0 k (decide ((Int.tmod x1 8) = 0)) x1 x2) fun (v43 : (Unit) × (((Unit) × ((Int) × (Unit))) × (List (Int)))) =>
  Option.bind (outbits_Writer_bitu1 k x0 v43.2.1.2.1 v43.2.2) fun (v44 : (Unit) × (((Unit) × ((Int) × (Unit))) × (List (Int)))) =>
  some ((), (((), ((wr .i64 (v44.2.1.2.1 + 1)), ())), v44.2.2))
noncomputable def z15b : AC :=
  (.seq (.seq (.region [(iO 4 (.mv (.t 0))),
    (iO 5 (.nilc (.t 4))),
    (iO 6 (.fad 1 1 (.t 5))),
    (iO 7 (.load false 1 (.t 6))),
    (iO 8 (.bin .rem (.t 7) (nI 8))),
    (iO 9 (.bin .eql (.t 8) (nI 0)))])
  (.unit 0 z15u0d false z15u0b))
  (.seq (.seq (.region [(iO 19 (.mv (.t 1)))])
  (.unit 1 z15u1d false z15u1b))
  (.region [(iO 41 (.mv (.t 0))),
    (iO 42 (.nilc (.t 41))),
    (iO 43 (.fad 1 1 (.t 42))),
    (iO 44 (.load false 1 (.t 43))),
    (iO 45 (.bin .add (.t 44) (nI 1))),
    (iO 46 (.nilc (.t 41))),
    (iO 47 (.fad 1 1 (.t 46))),
    (iS (.store 1 none (.t 47) (.t 45)))])))
noncomputable def z15f : FDef := ⟨2, 48, [], z15b⟩
noncomputable def z15p : XPat := ⟨.normal, [(.ptr 0 []), (.tv .bool)], [(.box (.cons (.row 1) (.cons (.tv (.int .i64)) .nil))), (.row (.int .u8) false)]⟩
noncomputable def z15x : List XPat := [⟨.ret, [(.tup .nil)], [(.box (.cons (.row 1) (.cons (.tv (.int .i64)) .nil))), (.row (.int .u8) false)]⟩]
noncomputable def z15t (k : Nat) (d : z15p.D) : Option (XD z15x) := outbits_Writer_bit k d.1.2 d.2.1.2.1 d.2.2
noncomputable def z15_e (k : Nat) : UEntry := mkU z15p z15x (z15t k) nilU
theorem z15_n (k : Nat) : UNat (z15_e k) := mkU_nat nilU_nat
theorem z15_fu (k : Nat) : FU P GL 49 (z15_e k) :=
  fn_typed (uorc := uorT (z15U2 k)) hmo (T14_ok k).oo (z15U2_k k) (fd := z15f) (AllU.seq (AllU.seq (AllU.no (by kernel_rfl)) (AllU.unit (uorc := uorT (z15U2 k)) (u := 0) (z15u0_k k))) (AllU.seq (AllU.seq (AllU.no (by kernel_rfl)) (AllU.unit (uorc := uorT (z15U2 k)) (u := 1) (z15u1_k k))) (AllU.no (by kernel_rfl)))) (fn := Tryd.f49) (by kernel_rfl) (by kernel_rfl) (fun d => by kernel_rfl) FU_nil
noncomputable def T15 (k : Nat) : List (Nat × Ent) := (49, ⟨z15_e k⟩) :: T14 k
theorem T15_ok (k : Nat) : TabOK P GL (T15 k) := (T14_ok k).cons (z15_fu k) (z15_n k)
/-! ### (*overspill.outbits.Writer).Put -/
noncomputable def z16U0 (_ : Nat) : List (Nat × Ent) := []
theorem z16U0_k (k : Nat) : UTab (z16U0 k) := UTab.nil
noncomputable def z16u0d : UDef := ⟨[(0, none), (1, none), (2, none)], [8, 9, 10, 11, 12, 13, 14, 15], [(.normal, [(15, none)])], []⟩
noncomputable def z16u0p : XPat := ⟨.normal, [(.ptr 0 []), (.tv (.int .i64)), (.tv (.int .i64))], [(.box (.cons (.row 1) (.cons (.tv (.int .i64)) .nil))), (.row (.int .u8) false)]⟩
noncomputable def z16u0x : List XPat := [⟨.normal, [(.tv .bool)], [(.box (.cons (.row 1) (.cons (.tv (.int .i64)) .nil))), (.row (.int .u8) false)]⟩]
noncomputable def outbits_Writer_Putu0 (k : Nat) (x0 : Int) (x1 : Int) (x2 : Int) (x3 : List (Int)) : Option ((Bool) × (((Unit) × ((Int) × (Unit))) × (List (Int)))) :=
  Option.bind (outbits_fits k x0 x1) fun (v41 : Bool) =>
  some ((!v41), (((), (x2, ())), x3))
noncomputable def z16u0b : AC :=
  (.region [(iO 8 (.mv (.t 0))),
    (iO 9 (.eqp false (.t 8) (.c .nilp))),
    (iO 10 (.mv (.t 9))),
    ⟨some 11, some (2, 10, false), (.op (.mv (.t 1))), []⟩,
    ⟨some 12, some (2, 10, false), (.op (.mv (.t 2))), []⟩,
    ⟨some 13, some (2, 10, false), (.call (.c (.fn 90 .nil .nil)) [((.t 11), none), ((.t 12), none)]), []⟩,
    ⟨some 14, some (2, 10, false), (.op (.un .not (.t 13))), []⟩,
    (iO 15 (.pick (.t 10) (.c (.tv .bool (true : Bool))) (.t 14)))])
noncomputable def z16u0t (k : Nat) (d : z16u0p.D) : Option (XD z16u0x) := outbits_Writer_Putu0 k d.1.2.1 d.1.2.2 d.2.1.2.1 d.2.2
theorem z16u0_k (k : Nat) : UOK P GL (mkU z16u0p z16u0x (z16u0t k) nilU) z16u0d false z16u0b :=
  unit_typed (ud := z16u0d) (body := z16u0b) (uorc := uorT (z16U0 k)) hmo (T15_ok k).oo (z16U0_k k) (AllU.no (by kernel_rfl)) (fun d => by kernel_rfl)
noncomputable def z16U1 (k : Nat) : List (Nat × Ent) := (0, ⟨mkU z16u0p z16u0x (z16u0t k) nilU⟩) :: z16U0 k
theorem z16U1_k (k : Nat) : UTab (z16U1 k) := (z16U0_k k).cons (mkU_nat nilU_nat)
noncomputable def z16u1d : UDef := ⟨[(0, none), (1, none), (7, none)], [7, 18, 19, 20, 21, 22, 23, 24, 25, 26, 27, 28, 29], [((.exit 0), [])], []⟩
noncomputable def z16u1p : XPat := ⟨.normal, [(.ptr 0 []), (.tv (.int .i64)), (.tv (.int .i64))], [(.box (.cons (.row 1) (.cons (.tv (.int .i64)) .nil))), (.row (.int .u8) false)]⟩
noncomputable def z16u1x : List XPat := [⟨(.exit 0), [], [(.box (.cons (.row 1) (.cons (.tv (.int .i64)) .nil))), (.row (.int .u8) false)]⟩]
noncomputable def outbits_Writer_Putu1 (k : Nat) : Nat → (Int) → (Int) → (Int) → (List (Int)) → Option ((Unit) × (((Unit) × ((Int) × (Unit))) × (List (Int))))
  | 0, _, _, _, _ => none
  | n + 1, x0, x1, x2, x3 =>
    bif (decide ((0 : Int) ≤ x1)) then
      bif (decide ((wr .u64 x1) < 0)) then
        none
      else
      Option.bind (outbits_Writer_bit k (decide ((bitop .and .i64 (shrI .i64 x0 (wr .u64 x1)) 1) = 1)) x2 x3) fun (v46 : (Unit) × (((Unit) × ((Int) × (Unit))) × (List (Int)))) =>
      Option.bind (outbits_Writer_Putu1 k n x0 (wr .i64 (x1 - 1)) v46.2.1.2.1 v46.2.2) fun r => some r
    else
    some ((), (((), (x2, ())), x3))
noncomputable def z16u1b : AC :=
  (.seq (.seq (.region [(iO 18 (.mv (.t 7))),
    (iO 19 (.bin .geq (.t 18) (nI 0)))])
  (.cond (.t 19)
  .skip
  (.exit 0)))
  (.seq (.block 1 (.region [(iO 22 (.mv (.t 0))),
    (iO 23 (.mv (.t 1))),
    (iO 24 (.mv (.t 7))),
    (iO 25 (.conv .u64 (.t 24))),
    (iO 26 (.bin .shr (.t 23) (.t 25))),
    (iO 27 (.bin .and (.t 26) (nI 1))),
    (iO 28 (.bin .eql (.t 27) (nI 1))),
    (iC 29 49 [((.t 22), none), ((.t 28), none)])]))
  (.region [(iO 20 (.mv (.t 7))),
    (iO 21 (.bin .sub (.t 20) (nI 1))),
    (iO 7 (.mv (.t 21)))])))
noncomputable def z16u1t (k n : Nat) (d : z16u1p.D) : Option (XD z16u1x) := outbits_Writer_Putu1 k n d.1.2.1 d.1.2.2 d.2.1.2.1 d.2.2
theorem z16u1_k (k : Nat) : UOK P GL (mkU z16u1p z16u1x (z16u1t k k) nilU) z16u1d true z16u1b :=
  loop_typed (ud := z16u1d) (body := z16u1b) (uorc := uorT (z16U1 k)) hmo (T15_ok k).oo (z16U1_k k) (AllU.no (by kernel_rfl)) (t := z16u1t k) (fun d => by kernel_rfl) (fun n d => by kernel_rfl) k
noncomputable def z16U2 (k : Nat) : List (Nat × Ent) := (1, ⟨mkU z16u1p z16u1x (z16u1t k k) nilU⟩) :: z16U1 k
theorem z16U2_k (k : Nat) : UTab (z16U2 k) := (z16U1_k k).cons (mkU_nat nilU_nat)
noncomputable def outbits_Writer_Put (k : Nat) (x0 : Int) (x1 : Int) (x2 : Int) (x3 : List (Int)) : Option ((Int) × (((Unit) × ((Int) × (Unit))) × (List (Int)))) :=
  Option.bind (outbits_Writer_Putu0 k x0 x1 x2 x3) fun (v42 : (Bool) × (((Unit) × ((Int) × (Unit))) × (List (Int)))) =>
  bif v42.1 then
    some (1, (((), (v42.2.1.2.1, ())), v42.2.2))
  else
  Option.bind (outbits_Writer_Putu1 k k x0 (wr .i64 (x1 - 1)) v42.2.1.2.1 v42.2.2) fun (v47 : (Unit) × (((Unit) × ((Int) × (Unit))) × (List (Int)))) =>
  some (0, (((), (v47.2.1.2.1, ())), v47.2.2))
noncomputable def z16b : AC :=
  (.seq (.region [(iO 6 (.mv (nI 0)))])
  (.seq (.seq (.unit 0 z16u0d false z16u0b)
  (.cond (.t 15)
  (.seq (.region [(iO 6 (.mv (nI 1)))])
    .ret)
  .skip))
  (.seq (.seq (.region [(iO 16 (.mv (.t 2))),
    (iO 17 (.bin .sub (.t 16) (nI 1))),
    (iO 7 (.mv (.t 17)))])
  (.block 0 (.unit 1 z16u1d true z16u1b)))
  (.seq (.region [(iO 6 (.mv (nI 0)))])
  .ret))))
noncomputable def z16f : FDef := ⟨3, 30, [.tmp 6 none], z16b⟩
noncomputable def z16p : XPat := ⟨.normal, [(.ptr 0 []), (.tv (.int .i64)), (.tv (.int .i64))], [(.box (.cons (.row 1) (.cons (.tv (.int .i64)) .nil))), (.row (.int .u8) false)]⟩
noncomputable def z16x : List XPat := [⟨.ret, [(.tv (.int .i64))], [(.box (.cons (.row 1) (.cons (.tv (.int .i64)) .nil))), (.row (.int .u8) false)]⟩]
noncomputable def z16t (k : Nat) (d : z16p.D) : Option (XD z16x) := outbits_Writer_Put k d.1.2.1 d.1.2.2 d.2.1.2.1 d.2.2
noncomputable def z16_e (k : Nat) : UEntry := mkU z16p z16x (z16t k) nilU
theorem z16_n (k : Nat) : UNat (z16_e k) := mkU_nat nilU_nat
theorem z16_fu (k : Nat) : FU P GL 70 (z16_e k) :=
  fn_typed (uorc := uorT (z16U2 k)) hmo (T15_ok k).oo (z16U2_k k) (fd := z16f) (AllU.seq (AllU.no (by kernel_rfl)) (AllU.seq (AllU.seq (AllU.unit (uorc := uorT (z16U2 k)) (u := 0) (z16u0_k k)) (AllU.no (by kernel_rfl))) (AllU.seq (AllU.seq (AllU.no (by kernel_rfl)) (AllU.block (AllU.unit (uorc := uorT (z16U2 k)) (u := 1) (z16u1_k k)))) (AllU.no (by kernel_rfl))))) (fn := Tryd.f70) (by kernel_rfl) (by kernel_rfl) (fun d => by kernel_rfl) FU_nil
noncomputable def T16 (k : Nat) : List (Nat × Ent) := (70, ⟨z16_e k⟩) :: T15 k
theorem T16_ok (k : Nat) : TabOK P GL (T16 k) := (T15_ok k).cons (z16_fu k) (z16_n k)
/-! ### overspill.tcoef.many -/
noncomputable def z17U0 (_ : Nat) : List (Nat × Ent) := []
theorem z17U0_k (k : Nat) : UTab (z17U0 k) := UTab.nil
noncomputable def z17u0d : UDef := ⟨[(0, none), (1, none)], [5, 6, 7, 8, 9, 10], [(.normal, [(5, none)])], []⟩
noncomputable def z17u0p : XPat := ⟨.normal, [(.tv .bool), (.tv (.int .i64))], []⟩
noncomputable def z17u0x : List XPat := [⟨.normal, [(.tv .bool)], []⟩]
noncomputable def tcoef_manyu0 (k : Nat) (x0 : Bool) (x1 : Int) : Option (Bool) :=
  bif x0 then
    some (decide (x1 = 0))
  else
  some false
noncomputable def z17u0b : AC :=
  (.region [(iO 6 (.mv (.t 0))),
    (iO 7 (.mv (.t 6))),
    ⟨some 8, some (1, 7, true), (.op (.mv (.t 1))), []⟩,
    ⟨some 9, some (1, 7, true), (.op (.bin .eql (.t 8) (nI 0))), []⟩,
    (iO 10 (.pick (.t 7) (.t 9) (.c (.tv .bool (false : Bool))))),
    (iO 5 (.mv (.t 10)))])
noncomputable def z17u0t (k : Nat) (d : z17u0p.D) : Option (XD z17u0x) := tcoef_manyu0 k d.1 d.2
theorem z17u0_k (k : Nat) : UOK P GL (mkU z17u0p z17u0x (z17u0t k) nilU) z17u0d false z17u0b :=
  unit_typed (ud := z17u0d) (body := z17u0b) (uorc := uorT (z17U0 k)) hmo (T16_ok k).oo (z17U0_k k) (AllU.no (by kernel_rfl)) (fun d => by kernel_rfl)
noncomputable def z17U1 (k : Nat) : List (Nat × Ent) := (0, ⟨mkU z17u0p z17u0x (z17u0t k) nilU⟩) :: z17U0 k
theorem z17U1_k (k : Nat) : UTab (z17U1 k) := (z17U0_k k).cons (mkU_nat nilU_nat)
noncomputable def z17u1d : UDef := ⟨[(0, none), (1, none)], [11, 12, 13, 14, 15, 16], [(.normal, [(11, none)])], []⟩
noncomputable def z17u1p : XPat := ⟨.normal, [(.tv .bool), (.tv (.int .i64))], []⟩
noncomputable def z17u1x : List XPat := [⟨.normal, [(.tv .bool)], []⟩]
noncomputable def tcoef_manyu1 (k : Nat) (x0 : Bool) (x1 : Int) : Option (Bool) :=
  bif x0 then
    some (decide (x1 = 1))
  else
  some false
noncomputable def z17u1b : AC :=
  (.region [(iO 12 (.mv (.t 0))),
    (iO 13 (.mv (.t 12))),
    ⟨some 14, some (1, 13, true), (.op (.mv (.t 1))), []⟩,
    ⟨some 15, some (1, 13, true), (.op (.bin .eql (.t 14) (nI 1))), []⟩,
    (iO 16 (.pick (.t 13) (.t 15) (.c (.tv .bool (false : Bool))))),
    (iO 11 (.mv (.t 16)))])
noncomputable def z17u1t (k : Nat) (d : z17u1p.D) : Option (XD z17u1x) := tcoef_manyu1 k d.1 d.2
theorem z17u1_k (k : Nat) : UOK P GL (mkU z17u1p z17u1x (z17u1t k) nilU) z17u1d false z17u1b :=
  unit_typed (ud := z17u1d) (body := z17u1b) (uorc := uorT (z17U1 k)) hmo (T16_ok k).oo (z17U1_k k) (AllU.no (by kernel_rfl)) (fun d => by kernel_rfl)
noncomputable def z17U2 (k : Nat) : List (Nat × Ent) := (1, ⟨mkU z17u1p z17u1x (z17u1t k) nilU⟩) :: z17U1 k
theorem z17U2_k (k : Nat) : UTab (z17U2 k) := (z17U1_k k).cons (mkU_nat nilU_nat)
noncomputable def z17u2d : UDef := ⟨[(0, none), (1, none)], [17, 18, 19, 20, 21, 22], [(.normal, [(17, none)])], []⟩
noncomputable def z17u2p : XPat := ⟨.normal, [(.tv .bool), (.tv (.int .i64))], []⟩
noncomputable def z17u2x : List XPat := [⟨.normal, [(.tv .bool)], []⟩]
noncomputable def tcoef_manyu2 (k : Nat) (x0 : Bool) (x1 : Int) : Option (Bool) :=
  bif x0 then
    some (decide (x1 ≤ 40))
  else
  some false
noncomputable def z17u2b : AC :=
  (.region [(iO 18 (.mv (.t 0))),
    (iO 19 (.mv (.t 18))),
    ⟨some 20, some (1, 19, true), (.op (.mv (.t 1))), []⟩,
    ⟨some 21, some (1, 19, true), (.op (.bin .leq (.t 20) (nI 40))), []⟩,
    (iO 22 (.pick (.t 19) (.t 21) (.c (.tv .bool (false : Bool))))),
    (iO 17 (.mv (.t 22)))])
noncomputable def z17u2t (k : Nat) (d : z17u2p.D) : Option (XD z17u2x) := tcoef_manyu2 k d.1 d.2
theorem z17u2_k (k : Nat) : UOK P GL (mkU z17u2p z17u2x (z17u2t k) nilU) z17u2d false z17u2b :=
  unit_typed (ud := z17u2d) (body := z17u2b) (uorc := uorT (z17U2 k)) hmo (T16_ok k).oo (z17U2_k k) (AllU.no (by kernel_rfl)) (fun d => by kernel_rfl)
noncomputable def z17U3 (k : Nat) : List (Nat × Ent) := (2, ⟨mkU z17u2p z17u2x (z17u2t k) nilU⟩) :: z17U2 k
theorem z17U3_k (k : Nat) : UTab (z17U3 k) := (z17U2_k k).cons (mkU_nat nilU_nat)
noncomputable def tcoef_many (k : Nat) (x0 : Bool) (x1 : Int) : Option (Int) :=
  Option.bind (tcoef_manyu0 k x0 x1) fun (v52 : Bool) =>
  bif v52 then
    some 3
  else
  Option.bind (tcoef_manyu1 k x0 x1) fun (v53 : Bool) =>
  bif v53 then
    some 2
  else
  Option.bind (tcoef_manyu2 k x0 x1) fun (v54 : Bool) =>
  bif v54 then
    some 1
  else
  bif x0 then
    some 0
  else
  bif (decide (x1 = 0)) then
    some 12
  else
  bif (decide (x1 = 1)) then
    some 6
  else
  bif (decide (x1 = 2)) then
    some 4
  else
  bif (decide (x1 ≤ 6)) then
    some 3
  else
  bif (decide (x1 ≤ 10)) then
    some 2
  else
  bif (decide (x1 ≤ 26)) then
    some 1
  else
  some 0
noncomputable def z17b : AC :=
  (.seq (.region [(iO 4 (.mv (nI 0)))])
  (.seq (.block 0 (.seq (.unit 0 z17u0d false z17u0b)
  (.cond (.t 5)
  (.seq (.region [(iO 4 (.mv (nI 3)))])
    .ret)
  (.seq (.unit 1 z17u1d false z17u1b)
    (.cond (.t 11)
    (.seq (.region [(iO 4 (.mv (nI 2)))])
      .ret)
    (.seq (.unit 2 z17u2d false z17u2b)
      (.cond (.t 17)
      (.seq (.region [(iO 4 (.mv (nI 1)))])
        .ret)
      (.seq (.region [(iO 24 (.mv (.t 0))),
          (iO 23 (.mv (.t 24)))])
        (.cond (.t 23)
        (.seq (.region [(iO 4 (.mv (nI 0)))])
          .ret)
        (.seq (.region [(iO 26 (.mv (.t 1))),
            (iO 27 (.bin .eql (.t 26) (nI 0))),
            (iO 25 (.mv (.t 27)))])
          (.cond (.t 25)
          (.seq (.region [(iO 4 (.mv (nI 12)))])
            .ret)
          (.seq (.region [(iO 29 (.mv (.t 1))),
              (iO 30 (.bin .eql (.t 29) (nI 1))),
              (iO 28 (.mv (.t 30)))])
            (.cond (.t 28)
            (.seq (.region [(iO 4 (.mv (nI 6)))])
              .ret)
            (.seq (.region [(iO 32 (.mv (.t 1))),
                (iO 33 (.bin .eql (.t 32) (nI 2))),
                (iO 31 (.mv (.t 33)))])
              (.cond (.t 31)
              (.seq (.region [(iO 4 (.mv (nI 4)))])
                .ret)
              (.seq (.region [(iO 35 (.mv (.t 1))),
                  (iO 36 (.bin .leq (.t 35) (nI 6))),
                  (iO 34 (.mv (.t 36)))])
                (.cond (.t 34)
                (.seq (.region [(iO 4 (.mv (nI 3)))])
                  .ret)
                (.seq (.region [(iO 38 (.mv (.t 1))),
                    (iO 39 (.bin .leq (.t 38) (nI 10))),
                    (iO 37 (.mv (.t 39)))])
                  (.cond (.t 37)
                  (.seq (.region [(iO 4 (.mv (nI 2)))])
                    .ret)
                  (.seq (.region [(iO 41 (.mv (.t 1))),
                      (iO 42 (.bin .leq (.t 41) (nI 26))),
                      (iO 40 (.mv (.t 42)))])
                    (.cond (.t 40)
                    (.seq (.region [(iO 4 (.mv (nI 1)))])
                      .ret)
                    .skip)))))))))))))))))))))
  (.seq (.region [(iO 4 (.mv (nI 0)))])
  .ret)))
noncomputable def z17f : FDef := ⟨2, 43, [.tmp 4 none], z17b⟩
noncomputable def z17p : XPat := ⟨.normal, [(.tv .bool), (.tv (.int .i64))], []⟩
noncomputable def z17x : List XPat := [⟨.ret, [(.tv (.int .i64))], []⟩]
noncomputable def z17t (k : Nat) (d : z17p.D) : Option (XD z17x) := tcoef_many k d.1 d.2
noncomputable def z17_e (k : Nat) : UEntry := mkU z17p z17x (z17t k) nilU
theorem z17_n (k : Nat) : UNat (z17_e k) := mkU_nat nilU_nat
theorem z17_fu (k : Nat) : FU P GL 104 (z17_e k) :=
  fn_typed (uorc := uorT (z17U3 k)) hmo (T16_ok k).oo (z17U3_k k) (fd := z17f) (AllU.seq (AllU.no (by kernel_rfl)) (AllU.seq (AllU.block (AllU.seq (AllU.unit (uorc := uorT (z17U3 k)) (u := 0) (z17u0_k k)) (AllU.cond (AllU.no (by kernel_rfl)) (AllU.seq (AllU.unit (uorc := uorT (z17U3 k)) (u := 1) (z17u1_k k)) (AllU.cond (AllU.no (by kernel_rfl)) (AllU.seq (AllU.unit (uorc := uorT (z17U3 k)) (u := 2) (z17u2_k k)) (AllU.no (by kernel_rfl)))))))) (AllU.no (by kernel_rfl)))) (fn := Tryd.f104) (by kernel_rfl) (by kernel_rfl) (fun d => by kernel_rfl) FU_nil
noncomputable def T17 (k : Nat) : List (Nat × Ent) := (104, ⟨z17_e k⟩) :: T16 k
theorem T17_ok (k : Nat) : TabOK P GL (T17 k) := (T16_ok k).cons (z17_fu k) (z17_n k)
/-! ### overspill.tcoef.place -/
noncomputable def z18U0 (_ : Nat) : List (Nat × Ent) := []
theorem z18U0_k (k : Nat) : UTab (z18U0 k) := UTab.nil
noncomputable def z18u0d : UDef := ⟨[(7, none), (16, none)], [7, 8, 16, 17, 18, 19, 20, 21, 22, 23], [((.exit 0), [(7, none)])], []⟩
noncomputable def z18u0p : XPat := ⟨.normal, [(.tv (.int .i64)), (.tv (.int .i64))], []⟩
noncomputable def z18u0x : List XPat := [⟨(.exit 0), [(.tv (.int .i64))], []⟩]
noncomputable def tcoef_placeu0 (k : Nat) : Nat → (Int) → (Int) → Option (Int)
  | 0, _, _ => none
  | n + 1, x0, x1 =>
    bif (decide (x1 < 63)) then
      Option.bind (tcoef_many k false x1) fun (v57 : Int) =>
      Option.bind (tcoef_placeu0 k n (wr .i64 (x0 + v57)) (wr .i64 (x1 + 1))) fun r => some r
    else
    some x0
noncomputable def z18u0b : AC :=
  (.seq (.region [(iO 17 (.bin .lss (.t 16) (nI 63)))])
  (.seq (.cond (.t 17)
  .skip
  (.exit 0))
  (.seq (.block 1 (.seq (.region [(iO 18 (.mv (.t 16))),
    (iO 8 (.mv (.t 18)))])
  (.region [(iO 19 (.mv (.t 7))),
    (iO 20 (.mv (.t 8))),
    (iC 21 104 [((.c (.tv .bool (false : Bool))), none), ((.t 20), none)]),
    (iO 22 (.bin .add (.t 19) (.t 21))),
    (iO 7 (.mv (.t 22)))])))
  (.region [(iO 23 (.bin .add (.t 16) (nI 1))),
    (iO 16 (.mv (.t 23)))]))))
noncomputable def z18u0t (k n : Nat) (d : z18u0p.D) : Option (XD z18u0x) := tcoef_placeu0 k n d.1 d.2
theorem z18u0_k (k : Nat) : UOK P GL (mkU z18u0p z18u0x (z18u0t k k) nilU) z18u0d true z18u0b :=
  loop_typed (ud := z18u0d) (body := z18u0b) (uorc := uorT (z18U0 k)) hmo (T17_ok k).oo (z18U0_k k) (AllU.no (by kernel_rfl)) (t := z18u0t k) (fun d => by kernel_rfl) (fun n d => by kernel_rfl) k
noncomputable def z18U1 (k : Nat) : List (Nat × Ent) := (0, ⟨mkU z18u0p z18u0x (z18u0t k k) nilU⟩) :: z18U0 k
theorem z18U1_k (k : Nat) : UTab (z18U1 k) := (z18U0_k k).cons (mkU_nat nilU_nat)
noncomputable def z18u1d : UDef := ⟨[(7, none), (15, none)], [7, 8, 16, 17, 18, 19, 20, 21, 22, 23], [(.normal, [(7, none)])], []⟩
noncomputable def z18u1p : XPat := ⟨.normal, [(.tv (.int .i64)), (.tv .bool)], []⟩
noncomputable def z18u1x : List XPat := [⟨.normal, [(.tv (.int .i64))], []⟩]
noncomputable def tcoef_placeu1 (k : Nat) (x0 : Int) (x1 : Bool) : Option (Int) :=
  bif x1 then
    Option.bind (tcoef_placeu0 k k x0 0) fun (v59 : Int) =>
    some v59
  else
  some x0
noncomputable def z18u1b : AC :=
  (.cond (.t 15)
  (.seq (.region [(iO 16 (.mv (nI 0)))])
    (.block 0 (.unit 0 z18u0d true z18u0b)))
  .skip)
noncomputable def z18u1t (k : Nat) (d : z18u1p.D) : Option (XD z18u1x) := tcoef_placeu1 k d.1 d.2
theorem z18u1_k (k : Nat) : UOK P GL (mkU z18u1p z18u1x (z18u1t k) nilU) z18u1d false z18u1b :=
  unit_typed (ud := z18u1d) (body := z18u1b) (uorc := uorT (z18U1 k)) hmo (T17_ok k).oo (z18U1_k k) (AllU.cond (AllU.seq (AllU.no (by kernel_rfl)) (AllU.block (AllU.unit (uorc := uorT (z18U1 k)) (u := 0) (z18u0_k k)))) (AllU.no (by kernel_rfl))) (fun d => by kernel_rfl)
noncomputable def z18U2 (k : Nat) : List (Nat × Ent) := (1, ⟨mkU z18u1p z18u1x (z18u1t k) nilU⟩) :: z18U1 k
theorem z18U2_k (k : Nat) : UTab (z18U2 k) := (z18U1_k k).cons (mkU_nat nilU_nat)
noncomputable def z18u2d : UDef := ⟨[(0, none), (7, none), (24, none), (25, none)], [7, 9, 25, 26, 27, 28, 29, 30, 31, 32, 33], [((.exit 2), [(7, none)])], []⟩
noncomputable def z18u2p : XPat := ⟨.normal, [(.tv .bool), (.tv (.int .i64)), (.tv (.int .i64)), (.tv (.int .i64))], []⟩
noncomputable def z18u2x : List XPat := [⟨(.exit 2), [(.tv (.int .i64))], []⟩]
noncomputable def tcoef_placeu2 (k : Nat) : Nat → (Bool) → (Int) → (Int) → (Int) → Option (Int)
  | 0, _, _, _, _ => none
  | n + 1, x0, x1, x2, x3 =>
    bif (decide (x3 < x2)) then
      Option.bind (tcoef_many k x0 x3) fun (v62 : Int) =>
      Option.bind (tcoef_placeu2 k n x0 (wr .i64 (x1 + v62)) x2 (wr .i64 (x3 + 1))) fun r => some r
    else
    some x1
noncomputable def z18u2b : AC :=
  (.seq (.region [(iO 26 (.bin .lss (.t 25) (.t 24)))])
  (.seq (.cond (.t 26)
  .skip
  (.exit 2))
  (.seq (.block 3 (.seq (.region [(iO 27 (.mv (.t 25))),
    (iO 9 (.mv (.t 27)))])
  (.region [(iO 28 (.mv (.t 7))),
    (iO 29 (.mv (.t 0))),
    (iO 30 (.mv (.t 9))),
    (iC 31 104 [((.t 29), none), ((.t 30), none)]),
    (iO 32 (.bin .add (.t 28) (.t 31))),
    (iO 7 (.mv (.t 32)))])))
  (.region [(iO 33 (.bin .add (.t 25) (nI 1))),
    (iO 25 (.mv (.t 33)))]))))
noncomputable def z18u2t (k n : Nat) (d : z18u2p.D) : Option (XD z18u2x) := tcoef_placeu2 k n d.1 d.2.1 d.2.2.1 d.2.2.2
theorem z18u2_k (k : Nat) : UOK P GL (mkU z18u2p z18u2x (z18u2t k k) nilU) z18u2d true z18u2b :=
  loop_typed (ud := z18u2d) (body := z18u2b) (uorc := uorT (z18U2 k)) hmo (T17_ok k).oo (z18U2_k k) (AllU.no (by kernel_rfl)) (t := z18u2t k) (fun d => by kernel_rfl) (fun n d => by kernel_rfl) k
noncomputable def z18U3 (k : Nat) : List (Nat × Ent) := (2, ⟨mkU z18u2p z18u2x (z18u2t k k) nilU⟩) :: z18U2 k
theorem z18U3_k (k : Nat) : UTab (z18U3 k) := (z18U2_k k).cons (mkU_nat nilU_nat)
noncomputable def tcoef_place (k : Nat) (x0 : Bool) (x1 : Int) (x2 : Int) : Option (Int) :=
  Option.bind (tcoef_many k x0 x1) fun (v55 : Int) =>
  bif (decide (v55 < x2)) then
    some (-1)
  else
  Option.bind (tcoef_placeu1 k 0 x0) fun (v60 : Int) =>
  Option.bind (tcoef_placeu2 k k x0 v60 x1 0) fun (v63 : Int) =>
  some (wr .i64 ((wr .i64 (v63 + x2)) - 1))
noncomputable def z18b : AC :=
  (.seq (.region [(iO 6 (.mv (nI 0)))])
  (.seq (.seq (.region [(iO 10 (.mv (.t 2))),
    (iO 11 (.mv (.t 0))),
    (iO 12 (.mv (.t 1))),
    (iC 13 104 [((.t 11), none), ((.t 12), none)]),
    (iO 14 (.bin .gtr (.t 10) (.t 13)))])
  (.cond (.t 14)
  (.seq (.region [(iO 6 (.mv (nI (-1))))])
    .ret)
  .skip))
  (.seq (.region [(iO 7 (.mv (nI 0)))])
  (.seq (.seq (.region [(iO 15 (.mv (.t 0)))])
  (.unit 1 z18u1d false z18u1b))
  (.seq (.seq (.region [(iO 24 (.mv (.t 1))),
    (iO 25 (.mv (nI 0)))])
  (.block 2 (.unit 2 z18u2d true z18u2b)))
  (.seq (.region [(iO 34 (.mv (.t 7))),
    (iO 35 (.mv (.t 2))),
    (iO 36 (.bin .add (.t 34) (.t 35))),
    (iO 37 (.bin .sub (.t 36) (nI 1))),
    (iO 6 (.mv (.t 37)))])
  .ret))))))
noncomputable def z18f : FDef := ⟨3, 38, [.tmp 6 none], z18b⟩
noncomputable def z18p : XPat := ⟨.normal, [(.tv .bool), (.tv (.int .i64)), (.tv (.int .i64))], []⟩
noncomputable def z18x : List XPat := [⟨.ret, [(.tv (.int .i64))], []⟩]
noncomputable def z18t (k : Nat) (d : z18p.D) : Option (XD z18x) := tcoef_place k d.1 d.2.1 d.2.2
noncomputable def z18_e (k : Nat) : UEntry := mkU z18p z18x (z18t k) nilU
theorem z18_n (k : Nat) : UNat (z18_e k) := mkU_nat nilU_nat
theorem z18_fu (k : Nat) : FU P GL 93 (z18_e k) :=
  fn_typed (uorc := uorT (z18U3 k)) hmo (T17_ok k).oo (z18U3_k k) (fd := z18f) (AllU.seq (AllU.no (by kernel_rfl)) (AllU.seq (AllU.no (by kernel_rfl)) (AllU.seq (AllU.no (by kernel_rfl)) (AllU.seq (AllU.seq (AllU.no (by kernel_rfl)) (AllU.unit (uorc := uorT (z18U3 k)) (u := 1) (z18u1_k k))) (AllU.seq (AllU.seq (AllU.no (by kernel_rfl)) (AllU.block (AllU.unit (uorc := uorT (z18U3 k)) (u := 2) (z18u2_k k)))) (AllU.no (by kernel_rfl))))))) (fn := Tryd.f93) (by kernel_rfl) (by kernel_rfl) (fun d => by kernel_rfl) FU_nil
noncomputable def T18 (k : Nat) : List (Nat × Ent) := (93, ⟨z18_e k⟩) :: T17 k
theorem T18_ok (k : Nat) : TabOK P GL (T18 k) := (T17_ok k).cons (z18_fu k) (z18_n k)
/-! ### overspill.outbits.Row -/
noncomputable def z19U0 (_ : Nat) : List (Nat × Ent) := []
theorem z19U0_k (k : Nat) : UTab (z19U0 k) := UTab.nil
noncomputable def z19u0d : UDef := ⟨[(0, none), (6, none), (7, none)], [6, 7, 16, 17, 18, 19, 20, 21, 22, 23, 24, 25, 26, 27, 28, 29], [((.exit 0), [(6, none)])], []⟩
noncomputable def z19u0p : XPat := ⟨.normal, [(.tv (.int .i64)), (.row 0), (.tv (.int .i64))], [(.row (.int .u8) false)]⟩
noncomputable def z19u0x : List XPat := [⟨(.exit 0), [(.row 0)], [(.row (.int .u8) false)]⟩]
noncomputable def outbits_Rowu0 (k : Nat) : Nat → (Int) → (Int) → (List (Int)) → Option ((Unit) × (List (Int)))
  | 0, _, _, _ => none
  | n + 1, x0, x1, x2 =>
    bif (decide ((0 : Int) ≤ x1)) then
      bif (decide ((wr .u64 x1) < 0)) then
        none
      else
      bif (decide ((List.length x2) + 1 ≤ rowMax)) then
        Option.bind (outbits_Rowu0 k n x0 (wr .i64 (x1 - 1)) (x2 ++ ([(wr .u8 (48 + (wr .u8 (bitop .and .i64 (shrI .i64 x0 (wr .u64 x1)) 1))))] : List (Int)))) fun r => some r
      else
        none
    else
    some ((), x2)
noncomputable def z19u0b : AC :=
  (.seq (.seq (.region [(iO 16 (.mv (.t 7))),
    (iO 17 (.bin .geq (.t 16) (nI 0)))])
  (.cond (.t 17)
  .skip
  (.exit 0)))
  (.seq (.block 1 (.region [(iO 20 (.mv (.t 6))),
    (iO 21 (.mv (.t 0))),
    (iO 22 (.mv (.t 7))),
    (iO 23 (.conv .u64 (.t 22))),
    (iO 24 (.bin .shr (.t 21) (.t 23))),
    (iO 25 (.bin .and (.t 24) (nI 1))),
    (iO 26 (.conv .u8 (.t 25))),
    (iO 27 (.bin .add (.c (.tv (.int .u8) (48 : Int))) (.t 26))),
    (iO 28 (.bslice (.int .u8) [(.t 27)])),
    (iO 29 (.app (.int .u8) (.t 20) (.t 28))),
    (iO 6 (.mv (.t 29)))]))
  (.region [(iO 18 (.mv (.t 7))),
    (iO 19 (.bin .sub (.t 18) (nI 1))),
    (iO 7 (.mv (.t 19)))])))
noncomputable def z19u0t (k n : Nat) (d : z19u0p.D) : Option (XD z19u0x) := outbits_Rowu0 k n d.1.1 d.1.2.2 d.2
theorem z19u0_k (k : Nat) : UOK P GL (mkU z19u0p z19u0x (z19u0t k k) nilU) z19u0d true z19u0b :=
  loop_typed (ud := z19u0d) (body := z19u0b) (uorc := uorT (z19U0 k)) hmo (T18_ok k).oo (z19U0_k k) (AllU.no (by kernel_rfl)) (t := z19u0t k) (fun d => by kernel_rfl) (fun n d => by kernel_rfl) k
noncomputable def z19U1 (k : Nat) : List (Nat × Ent) := (0, ⟨mkU z19u0p z19u0x (z19u0t k k) nilU⟩) :: z19U0 k
theorem z19U1_k (k : Nat) : UTab (z19U1 k) := (z19U0_k k).cons (mkU_nat nilU_nat)
noncomputable def outbits_Row (k : Nat) (x0 : Int) (x1 : Int) : Option ((List UInt8) × ((Int) × (Unit))) :=
  Option.bind (outbits_fits k x0 x1) fun (v65 : Bool) =>
  bif (!v65) then
    some (([] : List UInt8), (1, ()))
  else
  bif (decide ((0 : Int) ≤ 0 ∧ 0 ≤ x1 ∧ x1 ≤ ((rowMax : Nat) : Int))) then
    Option.bind (outbits_Rowu0 k k x0 (wr .i64 (x1 - 1)) ([] : List (Int))) fun (v66 : (Unit) × (List (Int))) =>
    some ((List.map toU8 v66.2), (0, ()))
  else
    none
noncomputable def z19b : AC :=
  (.seq (.region [(iO 4 (.mv (.c (.tv .str (([] : List UInt8) : List UInt8))))),
    (iO 5 (.mv (nI 0)))])
  (.seq (.seq (.region [(iO 8 (.mv (.t 0))),
    (iO 9 (.mv (.t 1))),
    (iC 10 90 [((.t 8), none), ((.t 9), none)]),
    (iO 11 (.un .not (.t 10)))])
  (.cond (.t 11)
  (.seq (.region [(iO 4 (.mv (.c (.tv .str (([] : List UInt8) : List UInt8))))),
      (iO 5 (.mv (nI 1)))])
    .ret)
  .skip))
  (.seq (.region [(iO 12 (.mv (.t 1))),
    (iO 13 (.mkslice (.int .u8) (nI 0) (.t 12))),
    (iO 6 (.mv (.t 13)))])
  (.seq (.seq (.region [(iO 14 (.mv (.t 1))),
    (iO 15 (.bin .sub (.t 14) (nI 1))),
    (iO 7 (.mv (.t 15)))])
  (.block 0 (.unit 0 z19u0d true z19u0b)))
  (.seq (.region [(iO 30 (.mv (.t 6))),
    (iO 31 (.bstr (.t 30))),
    (iO 4 (.mv (.t 31))),
    (iO 5 (.mv (nI 0)))])
  .ret)))))
noncomputable def z19f : FDef := ⟨2, 32, [.tmp 4 none, .tmp 5 none], z19b⟩
noncomputable def z19p : XPat := ⟨.normal, [(.tv (.int .i64)), (.tv (.int .i64))], []⟩
noncomputable def z19x : List XPat := [⟨.ret, [(.tup (.cons (.tv .str) (.cons (.tv (.int .i64)) .nil)))], []⟩]
noncomputable def z19t (k : Nat) (d : z19p.D) : Option (XD z19x) := outbits_Row k d.1 d.2
noncomputable def z19_e (k : Nat) : UEntry := mkU z19p z19x (z19t k) nilU
theorem z19_n (k : Nat) : UNat (z19_e k) := mkU_nat nilU_nat
theorem z19_fu (k : Nat) : FU P GL 67 (z19_e k) :=
  fn_typed (uorc := uorT (z19U1 k)) hmo (T18_ok k).oo (z19U1_k k) (fd := z19f) (AllU.seq (AllU.no (by kernel_rfl)) (AllU.seq (AllU.no (by kernel_rfl)) (AllU.seq (AllU.no (by kernel_rfl)) (AllU.seq (AllU.seq (AllU.no (by kernel_rfl)) (AllU.block (AllU.unit (uorc := uorT (z19U1 k)) (u := 0) (z19u0_k k)))) (AllU.no (by kernel_rfl)))))) (fn := Tryd.f67) (by kernel_rfl) (by kernel_rfl) (fun d => by kernel_rfl) FU_nil
noncomputable def T19 (k : Nat) : List (Nat × Ent) := (67, ⟨z19_e k⟩) :: T18 k
theorem T19_ok (k : Nat) : TabOK P GL (T19 k) := (T18_ok k).cons (z19_fu k) (z19_n k)
/-! ### overspill.tcoef.digit -/
noncomputable def z20U0 (_ : Nat) : List (Nat × Ent) := []
theorem z20U0_k (k : Nat) : UTab (z20U0 k) := UTab.nil
noncomputable def tcoef_digit (k : Nat) (x0 : Bool) : Option (List UInt8) :=
  bif x0 then
    some ([49] : List UInt8)
  else
  some ([48] : List UInt8)
noncomputable def z20b : AC :=
  (.seq (.region [(iO 2 (.mv (.c (.tv .str (([] : List UInt8) : List UInt8)))))])
  (.seq (.seq (.region [(iO 3 (.mv (.t 0)))])
  (.cond (.t 3)
  (.seq (.region [(iO 2 (.mv (.c (.tv .str (([49] : List UInt8) : List UInt8)))))])
    .ret)
  .skip))
  (.seq (.region [(iO 2 (.mv (.c (.tv .str (([48] : List UInt8) : List UInt8)))))])
  .ret)))
noncomputable def z20f : FDef := ⟨1, 4, [.tmp 2 none], z20b⟩
noncomputable def z20p : XPat := ⟨.normal, [(.tv .bool)], []⟩
noncomputable def z20x : List XPat := [⟨.ret, [(.tv .str)], []⟩]
noncomputable def z20t (k : Nat) (d : z20p.D) : Option (XD z20x) := tcoef_digit k d
noncomputable def z20_e (k : Nat) : UEntry := mkU z20p z20x (z20t k) nilU
theorem z20_n (k : Nat) : UNat (z20_e k) := mkU_nat nilU_nat
theorem z20_fu (k : Nat) : FU P GL 94 (z20_e k) :=
  fn_typed (uorc := uorT (z20U0 k)) hmo (T19_ok k).oo (z20U0_k k) (fd := z20f) (AllU.no (by kernel_rfl)) (fn := Tryd.f94) (by kernel_rfl) (by kernel_rfl) (fun d => by kernel_rfl) FU_nil
noncomputable def T20 (k : Nat) : List (Nat × Ent) := (94, ⟨z20_e k⟩) :: T19 k
theorem T20_ok (k : Nat) : TabOK P GL (T20 k) := (T19_ok k).cons (z20_fu k) (z20_n k)
/-! ### overspill.tcoef.Row -/
noncomputable def z21U0 (_ : Nat) : List (Nat × Ent) := []
theorem z21U0_k (k : Nat) : UTab (z21U0 k) := UTab.nil
noncomputable def tcoef_Row (k : Nat) (x0 : DEvent) : Option ((List UInt8) × ((Bool) × (Unit))) :=
  Option.bind (tcoef_Right k x0) fun (v51 : Bool) =>
  bif (!v51) then
    some (([] : List UInt8), (false, ()))
  else
  Option.bind (tcoef_place k x0.1 x0.2.1 (mxI x0.2.2.1 (wr .i64 (0 - x0.2.2.1)))) fun (v64 : Int) =>
  bif (decide ((0 : Int) ≤ v64)) then
    bif (inR v64 102) then
      bif (inR v64 102) then
        Option.bind (outbits_Row k (List.getD tbl1 (Int.toNat v64) 0) (List.getD tbl2 (Int.toNat v64) 0)) fun (v67 : (List UInt8) × ((Int) × (Unit))) =>
        Option.bind (tcoef_digit k (decide (x0.2.2.1 < 0))) fun (v68 : List UInt8) =>
        bif (decide ((List.length v67.1) + (List.length v68) ≤ strMax)) then
          some ((v67.1 ++ v68), (true, ()))
        else
          none
      else
        none
    else
      none
  else
  Option.bind (outbits_Row k 3 7) fun (v69 : (List UInt8) × ((Int) × (Unit))) =>
  Option.bind (outbits_Row k x0.2.1 6) fun (v70 : (List UInt8) × ((Int) × (Unit))) =>
  Option.bind (outbits_Row k (Int.tmod (wr .i64 (x0.2.2.1 + 256)) 256) 8) fun (v71 : (List UInt8) × ((Int) × (Unit))) =>
  Option.bind (tcoef_digit k x0.1) fun (v72 : List UInt8) =>
  bif (decide ((List.length v69.1) + (List.length v72) ≤ strMax)) then
    bif (decide ((List.length (v69.1 ++ v72)) + (List.length v70.1) ≤ strMax)) then
      bif (decide ((List.length ((v69.1 ++ v72) ++ v70.1)) + (List.length v71.1) ≤ strMax)) then
        some ((((v69.1 ++ v72) ++ v70.1) ++ v71.1), (true, ()))
      else
        none
    else
      none
  else
    none
noncomputable def z21b : AC :=
  (.seq (.region [(iO 1 (.box (.t 0))),
    (iO 2 (.mv (.c (.tv .str (([] : List UInt8) : List UInt8))))),
    (iO 3 (.mv (.c (.tv .bool (false : Bool)))))])
  (.seq (.seq (.region [(iO 13 (.load true 3 (.t 1))),
    (iC 14 92 [((.t 13), some YEvent)]),
    (iO 15 (.un .not (.t 14)))])
  (.cond (.t 15)
  (.seq (.region [(iO 2 (.mv (.c (.tv .str (([] : List UInt8) : List UInt8))))),
      (iO 3 (.mv (.c (.tv .bool (false : Bool)))))])
    .ret)
  .skip))
  (.seq (.seq (.region [(iO 16 (.fad 0 0 (.t 1))),
    (iO 17 (.load false 1 (.t 16))),
    (iO 18 (.fad 1 1 (.t 1))),
    (iO 19 (.load false 1 (.t 18))),
    (iO 20 (.fad 2 2 (.t 1))),
    (iO 21 (.load false 1 (.t 20))),
    (iO 22 (.fad 2 2 (.t 1))),
    (iO 23 (.load false 1 (.t 22))),
    (iO 24 (.un .neg (.t 23))),
    (iO 25 (.mx (.t 21) (.t 24))),
    (iC 26 93 [((.t 17), none), ((.t 19), none), ((.t 25), none)]),
    (iO 4 (.mv (.t 26)))])
  (.seq (.region [(iO 27 (.mv (.t 4))),
    (iO 28 (.bin .geq (.t 27) (nI 0)))])
  (.cond (.t 28)
  (.seq (.draw [(iO 30 (.mv (.t 4))),
      (iOa 31 (.iad 102 1 (.g 1) (.t 30)) [0]),
      (iOa 32 (.load false 1 (.t 31)) [0, 1]),
      (iO 33 (.mv (.t 4))),
      (iOa 34 (.iad 102 1 (.g 2) (.t 33)) [3]),
      (iOa 35 (.load false 1 (.t 34)) [3, 4]),
      (iCa 36 67 [((.t 32), none), ((.t 35), none)] (rg [0, 6])),
      (iOa 29 (.mv (.t 36)) (rg [0, 7])),
      (iOa 37 (.ext (.t 29) 0) (rg [0, 8])),
      (iOa 38 (.ext (.t 29) 1) (rg [0, 8])),
      (iOa 5 (.mv (.t 37)) (rg [0, 9])),
      (iOa 6 (.mv (.t 38)) (rg [0, 11]))])
    (.seq (.region [(iO 39 (.mv (.t 5))),
      (iO 40 (.fad 2 2 (.t 1))),
      (iO 41 (.load false 1 (.t 40))),
      (iO 42 (.bin .lss (.t 41) (nI 0))),
      (iC 43 94 [((.t 42), none)]),
      (iO 44 (.bin .add (.t 39) (.t 43))),
      (iO 2 (.mv (.t 44))),
      (iO 3 (.mv (.c (.tv .bool (true : Bool)))))])
    .ret))
  .skip)))
  (.seq (.region [(iC 46 67 [((nI 3), none), ((nI 7), none)]),
    (iO 45 (.mv (.t 46))),
    (iO 47 (.ext (.t 45) 0)),
    (iO 48 (.ext (.t 45) 1)),
    (iO 7 (.mv (.t 47))),
    (iO 8 (.mv (.t 48)))])
  (.seq (.region [(iO 50 (.fad 1 1 (.t 1))),
    (iO 51 (.load false 1 (.t 50))),
    (iC 52 67 [((.t 51), none), ((nI 6), none)]),
    (iO 49 (.mv (.t 52))),
    (iO 53 (.ext (.t 49) 0)),
    (iO 54 (.ext (.t 49) 1)),
    (iO 9 (.mv (.t 53))),
    (iO 10 (.mv (.t 54)))])
  (.seq (.region [(iO 56 (.fad 2 2 (.t 1))),
    (iO 57 (.load false 1 (.t 56))),
    (iO 58 (.bin .add (.t 57) (nI 256))),
    (iO 59 (.bin .rem (.t 58) (nI 256))),
    (iC 60 67 [((.t 59), none), ((nI 8), none)]),
    (iO 55 (.mv (.t 60))),
    (iO 61 (.ext (.t 55) 0)),
    (iO 62 (.ext (.t 55) 1)),
    (iO 11 (.mv (.t 61))),
    (iO 12 (.mv (.t 62)))])
  (.seq (.region [(iO 63 (.mv (.t 7))),
    (iO 64 (.fad 0 0 (.t 1))),
    (iO 65 (.load false 1 (.t 64))),
    (iC 66 94 [((.t 65), none)]),
    (iO 67 (.bin .add (.t 63) (.t 66))),
    (iO 68 (.mv (.t 9))),
    (iO 69 (.bin .add (.t 67) (.t 68))),
    (iO 70 (.mv (.t 11))),
    (iO 71 (.bin .add (.t 69) (.t 70))),
    (iO 2 (.mv (.t 71))),
    (iO 3 (.mv (.c (.tv .bool (true : Bool)))))])
  .ret)))))))
noncomputable def z21f : FDef := ⟨1, 72, [.tmp 2 none, .tmp 3 none], z21b⟩
noncomputable def z21p : XPat := ⟨.normal, [(.tv YEvent)], []⟩
noncomputable def z21x : List XPat := [⟨.ret, [(.tup (.cons (.tv .str) (.cons (.tv .bool) .nil)))], []⟩]
noncomputable def z21t (k : Nat) (d : z21p.D) : Option (XD z21x) := tcoef_Row k d
noncomputable def z21_e (k : Nat) : UEntry := mkU z21p z21x (z21t k) nilU
theorem z21_n (k : Nat) : UNat (z21_e k) := mkU_nat nilU_nat
theorem z21_fu (k : Nat) : FU P GL 71 (z21_e k) :=
  fn_typed (uorc := uorT (z21U0 k)) hmo (T20_ok k).oo (z21U0_k k) (fd := z21f) (AllU.no (by kernel_rfl)) (fn := Tryd.f71) (by kernel_rfl) (by kernel_rfl) (fun d => by kernel_rfl) FU_nil
noncomputable def T21 (k : Nat) : List (Nat × Ent) := (71, ⟨z21_e k⟩) :: T20 k
theorem T21_ok (k : Nat) : TabOK P GL (T21 k) := (T20_ok k).cons (z21_fu k) (z21_n k)
/-! ### overspill.outbits.plain -/
noncomputable def z22U0 (_ : Nat) : List (Nat × Ent) := []
theorem z22U0_k (k : Nat) : UTab (z22U0 k) := UTab.nil
noncomputable def z22u0d : UDef := ⟨[(6, none)], [2, 4, 7, 8, 9, 10, 11, 12, 13, 14, 15], [(.ret, [(2, none)]), ((.exit 0), [])], []⟩
noncomputable def z22u0p : XPat := ⟨.normal, [(.obj 0)], [.iter]⟩
noncomputable def z22u0x : List XPat := [⟨.ret, [(.tv .bool)], [.iter]⟩, ⟨(.exit 0), [], [.iter]⟩]
noncomputable def outbits_plainu0 (k : Nat) : Nat → (List UInt8) → (Nat) → Option (((Bool) × (List UInt8 × Nat)) ⊕ ((Unit) × (List UInt8 × Nat)))
  | 0, _, _ => none
  | n + 1, x0, x1 =>
    bif (decide (x1 < List.length x0)) then
      bif (!(decide (((Utf8.decode ⟨List.toArray x0⟩ x1).1 : Int) = 48))) then
        bif (!(decide (((Utf8.decode ⟨List.toArray x0⟩ x1).1 : Int) = 49))) then
          some (Sum.inl (false, (x0, (x1 + (Utf8.decode ⟨List.toArray x0⟩ x1).2))))
        else
        Option.bind (outbits_plainu0 k n x0 (x1 + (Utf8.decode ⟨List.toArray x0⟩ x1).2)) fun r => Sum.elim (fun w => some (Sum.inl w)) (fun w => some (Sum.inr w)) r
      else
      Option.bind (outbits_plainu0 k n x0 (x1 + (Utf8.decode ⟨List.toArray x0⟩ x1).2)) fun r => Sum.elim (fun w => some (Sum.inl w)) (fun w => some (Sum.inr w)) r
    else
    some (Sum.inr ((), (x0, x1)))
noncomputable def z22u0b : AC :=
  (.seq (.region [(iO 7 (.nxt (.t 6))),
    (iO 8 (.ext (.t 7) 0))])
  (.seq (.cond (.t 8)
  .skip
  (.exit 0))
  (.block 1 (.seq (.region [(iO 9 (.ext (.t 7) 2)),
    (iO 4 (.mv (.t 9)))])
  (.seq (.region [(iO 10 (.mv (.t 4))),
    (iO 11 (.bin .neq (.t 10) (.c (.tv (.int .i32) (48 : Int))))),
    (iO 12 (.mv (.t 11))),
    ⟨some 13, some (2, 12, true), (.op (.mv (.t 4))), []⟩,
    ⟨some 14, some (2, 12, true), (.op (.bin .neq (.t 13) (.c (.tv (.int .i32) (49 : Int))))), []⟩,
    (iO 15 (.pick (.t 12) (.t 14) (.c (.tv .bool (false : Bool)))))])
  (.cond (.t 15)
  (.seq (.region [(iO 2 (.mv (.c (.tv .bool (false : Bool)))))])
    .ret)
  .skip))))))
noncomputable def z22u0t (k n : Nat) (d : z22u0p.D) : Option (XD z22u0x) := outbits_plainu0 k n d.2.1 d.2.2
theorem z22u0_k (k : Nat) : UOK P GL (mkU z22u0p z22u0x (z22u0t k k) nilU) z22u0d true z22u0b :=
  loop_typed (ud := z22u0d) (body := z22u0b) (uorc := uorT (z22U0 k)) hmo (T21_ok k).oo (z22U0_k k) (AllU.no (by kernel_rfl)) (t := z22u0t k) (fun d => by kernel_rfl) (fun n d => by kernel_rfl) k
noncomputable def z22U1 (k : Nat) : List (Nat × Ent) := (0, ⟨mkU z22u0p z22u0x (z22u0t k k) nilU⟩) :: z22U0 k
theorem z22U1_k (k : Nat) : UTab (z22U1 k) := (z22U0_k k).cons (mkU_nat nilU_nat)
noncomputable def outbits_plain (k : Nat) (x0 : List UInt8) : Option (Bool) :=
  Option.bind (outbits_plainu0 k k x0 0) fun r =>
  Sum.elim (fun (v74 : (Bool) × (List UInt8 × Nat)) =>
    some v74.1)
    (fun (v75 : (Unit) × (List UInt8 × Nat)) =>
    some true) r
noncomputable def z22b : AC :=
  (.seq (.region [(iO 2 (.mv (.c (.tv .bool (false : Bool)))))])
  (.seq (.seq (.region [(iO 5 (.mv (.t 0))),
    (iO 6 (.rng (.t 5)))])
  (.block 0 (.unit 0 z22u0d true z22u0b)))
  (.seq (.region [(iO 2 (.mv (.c (.tv .bool (true : Bool)))))])
  .ret)))
noncomputable def z22f : FDef := ⟨1, 16, [.tmp 2 none], z22b⟩
noncomputable def z22p : XPat := ⟨.normal, [(.tv .str)], []⟩
noncomputable def z22x : List XPat := [⟨.ret, [(.tv .bool)], []⟩]
noncomputable def z22t (k : Nat) (d : z22p.D) : Option (XD z22x) := outbits_plain k d
noncomputable def z22_e (k : Nat) : UEntry := mkU z22p z22x (z22t k) nilU
theorem z22_n (k : Nat) : UNat (z22_e k) := mkU_nat nilU_nat
theorem z22_fu (k : Nat) : FU P GL 48 (z22_e k) :=
  fn_typed (uorc := uorT (z22U1 k)) hmo (T21_ok k).oo (z22U1_k k) (fd := z22f) (AllU.seq (AllU.no (by kernel_rfl)) (AllU.seq (AllU.seq (AllU.no (by kernel_rfl)) (AllU.block (AllU.unit (uorc := uorT (z22U1 k)) (u := 0) (z22u0_k k)))) (AllU.no (by kernel_rfl)))) (fn := Tryd.f48) (by kernel_rfl) (by kernel_rfl) (fun d => by kernel_rfl) FU_nil
noncomputable def T22 (k : Nat) : List (Nat × Ent) := (48, ⟨z22_e k⟩) :: T21 k
theorem T22_ok (k : Nat) : TabOK P GL (T22 k) := (T21_ok k).cons (z22_fu k) (z22_n k)
/-! ### (*overspill.outbits.Writer).Add -/
noncomputable def z23U0 (_ : Nat) : List (Nat × Ent) := []
theorem z23U0_k (k : Nat) : UTab (z23U0 k) := UTab.nil
noncomputable def z23u0d : UDef := ⟨[(0, none), (1, none)], [7, 8, 9, 10, 11, 12, 13], [(.normal, [(13, none)])], []⟩
noncomputable def z23u0p : XPat := ⟨.normal, [(.ptr 0 []), (.tv .str)], [(.box (.cons (.row 1) (.cons (.tv (.int .i64)) .nil))), (.row (.int .u8) false)]⟩
noncomputable def z23u0x : List XPat := [⟨.normal, [(.tv .bool)], [(.box (.cons (.row 1) (.cons (.tv (.int .i64)) .nil))), (.row (.int .u8) false)]⟩]
noncomputable def outbits_Writer_Addu0 (k : Nat) (x0 : List UInt8) (x1 : Int) (x2 : List (Int)) : Option ((Bool) × (((Unit) × ((Int) × (Unit))) × (List (Int)))) :=
  Option.bind (outbits_plain k x0) fun (v77 : Bool) =>
  some ((!v77), (((), (x1, ())), x2))
noncomputable def z23u0b : AC :=
  (.region [(iO 7 (.mv (.t 0))),
    (iO 8 (.eqp false (.t 7) (.c .nilp))),
    (iO 9 (.mv (.t 8))),
    ⟨some 10, some (2, 9, false), (.op (.mv (.t 1))), []⟩,
    ⟨some 11, some (2, 9, false), (.call (.c (.fn 48 .nil .nil)) [((.t 10), none)]), []⟩,
    ⟨some 12, some (2, 9, false), (.op (.un .not (.t 11))), []⟩,
    (iO 13 (.pick (.t 9) (.c (.tv .bool (true : Bool))) (.t 12)))])
noncomputable def z23u0t (k : Nat) (d : z23u0p.D) : Option (XD z23u0x) := outbits_Writer_Addu0 k d.1.2 d.2.1.2.1 d.2.2
theorem z23u0_k (k : Nat) : UOK P GL (mkU z23u0p z23u0x (z23u0t k) nilU) z23u0d false z23u0b :=
  unit_typed (ud := z23u0d) (body := z23u0b) (uorc := uorT (z23U0 k)) hmo (T22_ok k).oo (z23U0_k k) (AllU.no (by kernel_rfl)) (fun d => by kernel_rfl)
noncomputable def z23U1 (k : Nat) : List (Nat × Ent) := (0, ⟨mkU z23u0p z23u0x (z23u0t k) nilU⟩) :: z23U0 k
theorem z23U1_k (k : Nat) : UTab (z23U1 k) := (z23U0_k k).cons (mkU_nat nilU_nat)
noncomputable def z23u1d : UDef := ⟨[(0, none), (15, none)], [6, 16, 17, 18, 19, 20, 21, 22], [((.exit 0), [])], []⟩
noncomputable def z23u1p : XPat := ⟨.normal, [(.ptr 0 []), (.obj 1)], [(.box (.cons (.row 2) (.cons (.tv (.int .i64)) .nil))), .iter, (.row (.int .u8) false)]⟩
noncomputable def z23u1x : List XPat := [⟨(.exit 0), [], [(.box (.cons (.row 2) (.cons (.tv (.int .i64)) .nil))), .iter, (.row (.int .u8) false)]⟩]
noncomputable def outbits_Writer_Addu1 (k : Nat) : Nat → (Int) → (List UInt8) → (Nat) → (List (Int)) → Option ((Unit) × (((Unit) × ((Int) × (Unit))) × ((List UInt8 × Nat) × (List (Int)))))
  | 0, _, _, _, _ => none
  | n + 1, x0, x1, x2, x3 =>
    bif (decide (x2 < List.length x1)) then
      Option.bind (outbits_Writer_bit k (decide (((Utf8.decode ⟨List.toArray x1⟩ x2).1 : Int) = 49)) x0 x3) fun (v80 : (Unit) × (((Unit) × ((Int) × (Unit))) × (List (Int)))) =>
      Option.bind (outbits_Writer_Addu1 k n v80.2.1.2.1 x1 (x2 + (Utf8.decode ⟨List.toArray x1⟩ x2).2) v80.2.2) fun r => some r
    else
    some ((), (((), (x0, ())), ((x1, x2), x3)))
noncomputable def z23u1b : AC :=
  (.seq (.region [(iO 16 (.nxt (.t 15))),
    (iO 17 (.ext (.t 16) 0))])
  (.seq (.cond (.t 17)
  .skip
  (.exit 0))
  (.block 1 (.seq (.region [(iO 18 (.ext (.t 16) 2)),
    (iO 6 (.mv (.t 18)))])
  (.region [(iO 19 (.mv (.t 0))),
    (iO 20 (.mv (.t 6))),
    (iO 21 (.bin .eql (.t 20) (.c (.tv (.int .i32) (49 : Int))))),
    (iC 22 49 [((.t 19), none), ((.t 21), none)])])))))
noncomputable def z23u1t (k n : Nat) (d : z23u1p.D) : Option (XD z23u1x) := outbits_Writer_Addu1 k n d.2.1.2.1 d.2.2.1.1 d.2.2.1.2 d.2.2.2
theorem z23u1_k (k : Nat) : UOK P GL (mkU z23u1p z23u1x (z23u1t k k) nilU) z23u1d true z23u1b :=
  loop_typed (ud := z23u1d) (body := z23u1b) (uorc := uorT (z23U1 k)) hmo (T22_ok k).oo (z23U1_k k) (AllU.no (by kernel_rfl)) (t := z23u1t k) (fun d => by kernel_rfl) (fun n d => by kernel_rfl) k
noncomputable def z23U2 (k : Nat) : List (Nat × Ent) := (1, ⟨mkU z23u1p z23u1x (z23u1t k k) nilU⟩) :: z23U1 k
theorem z23U2_k (k : Nat) : UTab (z23U2 k) := (z23U1_k k).cons (mkU_nat nilU_nat)
noncomputable def outbits_Writer_Add (k : Nat) (x0 : List UInt8) (x1 : Int) (x2 : List (Int)) : Option ((Int) × (((Unit) × ((Int) × (Unit))) × (List (Int)))) :=
  Option.bind (outbits_Writer_Addu0 k x0 x1 x2) fun (v78 : (Bool) × (((Unit) × ((Int) × (Unit))) × (List (Int)))) =>
  bif v78.1 then
    some (1, (((), (v78.2.1.2.1, ())), v78.2.2))
  else
  Option.bind (outbits_Writer_Addu1 k k v78.2.1.2.1 x0 0 v78.2.2) fun (v81 : (Unit) × (((Unit) × ((Int) × (Unit))) × ((List UInt8 × Nat) × (List (Int))))) =>
  some (0, (((), (v81.2.1.2.1, ())), v81.2.2.2))
noncomputable def z23b : AC :=
  (.seq (.region [(iO 4 (.mv (nI 0)))])
  (.seq (.seq (.unit 0 z23u0d false z23u0b)
  (.cond (.t 13)
  (.seq (.region [(iO 4 (.mv (nI 1)))])
    .ret)
  .skip))
  (.seq (.seq (.region [(iO 14 (.mv (.t 1))),
    (iO 15 (.rng (.t 14)))])
  (.block 0 (.unit 1 z23u1d true z23u1b)))
  (.seq (.region [(iO 4 (.mv (nI 0)))])
  .ret))))
noncomputable def z23f : FDef := ⟨2, 23, [.tmp 4 none], z23b⟩
noncomputable def z23p : XPat := ⟨.normal, [(.ptr 0 []), (.tv .str)], [(.box (.cons (.row 1) (.cons (.tv (.int .i64)) .nil))), (.row (.int .u8) false)]⟩
noncomputable def z23x : List XPat := [⟨.ret, [(.tv (.int .i64))], [(.box (.cons (.row 1) (.cons (.tv (.int .i64)) .nil))), (.row (.int .u8) false)]⟩]
noncomputable def z23t (k : Nat) (d : z23p.D) : Option (XD z23x) := outbits_Writer_Add k d.1.2 d.2.1.2.1 d.2.2
noncomputable def z23_e (k : Nat) : UEntry := mkU z23p z23x (z23t k) nilU
theorem z23_n (k : Nat) : UNat (z23_e k) := mkU_nat nilU_nat
theorem z23_fu (k : Nat) : FU P GL 23 (z23_e k) :=
  fn_typed (uorc := uorT (z23U2 k)) hmo (T22_ok k).oo (z23U2_k k) (fd := z23f) (AllU.seq (AllU.no (by kernel_rfl)) (AllU.seq (AllU.seq (AllU.unit (uorc := uorT (z23U2 k)) (u := 0) (z23u0_k k)) (AllU.no (by kernel_rfl))) (AllU.seq (AllU.seq (AllU.no (by kernel_rfl)) (AllU.block (AllU.unit (uorc := uorT (z23U2 k)) (u := 1) (z23u1_k k)))) (AllU.no (by kernel_rfl))))) (fn := Tryd.f23) (by kernel_rfl) (by kernel_rfl) (fun d => by kernel_rfl) FU_nil
noncomputable def T23 (k : Nat) : List (Nat × Ent) := (23, ⟨z23_e k⟩) :: T22 k
theorem T23_ok (k : Nat) : TabOK P GL (T23 k) := (T22_ok k).cons (z23_fu k) (z23_n k)
/-! ### overspill.blocks.Put -/
noncomputable def z24U0 (_ : Nat) : List (Nat × Ent) := []
theorem z24U0_k (k : Nat) : UTab (z24U0 k) := UTab.nil
noncomputable def z24u0d : UDef := ⟨[(2, none), (23, none)], [2], [(.normal, [(2, none)])], []⟩
noncomputable def z24u0p : XPat := ⟨.normal, [(.tv (.int .i64)), (.tv .bool)], []⟩
noncomputable def z24u0x : List XPat := [⟨.normal, [(.tv (.int .i64))], []⟩]
noncomputable def blocks_Putu0 (k : Nat) (x0 : Int) (x1 : Bool) : Option (Int) :=
  bif x1 then
    some 255
  else
  some x0
noncomputable def z24u0b : AC :=
  (.cond (.t 23)
  (.region [(iO 2 (.mv (nI 255)))])
  .skip)
noncomputable def z24u0t (k : Nat) (d : z24u0p.D) : Option (XD z24u0x) := blocks_Putu0 k d.1 d.2
theorem z24u0_k (k : Nat) : UOK P GL (mkU z24u0p z24u0x (z24u0t k) nilU) z24u0d false z24u0b :=
  unit_typed (ud := z24u0d) (body := z24u0b) (uorc := uorT (z24U0 k)) hmo (T23_ok k).oo (z24U0_k k) (AllU.no (by kernel_rfl)) (fun d => by kernel_rfl)
noncomputable def z24U1 (k : Nat) : List (Nat × Ent) := (0, ⟨mkU z24u0p z24u0x (z24u0t k) nilU⟩) :: z24U0 k
theorem z24U1_k (k : Nat) : UTab (z24U1 k) := (z24U0_k k).cons (mkU_nat nilU_nat)
noncomputable def z24u1d : UDef := ⟨[(0, none), (2, none), (24, none)], [25, 26, 27], [(.normal, [])], []⟩
noncomputable def z24u1p : XPat := ⟨.normal, [(.ptr 0 []), (.tv (.int .i64)), (.tv .bool)], [(.box (.cons (.row 1) (.cons (.tv (.int .i64)) .nil))), (.row (.int .u8) false)]⟩
noncomputable def z24u1x : List XPat := [⟨.normal, [], [(.box (.cons (.row 1) (.cons (.tv (.int .i64)) .nil))), (.row (.int .u8) false)]⟩]
noncomputable def blocks_Putu1 (k : Nat) (x0 : Int) (x1 : Bool) (x2 : Int) (x3 : List (Int)) : Option ((Unit) × (((Unit) × ((Int) × (Unit))) × (List (Int)))) :=
  bif x1 then
    Option.bind (outbits_Writer_Put k x0 8 x2 x3) fun (v49 : (Int) × (((Unit) × ((Int) × (Unit))) × (List (Int)))) =>
    some ((), (((), (v49.2.1.2.1, ())), v49.2.2))
  else
  some ((), (((), (x2, ())), x3))
noncomputable def z24u1b : AC :=
  (.cond (.t 24)
  (.region [(iO 25 (.mv (.t 0))),
      (iO 26 (.mv (.t 2))),
      (iC 27 70 [((.t 25), none), ((.t 26), none), ((nI 8), none)])])
  .skip)
noncomputable def z24u1t (k : Nat) (d : z24u1p.D) : Option (XD z24u1x) := blocks_Putu1 k d.1.2.1 d.1.2.2 d.2.1.2.1 d.2.2
theorem z24u1_k (k : Nat) : UOK P GL (mkU z24u1p z24u1x (z24u1t k) nilU) z24u1d false z24u1b :=
  unit_typed (ud := z24u1d) (body := z24u1b) (uorc := uorT (z24U1 k)) hmo (T23_ok k).oo (z24U1_k k) (AllU.no (by kernel_rfl)) (fun d => by kernel_rfl)
noncomputable def z24U2 (k : Nat) : List (Nat × Ent) := (1, ⟨mkU z24u1p z24u1x (z24u1t k) nilU⟩) :: z24U1 k
theorem z24U2_k (k : Nat) : UTab (z24U2 k) := (z24U1_k k).cons (mkU_nat nilU_nat)
noncomputable def z24u2d : UDef := ⟨[(0, none), (28, none), (29, none), (30, none)], [10, 11, 12, 30, 31, 32, 33, 34, 35, 36, 37, 38, 39, 40, 41, 42], [((.exit 1), [])], []⟩
noncomputable def z24u2p : XPat := ⟨.normal, [(.ptr 0 []), (.tv (.sl YEvent)), (.tv (.int .i64)), (.tv (.int .i64))], [(.box (.cons (.row 1) (.cons (.tv (.int .i64)) .nil))), (.row (.int .u8) false)]⟩
noncomputable def z24u2x : List XPat := [⟨(.exit 1), [], [(.box (.cons (.row 1) (.cons (.tv (.int .i64)) .nil))), (.row (.int .u8) false)]⟩]
noncomputable def blocks_Putu2 (k : Nat) : Nat → (List (DEvent)) → (Int) → (Int) → (Int) → (List (Int)) → Option ((Unit) × (((Unit) × ((Int) × (Unit))) × (List (Int))))
  | 0, _, _, _, _, _ => none
  | n + 1, x0, x1, x2, x3, x4 =>
    bif (decide (x2 < x1)) then
      bif (inR x2 (List.length x0)) then
        Option.bind (tcoef_Row k (List.getD x0 (Int.toNat x2) (false, (0, (0, ()))))) fun (v83 : (List UInt8) × ((Bool) × (Unit))) =>
        Option.bind (outbits_Writer_Add k v83.1 x3 x4) fun (v84 : (Int) × (((Unit) × ((Int) × (Unit))) × (List (Int)))) =>
        Option.bind (blocks_Putu2 k n x0 x1 (wr .i64 (x2 + 1)) v84.2.1.2.1 v84.2.2) fun r => some r
      else
        none
    else
    some ((), (((), (x3, ())), x4))
noncomputable def z24u2b : AC :=
  (.seq (.region [(iO 31 (.bin .lss (.t 30) (.t 29)))])
  (.seq (.cond (.t 31)
  .skip
  (.exit 1))
  (.seq (.block 2 (.seq (.region [(iO 32 (.iads YEvent (.t 28) (.t 30))),
    (iO 33 (.load true 3 (.t 32))),
    (iO 10 (.alloc 78 (.tv YEvent))),
    (iS (.store 3 none (.t 10) (.t 33)))])
  (.seq (.region [(iO 35 (.load true 3 (.t 10))),
    (iC 36 71 [((.t 35), some YEvent)]),
    (iO 34 (.mv (.t 36))),
    (iO 37 (.ext (.t 34) 0)),
    (iO 38 (.ext (.t 34) 1)),
    (iO 11 (.mv (.t 37))),
    (iO 12 (.mv (.t 38)))])
  (.region [(iO 39 (.mv (.t 0))),
    (iO 40 (.mv (.t 11))),
    (iC 41 23 [((.t 39), none), ((.t 40), none)])]))))
  (.region [(iO 42 (.bin .add (.t 30) (nI 1))),
    (iO 30 (.mv (.t 42)))]))))
noncomputable def z24u2t (k n : Nat) (d : z24u2p.D) : Option (XD z24u2x) := blocks_Putu2 k n d.1.2.1 d.1.2.2.1 d.1.2.2.2 d.2.1.2.1 d.2.2
theorem z24u2_k (k : Nat) : UOK P GL (mkU z24u2p z24u2x (z24u2t k k) nilU) z24u2d true z24u2b :=
  loop_typed (ud := z24u2d) (body := z24u2b) (uorc := uorT (z24U2 k)) hmo (T23_ok k).oo (z24U2_k k) (AllU.no (by kernel_rfl)) (t := z24u2t k) (fun d => by kernel_rfl) (fun n d => by kernel_rfl) k
noncomputable def z24U3 (k : Nat) : List (Nat × Ent) := (2, ⟨mkU z24u2p z24u2x (z24u2t k k) nilU⟩) :: z24U2 k
theorem z24U3_k (k : Nat) : UTab (z24U3 k) := (z24U2_k k).cons (mkU_nat nilU_nat)
noncomputable def blocks_Put (k : Nat) (x0 : Bool) (x1 : Int) (x2 : List (DEvent)) (x3 : Int) (x4 : List (Int)) : Option ((Int) × (((Unit) × ((Int) × (Unit))) × (List (Int)))) :=
  Option.bind (blocks_may k x0 x1 x2) fun (v38 : Bool) =>
  bif (!v38) then
    some (7, (((), (x3, ())), x4))
  else
  Option.bind (blocks_Putu0 k x1 (decide (x1 = 128))) fun (v39 : Int) =>
  Option.bind (blocks_Putu1 k v39 x0 x3 x4) fun (v50 : (Unit) × (((Unit) × ((Int) × (Unit))) × (List (Int)))) =>
  Option.bind (blocks_Putu2 k k x2 ((List.length x2 : Nat) : Int) 0 v50.2.1.2.1 v50.2.2) fun (v85 : (Unit) × (((Unit) × ((Int) × (Unit))) × (List (Int)))) =>
  some (0, (((), (v85.2.1.2.1, ())), v85.2.2))
noncomputable def z24b : AC :=
  (.seq (.region [(iO 8 (.mv (nI 0)))])
  (.seq (.block 0 (.seq (.region [(iO 14 (.mv (.t 0))),
    (iO 15 (.eqp false (.t 14) (.c .nilp))),
    (iO 13 (.mv (.t 15)))])
  (.cond (.t 13)
  (.seq (.region [(iO 8 .bad)])
    .ret)
  (.seq (.region [(iO 17 (.mv (.t 1))),
      (iO 18 (.mv (.t 2))),
      (iO 19 (.mv (.t 3))),
      (iC 20 69 [((.t 17), none), ((.t 18), none), ((.t 19), some (.sl YEvent))]),
      (iO 21 (.un .not (.t 20))),
      (iO 16 (.mv (.t 21)))])
    (.cond (.t 16)
    (.seq (.region [(iO 8 (.mv (nI 7)))])
      .ret)
    .skip)))))
  (.seq (.seq (.region [(iO 22 (.mv (.t 2))),
    (iO 23 (.bin .eql (.t 22) (nI 128)))])
  (.unit 0 z24u0d false z24u0b))
  (.seq (.seq (.region [(iO 24 (.mv (.t 1)))])
  (.unit 1 z24u1d false z24u1b))
  (.seq (.seq (.region [(iO 28 (.mv (.t 3))),
    (iO 29 (.len (.t 28))),
    (iO 30 (.mv (nI 0)))])
  (.block 1 (.unit 2 z24u2d true z24u2b)))
  (.seq (.region [(iO 8 (.mv (nI 0)))])
  .ret))))))
noncomputable def z24f : FDef := ⟨4, 43, [.tmp 8 none], z24b⟩
noncomputable def z24p : XPat := ⟨.normal, [(.ptr 0 []), (.tv .bool), (.tv (.int .i64)), (.tv (.sl YEvent))], [(.box (.cons (.row 1) (.cons (.tv (.int .i64)) .nil))), (.row (.int .u8) false)]⟩
noncomputable def z24x : List XPat := [⟨.ret, [(.tv (.int .i64))], [(.box (.cons (.row 1) (.cons (.tv (.int .i64)) .nil))), (.row (.int .u8) false)]⟩]
noncomputable def z24t (k : Nat) (d : z24p.D) : Option (XD z24x) := blocks_Put k d.1.2.1 d.1.2.2.1 d.1.2.2.2 d.2.1.2.1 d.2.2
noncomputable def z24_e (k : Nat) : UEntry := mkU z24p z24x (z24t k) nilU
theorem z24_n (k : Nat) : UNat (z24_e k) := mkU_nat nilU_nat
theorem z24_fu (k : Nat) : FU P GL 45 (z24_e k) :=
  fn_typed (uorc := uorT (z24U3 k)) hmo (T23_ok k).oo (z24U3_k k) (fd := z24f) (AllU.seq (AllU.no (by kernel_rfl)) (AllU.seq (AllU.no (by kernel_rfl)) (AllU.seq (AllU.seq (AllU.no (by kernel_rfl)) (AllU.unit (uorc := uorT (z24U3 k)) (u := 0) (z24u0_k k))) (AllU.seq (AllU.seq (AllU.no (by kernel_rfl)) (AllU.unit (uorc := uorT (z24U3 k)) (u := 1) (z24u1_k k))) (AllU.seq (AllU.seq (AllU.no (by kernel_rfl)) (AllU.block (AllU.unit (uorc := uorT (z24U3 k)) (u := 2) (z24u2_k k)))) (AllU.no (by kernel_rfl))))))) (fn := Tryd.f45) (by kernel_rfl) (by kernel_rfl) (fun d => by kernel_rfl) FU_nil
noncomputable def T24 (k : Nat) : List (Nat × Ent) := (45, ⟨z24_e k⟩) :: T23 k
theorem T24_ok (k : Nat) : TabOK P GL (T24 k) := (T23_ok k).cons (z24_fu k) (z24_n k)
/-! ### overspill.cellout.Right -/
noncomputable def z25U0 (_ : Nat) : List (Nat × Ent) := []
theorem z25U0_k (k : Nat) : UTab (z25U0 k) := UTab.nil
noncomputable def z25u0d : UDef := ⟨[(3, none)], [8, 9, 10, 11, 12, 13, 14, 15], [(.normal, [(15, none)])], []⟩
noncomputable def z25u0p : XPat := ⟨.normal, [(.ptr 0 [])], [(.box (.tv YCell))]⟩
noncomputable def z25u0x : List XPat := [⟨.normal, [(.tv .bool)], [(.box (.tv YCell))]⟩]
noncomputable def cellout_Rightu0 (k : Nat) (x0 : DCell) : Option ((Bool) × (DCell)) :=
  bif (decide (x0.1 < 0)) then
    some (true, x0)
  else
  some ((decide ((64 : Int) < x0.1)), x0)
noncomputable def z25u0b : AC :=
  (.region [(iO 8 (.fad 0 0 (.t 3))),
    (iO 9 (.load false 1 (.t 8))),
    (iO 10 (.bin .lss (.t 9) (nI 0))),
    (iO 11 (.mv (.t 10))),
    ⟨some 12, some (3, 11, false), (.op (.fad 0 0 (.t 3))), []⟩,
    ⟨some 13, some (3, 11, false), (.op (.load false 1 (.t 12))), []⟩,
    ⟨some 14, some (3, 11, false), (.op (.bin .gtr (.t 13) (nI 64))), []⟩,
    (iO 15 (.pick (.t 11) (.c (.tv .bool (true : Bool))) (.t 14)))])
noncomputable def z25u0t (k : Nat) (d : z25u0p.D) : Option (XD z25u0x) := cellout_Rightu0 k d.2
theorem z25u0_k (k : Nat) : UOK P GL (mkU z25u0p z25u0x (z25u0t k) nilU) z25u0d false z25u0b :=
  unit_typed (ud := z25u0d) (body := z25u0b) (uorc := uorT (z25U0 k)) hmo (T24_ok k).oo (z25U0_k k) (AllU.no (by kernel_rfl)) (fun d => by kernel_rfl)
noncomputable def z25U1 (k : Nat) : List (Nat × Ent) := (0, ⟨mkU z25u0p z25u0x (z25u0t k) nilU⟩) :: z25U0 k
theorem z25U1_k (k : Nat) : UTab (z25U1 k) := (z25U0_k k).cons (mkU_nat nilU_nat)
noncomputable def z25u1d : UDef := ⟨[(0, none), (3, none)], [4, 18, 19, 20, 21, 22], [(.normal, [(4, none)])], []⟩
noncomputable def z25u1p : XPat := ⟨.normal, [(.tv .bool), (.ptr 0 [])], [(.box (.tv YCell))]⟩
noncomputable def z25u1x : List XPat := [⟨.normal, [(.tv .bool)], [(.box (.tv YCell))]⟩]
noncomputable def cellout_Rightu1 (k : Nat) (x0 : Bool) (x1 : DCell) : Option ((Bool) × (DCell)) :=
  bif x0 then
    Option.bind (cellout_bare k x1) fun (v10 : Bool) =>
    some (v10, x1)
  else
  some (false, x1)
noncomputable def z25u1b : AC :=
  (.region [(iO 18 (.mv (.t 0))),
    (iO 19 (.mv (.t 18))),
    ⟨some 20, some (1, 19, true), (.op (.load true 18 (.t 3))), []⟩,
    ⟨some 21, some (1, 19, true), (.call (.c (.fn 46 .nil .nil)) [((.t 20), some YCell)]), []⟩,
    (iO 22 (.pick (.t 19) (.t 21) (.c (.tv .bool (false : Bool))))),
    (iO 4 (.mv (.t 22)))])
noncomputable def z25u1t (k : Nat) (d : z25u1p.D) : Option (XD z25u1x) := cellout_Rightu1 k d.1.1 d.2
theorem z25u1_k (k : Nat) : UOK P GL (mkU z25u1p z25u1x (z25u1t k) nilU) z25u1d false z25u1b :=
  unit_typed (ud := z25u1d) (body := z25u1b) (uorc := uorT (z25U1 k)) hmo (T24_ok k).oo (z25U1_k k) (AllU.no (by kernel_rfl)) (fun d => by kernel_rfl)
noncomputable def z25U2 (k : Nat) : List (Nat × Ent) := (1, ⟨mkU z25u1p z25u1x (z25u1t k) nilU⟩) :: z25U1 k
theorem z25U2_k (k : Nat) : UTab (z25U2 k) := (z25U1_k k).cons (mkU_nat nilU_nat)
noncomputable def z25u2d : UDef := ⟨[(0, none), (3, none)], [23, 24, 25, 26, 27, 28, 29, 30, 31, 32, 33, 34, 35, 36, 37, 38, 39, 40], [(.normal, [(40, none)])], []⟩
noncomputable def z25u2p : XPat := ⟨.normal, [(.tv .bool), (.ptr 0 [])], [(.box (.tv YCell))]⟩
noncomputable def z25u2x : List XPat := [⟨.normal, [(.tv .bool)], [(.box (.tv YCell))]⟩]
noncomputable def cellout_Rightu2 (k : Nat) (x0 : Bool) (x1 : DCell) : Option ((Bool) × (DCell)) :=
  Option.bind (cellout_intra k x1.2.2.1) fun (v13 : Bool) =>
  bif (!v13) then
    bif (!x0) then
      some (true, x1)
    else
    bif (!(decide (x1.2.2.1 = 0))) then
      some ((!(decide (x1.2.2.1 = 1))), x1)
    else
    some (false, x1)
  else
  some (false, x1)
noncomputable def z25u2b : AC :=
  (.region [(iO 23 (.fad 2 2 (.t 3))),
    (iO 24 (.load false 1 (.t 23))),
    (iC 25 39 [((.t 24), none)]),
    (iO 26 (.un .not (.t 25))),
    (iO 27 (.mv (.t 26))),
    ⟨some 28, some (4, 27, true), (.op (.mv (.t 0))), []⟩,
    ⟨some 29, some (4, 27, true), (.op (.un .not (.t 28))), []⟩,
    ⟨some 30, some (4, 27, true), (.op (.mv (.t 29))), []⟩,
    ⟨some 31, some (7, 30, false), (.op (.fad 2 2 (.t 3))), []⟩,
    ⟨some 32, some (7, 30, false), (.op (.load false 1 (.t 31))), []⟩,
    ⟨some 33, some (7, 30, false), (.op (.bin .neq (.t 32) (nI 0))), []⟩,
    ⟨some 34, some (7, 30, false), (.op (.mv (.t 33))), []⟩,
    ⟨some 35, some (11, 34, true), (.op (.fad 2 2 (.t 3))), []⟩,
    ⟨some 36, some (11, 34, true), (.op (.load false 1 (.t 35))), []⟩,
    ⟨some 37, some (11, 34, true), (.op (.bin .neq (.t 36) (nI 1))), []⟩,
    ⟨some 38, some (7, 30, false), (.op (.pick (.t 34) (.t 37) (.c (.tv .bool (false : Bool))))), []⟩,
    ⟨some 39, some (4, 27, true), (.op (.pick (.t 30) (.c (.tv .bool (true : Bool))) (.t 38))), []⟩,
    (iO 40 (.pick (.t 27) (.t 39) (.c (.tv .bool (false : Bool)))))])
noncomputable def z25u2t (k : Nat) (d : z25u2p.D) : Option (XD z25u2x) := cellout_Rightu2 k d.1.1 d.2
theorem z25u2_k (k : Nat) : UOK P GL (mkU z25u2p z25u2x (z25u2t k) nilU) z25u2d false z25u2b :=
  unit_typed (ud := z25u2d) (body := z25u2b) (uorc := uorT (z25U2 k)) hmo (T24_ok k).oo (z25U2_k k) (AllU.no (by kernel_rfl)) (fun d => by kernel_rfl)
noncomputable def z25U3 (k : Nat) : List (Nat × Ent) := (2, ⟨mkU z25u2p z25u2x (z25u2t k) nilU⟩) :: z25U2 k
theorem z25U3_k (k : Nat) : UTab (z25U3 k) := (z25U2_k k).cons (mkU_nat nilU_nat)
noncomputable def z25u3d : UDef := ⟨[(3, none), (6, none)], [47, 48, 49, 50, 51, 52, 53, 54, 55, 56, 57, 58, 59, 60, 61, 62, 63, 64, 65], [(.normal, [(65, none)])], []⟩
noncomputable def z25u3p : XPat := ⟨.normal, [(.ptr 0 []), (.tv .bool)], [(.box (.tv YCell))]⟩
noncomputable def z25u3x : List XPat := [⟨.normal, [(.tv .bool)], [(.box (.tv YCell))]⟩]
noncomputable def cellout_Rightu3 (k : Nat) (x0 : Bool) (x1 : DCell) : Option ((Bool) × (DCell)) :=
  Option.bind (cellout_stepped k x1.2.2.1) fun (v22 : Bool) =>
  bif (true ^^ (x0 == v22)) then
    some (true, x1)
  else
  bif (!x0) then
    bif (!(decide (x1.2.2.2.1 = 0))) then
      some (true, x1)
    else
    Option.bind (cellout_vector k x1) fun (v23 : Bool) =>
    some ((!v23), x1)
  else
  Option.bind (cellout_vector k x1) fun (v24 : Bool) =>
  some ((!v24), x1)
noncomputable def z25u3b : AC :=
  (.region [(iO 47 (.mv (.t 6))),
    (iO 48 (.fad 2 2 (.t 3))),
    (iO 49 (.load false 1 (.t 48))),
    (iC 50 41 [((.t 49), none)]),
    (iO 51 (.eqb true (.t 47) (.t 50))),
    (iO 52 (.mv (.t 51))),
    ⟨some 53, some (5, 52, false), (.op (.mv (.t 6))), []⟩,
    ⟨some 54, some (5, 52, false), (.op (.un .not (.t 53))), []⟩,
    ⟨some 55, some (5, 52, false), (.op (.mv (.t 54))), []⟩,
    ⟨some 56, some (8, 55, true), (.op (.fad 3 3 (.t 3))), []⟩,
    ⟨some 57, some (8, 55, true), (.op (.load false 1 (.t 56))), []⟩,
    ⟨some 58, some (8, 55, true), (.op (.bin .neq (.t 57) (nI 0))), []⟩,
    ⟨some 59, some (5, 52, false), (.op (.pick (.t 55) (.t 58) (.c (.tv .bool (false : Bool))))), []⟩,
    (iO 60 (.pick (.t 52) (.c (.tv .bool (true : Bool))) (.t 59))),
    (iO 61 (.mv (.t 60))),
    ⟨some 62, some (14, 61, false), (.op (.load true 18 (.t 3))), []⟩,
    ⟨some 63, some (14, 61, false), (.call (.c (.fn 47 .nil .nil)) [((.t 62), some YCell)]), []⟩,
    ⟨some 64, some (14, 61, false), (.op (.un .not (.t 63))), []⟩,
    (iO 65 (.pick (.t 61) (.c (.tv .bool (true : Bool))) (.t 64)))])
noncomputable def z25u3t (k : Nat) (d : z25u3p.D) : Option (XD z25u3x) := cellout_Rightu3 k d.1.2 d.2
theorem z25u3_k (k : Nat) : UOK P GL (mkU z25u3p z25u3x (z25u3t k) nilU) z25u3d false z25u3b :=
  unit_typed (ud := z25u3d) (body := z25u3b) (uorc := uorT (z25U3 k)) hmo (T24_ok k).oo (z25U3_k k) (AllU.no (by kernel_rfl)) (fun d => by kernel_rfl)
noncomputable def z25U4 (k : Nat) : List (Nat × Ent) := (3, ⟨mkU z25u3p z25u3x (z25u3t k) nilU⟩) :: z25U3 k
theorem z25U4_k (k : Nat) : UTab (z25U4 k) := (z25U3_k k).cons (mkU_nat nilU_nat)
noncomputable def z25u4d : UDef := ⟨[(3, none), (66, none)], [4, 7, 66, 67, 68, 69, 70, 71, 72, 73, 74, 75, 76, 77, 78, 79, 80, 81, 82, 83], [(.ret, [(4, none)]), ((.exit 0), [])], []⟩
noncomputable def z25u4p : XPat := ⟨.normal, [(.ptr 0 []), (.tv (.int .i64))], [(.box (.tv YCell))]⟩
noncomputable def z25u4x : List XPat := [⟨.ret, [(.tv .bool)], [(.box (.tv YCell))]⟩, ⟨(.exit 0), [], [(.box (.tv YCell))]⟩]
noncomputable def cellout_Rightu4 (k : Nat) : Nat → (Int) → (DCell) → Option (((Bool) × (DCell)) ⊕ ((Unit) × (DCell)))
  | 0, _, _ => none
  | n + 1, x0, x1 =>
    bif (decide (x0 < 6)) then
      Option.bind (outbits_New k) fun (v87 : (Unit) × (((Unit) × ((Int) × (Unit))) × (List (Int)))) =>
      Option.bind (cellout_intra k x1.2.2.1) fun (v88 : Bool) =>
      bif (inR x0 6) then
        bif (inR x0 6) then
          Option.bind (blocks_Put k v88 (List.getD x1.2.2.2.2.2.1 (Int.toNat x0) 0) (List.getD x1.2.2.2.2.2.2.1 (Int.toNat x0) ([] : List (DEvent))) v87.2.1.2.1 v87.2.2) fun (v89 : (Int) × (((Unit) × ((Int) × (Unit))) × (List (Int)))) =>
          bif (!(decide (v89.1 = 0))) then
            some (Sum.inl (false, x1))
          else
          Option.bind (cellout_Rightu4 k n (wr .i64 (x0 + 1)) x1) fun r => Sum.elim (fun w => some (Sum.inl w)) (fun w => some (Sum.inr w)) r
        else
          none
      else
        none
    else
    some (Sum.inr ((), x1))
noncomputable def z25u4b : AC :=
  (.seq (.region [(iO 67 (.bin .lss (.t 66) (nI 6)))])
  (.seq (.cond (.t 67)
  .skip
  (.exit 0))
  (.seq (.block 1 (.seq (.region [(iO 68 (.mv (.t 66))),
    (iO 7 (.mv (.t 68)))])
  (.seq (.draw [(iC 69 17 []),
    (iO 70 (.fad 2 2 (.t 3))),
    (iOa 71 (.load false 1 (.t 70)) [1]),
    (iCa 72 39 [((.t 71), none)] [0, 1, 2]),
    (iO 73 (.mv (.t 7))),
    (iO 74 (.fad 5 6 (.t 3))),
    (iOa 75 (.iad 6 1 (.t 74) (.t 73)) [4, 5]),
    (iOa 76 (.load false 1 (.t 75)) [4, 5, 6]),
    (iO 77 (.mv (.t 7))),
    (iO 78 (.fad 6 12 (.t 3))),
    (iOa 79 (.iad 6 1 (.t 78) (.t 77)) [8, 9]),
    (iOa 80 (.load false 1 (.t 79)) [8, 9, 10]),
    (iCa 81 45 [((.t 69), none), ((.t 72), none), ((.t 76), none), ((.t 80), some (.sl YEvent))] (rg [0, 12])),
    (iOa 82 (.bin .neq (.t 81) (nI 0)) (rg [0, 13]))])
  (.cond (.t 82)
  (.seq (.region [(iO 4 (.mv (.c (.tv .bool (false : Bool)))))])
    .ret)
  .skip))))
  (.region [(iO 83 (.bin .add (.t 66) (nI 1))),
    (iO 66 (.mv (.t 83)))]))))
noncomputable def z25u4t (k n : Nat) (d : z25u4p.D) : Option (XD z25u4x) := cellout_Rightu4 k n d.1.2 d.2
theorem z25u4_k (k : Nat) : UOK P GL (mkU z25u4p z25u4x (z25u4t k k) nilU) z25u4d true z25u4b :=
  loop_typed (ud := z25u4d) (body := z25u4b) (uorc := uorT (z25U4 k)) hmo (T24_ok k).oo (z25U4_k k) (AllU.no (by kernel_rfl)) (t := z25u4t k) (fun d => by kernel_rfl) (fun n d => by kernel_rfl) k
noncomputable def z25U5 (k : Nat) : List (Nat × Ent) := (4, ⟨mkU z25u4p z25u4x (z25u4t k k) nilU⟩) :: z25U4 k
theorem z25U5_k (k : Nat) : UTab (z25U5 k) := (z25U4_k k).cons (mkU_nat nilU_nat)
noncomputable def cellout_Right (k : Nat) (x0 : Bool) (x1 : DCell) : Option (Bool) :=
  Option.bind (cellout_Rightu0 k x1) fun (v6 : (Bool) × (DCell)) =>
  bif v6.1 then
    some false
  else
  bif v6.2.2.1 then
    Option.bind (cellout_Rightu1 k x0 v6.2) fun (v11 : (Bool) × (DCell)) =>
    some v11.1
  else
  Option.bind (cellout_Rightu2 k x0 v6.2) fun (v14 : (Bool) × (DCell)) =>
  bif v14.1 then
    some false
  else
  Option.bind (steps_Row k v14.2.2.2.2.1) fun (v15 : (List UInt8) × ((Bool) × (Unit))) =>
  Option.bind (cellout_Rightu3 k v15.2.1 v14.2) fun (v25 : (Bool) × (DCell)) =>
  bif v25.1 then
    some false
  else
  Option.bind (cellout_Rightu4 k k 0 v25.2) fun r =>
  Sum.elim (fun (v90 : (Bool) × (DCell)) =>
    some v90.1)
    (fun (v91 : (Unit) × (DCell)) =>
    some true) r
noncomputable def z25b : AC :=
  (.seq (.region [(iO 3 (.box (.t 1))),
    (iO 4 (.mv (.c (.tv .bool (false : Bool)))))])
  (.seq (.seq (.unit 0 z25u0d false z25u0b)
  (.cond (.t 15)
  (.seq (.region [(iO 4 (.mv (.c (.tv .bool (false : Bool)))))])
    .ret)
  .skip))
  (.seq (.seq (.region [(iO 16 (.fad 1 1 (.t 3))),
    (iO 17 (.load false 1 (.t 16)))])
  (.cond (.t 17)
  (.seq (.unit 1 z25u1d false z25u1b)
    .ret)
  .skip))
  (.seq (.seq (.unit 2 z25u2d false z25u2b)
  (.cond (.t 40)
  (.seq (.region [(iO 4 (.mv (.c (.tv .bool (false : Bool)))))])
    .ret)
  .skip))
  (.seq (.seq (.region [(iO 42 (.fad 3 3 (.t 3))),
    (iO 43 (.load false 1 (.t 42))),
    (iC 44 42 [((.t 43), none)]),
    (iO 41 (.mv (.t 44))),
    (iO 45 (.ext (.t 41) 0)),
    (iO 46 (.ext (.t 41) 1)),
    (iO 5 (.mv (.t 45))),
    (iO 6 (.mv (.t 46)))])
  (.seq (.unit 3 z25u3d false z25u3b)
  (.cond (.t 65)
  (.seq (.region [(iO 4 (.mv (.c (.tv .bool (false : Bool)))))])
    .ret)
  .skip)))
  (.seq (.seq (.region [(iO 66 (.mv (nI 0)))])
  (.block 0 (.unit 4 z25u4d true z25u4b)))
  (.seq (.region [(iO 4 (.mv (.c (.tv .bool (true : Bool)))))])
  .ret)))))))
noncomputable def z25f : FDef := ⟨2, 84, [.tmp 4 none], z25b⟩
noncomputable def z25p : XPat := ⟨.normal, [(.tv .bool), (.tv YCell)], []⟩
noncomputable def z25x : List XPat := [⟨.ret, [(.tv .bool)], []⟩]
noncomputable def z25t (k : Nat) (d : z25p.D) : Option (XD z25x) := cellout_Right k d.1 d.2
noncomputable def z25_e (k : Nat) : UEntry := mkU z25p z25x (z25t k) nilU
theorem z25_n (k : Nat) : UNat (z25_e k) := mkU_nat nilU_nat
theorem z25_fu (k : Nat) : FU P GL 19 (z25_e k) :=
  fn_typed (uorc := uorT (z25U5 k)) hmo (T24_ok k).oo (z25U5_k k) (fd := z25f) (AllU.seq (AllU.no (by kernel_rfl)) (AllU.seq (AllU.seq (AllU.unit (uorc := uorT (z25U5 k)) (u := 0) (z25u0_k k)) (AllU.no (by kernel_rfl))) (AllU.seq (AllU.seq (AllU.no (by kernel_rfl)) (AllU.cond (AllU.seq (AllU.unit (uorc := uorT (z25U5 k)) (u := 1) (z25u1_k k)) (AllU.no (by kernel_rfl))) (AllU.no (by kernel_rfl)))) (AllU.seq (AllU.seq (AllU.unit (uorc := uorT (z25U5 k)) (u := 2) (z25u2_k k)) (AllU.no (by kernel_rfl))) (AllU.seq (AllU.seq (AllU.no (by kernel_rfl)) (AllU.seq (AllU.unit (uorc := uorT (z25U5 k)) (u := 3) (z25u3_k k)) (AllU.no (by kernel_rfl)))) (AllU.seq (AllU.seq (AllU.no (by kernel_rfl)) (AllU.block (AllU.unit (uorc := uorT (z25U5 k)) (u := 4) (z25u4_k k)))) (AllU.no (by kernel_rfl)))))))) (fn := Tryd.f19) (by kernel_rfl) (by kernel_rfl) (fun d => by kernel_rfl) FU_nil
noncomputable def T25 (k : Nat) : List (Nat × Ent) := (19, ⟨z25_e k⟩) :: T24 k
theorem T25_ok (k : Nat) : TabOK P GL (T25 k) := (T24_ok k).cons (z25_fu k) (z25_n k)
/-! ### overspill.mcbpc.row -/
noncomputable def z26U0 (_ : Nat) : List (Nat × Ent) := []
theorem z26U0_k (k : Nat) : UTab (z26U0 k) := UTab.nil
noncomputable def mcbpc_row (k : Nat) (x0 : Bool) (x1 : Int) : Option (List UInt8) :=
  bif (!x0) then
    bif (decide (x1 = 3)) then
      some ([49, 32, 48, 48, 49, 32, 48, 49, 48, 32, 48, 49, 49] : List UInt8)
    else
    bif (decide (x1 = 4)) then
      some ([48, 48, 48, 49, 32, 48, 48, 48, 48, 48, 49, 32, 48, 48, 48, 48, 49, 48, 32, 48, 48, 48, 48, 49, 49] : List UInt8)
    else
    bif (decide (x1 = 5)) then
      some ([48, 48, 48, 48, 48, 48, 48, 48, 49] : List UInt8)
    else
    some ([] : List UInt8)
  else
  bif (decide (x1 = 0)) then
    some ([49, 32, 48, 48, 49, 49, 32, 48, 48, 49, 48, 32, 48, 48, 48, 49, 48, 49] : List UInt8)
  else
  bif (decide (x1 = 1)) then
    some ([48, 49, 49, 32, 48, 48, 48, 48, 49, 49, 49, 32, 48, 48, 48, 48, 49, 49, 48, 32, 48, 48, 48, 48, 48, 48, 49, 48, 49] : List UInt8)
  else
  bif (decide (x1 = 2)) then
    some ([48, 49, 48, 32, 48, 48, 48, 48, 49, 48, 49, 32, 48, 48, 48, 48, 49, 48, 48, 32, 48, 48, 48, 48, 48, 49, 48, 49] : List UInt8)
  else
  bif (decide (x1 = 3)) then
    some ([48, 48, 48, 49, 49, 32, 48, 48, 48, 48, 48, 49, 48, 48, 32, 48, 48, 48, 48, 48, 48, 49, 49, 32, 48, 48, 48, 48, 48, 49, 49] : List UInt8)
  else
  bif (decide (x1 = 4)) then
    some ([48, 48, 48, 49, 48, 48, 32, 48, 48, 48, 48, 48, 48, 49, 48, 48, 32, 48, 48, 48, 48, 48, 48, 48, 49, 49, 32, 48, 48, 48, 48, 48, 48, 48, 49, 48] : List UInt8)
  else
  bif (decide (x1 = 5)) then
    some ([48, 48, 48, 48, 48, 48, 48, 48, 49] : List UInt8)
  else
  some ([] : List UInt8)
noncomputable def z26b : AC :=
  (.seq (.region [(iO 4 (.mv (.c (.tv .str (([] : List UInt8) : List UInt8)))))])
  (.seq (.seq (.region [(iO 5 (.mv (.t 0))),
    (iO 6 (.un .not (.t 5)))])
  (.cond (.t 6)
  (.seq (.seq (.region [(iO 7 (.mv (.t 1)))])
    (.block 0 (.seq (.region [(iO 9 (.bin .eql (.t 7) (nI 3))),
      (iO 8 (.mv (.t 9)))])
    (.cond (.t 8)
    (.seq (.region [(iO 4 (.mv (.c (.tv .str (([49, 32, 48, 48, 49, 32, 48, 49, 48, 32, 48, 49, 49] : List UInt8) : List UInt8)))))])
      .ret)
    (.seq (.region [(iO 11 (.bin .eql (.t 7) (nI 4))),
        (iO 10 (.mv (.t 11)))])
      (.cond (.t 10)
      (.seq (.region [(iO 4 (.mv (.c (.tv .str (([48, 48, 48, 49, 32, 48, 48, 48, 48, 48, 49, 32, 48, 48, 48, 48, 49, 48, 32, 48, 48, 48, 48, 49, 49] : List UInt8) : List UInt8)))))])
        .ret)
      (.seq (.region [(iO 13 (.bin .eql (.t 7) (nI 5))),
          (iO 12 (.mv (.t 13)))])
        (.cond (.t 12)
        (.seq (.region [(iO 4 (.mv (.c (.tv .str (([48, 48, 48, 48, 48, 48, 48, 48, 49] : List UInt8) : List UInt8)))))])
          .ret)
        .skip))))))))
    (.seq (.region [(iO 4 (.mv (.c (.tv .str (([] : List UInt8) : List UInt8)))))])
    .ret))
  .skip))
  (.seq (.seq (.region [(iO 14 (.mv (.t 1)))])
  (.block 1 (.seq (.region [(iO 16 (.bin .eql (.t 14) (nI 0))),
    (iO 15 (.mv (.t 16)))])
  (.cond (.t 15)
  (.seq (.region [(iO 4 (.mv (.c (.tv .str (([49, 32, 48, 48, 49, 49, 32, 48, 48, 49, 48, 32, 48, 48, 48, 49, 48, 49] : List UInt8) : List UInt8)))))])
    .ret)
  (.seq (.region [(iO 18 (.bin .eql (.t 14) (nI 1))),
      (iO 17 (.mv (.t 18)))])
    (.cond (.t 17)
    (.seq (.region [(iO 4 (.mv (.c (.tv .str (([48, 49, 49, 32, 48, 48, 48, 48, 49, 49, 49, 32, 48, 48, 48, 48, 49, 49, 48, 32, 48, 48, 48, 48, 48, 48, 49, 48, 49] : List UInt8) : List UInt8)))))])
      .ret)
    (.seq (.region [(iO 20 (.bin .eql (.t 14) (nI 2))),
        (iO 19 (.mv (.t 20)))])
      (.cond (.t 19)
      (.seq (.region [(iO 4 (.mv (.c (.tv .str (([48, 49, 48, 32, 48, 48, 48, 48, 49, 48, 49, 32, 48, 48, 48, 48, 49, 48, 48, 32, 48, 48, 48, 48, 48, 49, 48, 49] : List UInt8) : List UInt8)))))])
        .ret)
      (.seq (.region [(iO 22 (.bin .eql (.t 14) (nI 3))),
          (iO 21 (.mv (.t 22)))])
        (.cond (.t 21)
        (.seq (.region [(iO 4 (.mv (.c (.tv .str (([48, 48, 48, 49, 49, 32, 48, 48, 48, 48, 48, 49, 48, 48, 32, 48, 48, 48, 48, 48, 48, 49, 49, 32, 48, 48, 48, 48, 48, 49, 49] : List UInt8) : List UInt8)))))])
          .ret)
        (.seq (.region [(iO 24 (.bin .eql (.t 14) (nI 4))),
            (iO 23 (.mv (.t 24)))])
          (.cond (.t 23)
          (.seq (.region [(iO 4 (.mv (.c (.tv .str (([48, 48, 48, 49, 48, 48, 32, 48, 48, 48, 48, 48, 48, 49, 48, 48, 32, 48, 48, 48, 48, 48, 48, 48, 49, 49, 32, 48, 48, 48, 48, 48, 48, 48, 49, 48] : List UInt8) : List UInt8)))))])
            .ret)
          (.seq (.region [(iO 26 (.bin .eql (.t 14) (nI 5))),
              (iO 25 (.mv (.t 26)))])
            (.cond (.t 25)
            (.seq (.region [(iO 4 (.mv (.c (.tv .str (([48, 48, 48, 48, 48, 48, 48, 48, 49] : List UInt8) : List UInt8)))))])
              .ret)
            .skip))))))))))))))
  (.seq (.region [(iO 4 (.mv (.c (.tv .str (([] : List UInt8) : List UInt8)))))])
  .ret))))
noncomputable def z26f : FDef := ⟨2, 27, [.tmp 4 none], z26b⟩
noncomputable def z26p : XPat := ⟨.normal, [(.tv .bool), (.tv (.int .i64))], []⟩
noncomputable def z26x : List XPat := [⟨.ret, [(.tv .str)], []⟩]
noncomputable def z26t (k : Nat) (d : z26p.D) : Option (XD z26x) := mcbpc_row k d.1 d.2
noncomputable def z26_e (k : Nat) : UEntry := mkU z26p z26x (z26t k) nilU
theorem z26_n (k : Nat) : UNat (z26_e k) := mkU_nat nilU_nat
theorem z26_fu (k : Nat) : FU P GL 89 (z26_e k) :=
  fn_typed (uorc := uorT (z26U0 k)) hmo (T25_ok k).oo (z26U0_k k) (fd := z26f) (AllU.no (by kernel_rfl)) (fn := Tryd.f89) (by kernel_rfl) (by kernel_rfl) (fun d => by kernel_rfl) FU_nil
noncomputable def T26 (k : Nat) : List (Nat × Ent) := (89, ⟨z26_e k⟩) :: T25 k
theorem T26_ok (k : Nat) : TabOK P GL (T26 k) := (T25_ok k).cons (z26_fu k) (z26_n k)
/-! ### strings.Fields -/
noncomputable def z27U0 (_ : Nat) : List (Nat × Ent) := []
theorem z27U0_k (k : Nat) : UTab (z27U0 k) := UTab.nil
noncomputable def z27u0d : UDef := ⟨[(0, none), (3, none), (4, none), (5, none), (6, none)], [3, 4, 5, 6, 7, 8, 13, 14, 15, 16, 17, 18, 19, 20, 21, 22, 23, 24, 25, 26, 27, 28, 29, 30, 31, 32, 33, 34, 35], [((.exit 0), [(3, none), (5, none)])], []⟩
noncomputable def z27u0p : XPat := ⟨.normal, [(.tv .str), (.tv (.int .i64)), (.tv (.int .i64)), (.tv (.int .u8)), (.tv (.int .i64))], []⟩
noncomputable def z27u0x : List XPat := [⟨(.exit 0), [(.tv (.int .i64)), (.tv (.int .u8))], []⟩]
noncomputable def strings_Fieldsu0 (k : Nat) : Nat → (List UInt8) → (Int) → (Int) → (Int) → (Int) → Option ((Int) × (Int))
  | 0, _, _, _, _, _ => none
  | n + 1, x0, x1, x2, x3, x4 =>
    bif (decide (x4 < ((List.length x0 : Nat) : Int))) then
      bif (inR x4 (List.length x0)) then
        bif (inR ((UInt8.toNat (List.getD x0 (Int.toNat x4) 0) : Nat) : Int) 256) then
          Option.bind (strings_Fieldsu0 k n x0 (wr .i64 (x1 + (bitop .and .i64 x2 (bitop .xor .i64 (-1) (wr .i64 (List.getD tbl3 (Int.toNat ((UInt8.toNat (List.getD x0 (Int.toNat x4) 0) : Nat) : Int)) 0)))))) (wr .i64 (List.getD tbl3 (Int.toNat ((UInt8.toNat (List.getD x0 (Int.toNat x4) 0) : Nat) : Int)) 0)) (bitop .or .u8 x3 ((UInt8.toNat (List.getD x0 (Int.toNat x4) 0) : Nat) : Int)) (wr .i64 (x4 + 1))) fun r => some r
        else
          none
      else
        none
    else
    some (x1, x3)
noncomputable def z27u0b : AC :=
  (.seq (.seq (.region [(iO 13 (.mv (.t 6))),
    (iO 14 (.mv (.t 0))),
    (iO 15 (.lens (.t 14))),
    (iO 16 (.bin .lss (.t 13) (.t 15)))])
  (.cond (.t 16)
  .skip
  (.exit 0)))
  (.seq (.block 1 (.seq (.region [(iO 19 (.mv (.t 0))),
    (iO 20 (.mv (.t 6))),
    (iO 21 (.ixs (.t 19) (.t 20))),
    (iO 7 (.mv (.t 21)))])
  (.seq (.region [(iO 22 (.mv (.t 5))),
    (iO 23 (.mv (.t 7))),
    (iO 24 (.bin .or (.t 22) (.t 23))),
    (iO 5 (.mv (.t 24)))])
  (.seq (.region [(iO 25 (.mv (.t 7))),
    (iO 26 (.iad 256 1 (.g 3) (.t 25))),
    (iO 27 (.load false 1 (.t 26))),
    (iO 28 (.conv .i64 (.t 27))),
    (iO 8 (.mv (.t 28)))])
  (.seq (.region [(iO 29 (.mv (.t 3))),
    (iO 30 (.mv (.t 4))),
    (iO 31 (.mv (.t 8))),
    (iO 32 (.un .xor (.t 31))),
    (iO 33 (.bin .and (.t 30) (.t 32))),
    (iO 34 (.bin .add (.t 29) (.t 33))),
    (iO 3 (.mv (.t 34)))])
  (.region [(iO 35 (.mv (.t 8))),
    (iO 4 (.mv (.t 35)))]))))))
  (.region [(iO 17 (.mv (.t 6))),
    (iO 18 (.bin .add (.t 17) (nI 1))),
    (iO 6 (.mv (.t 18)))])))
noncomputable def z27u0t (k n : Nat) (d : z27u0p.D) : Option (XD z27u0x) := strings_Fieldsu0 k n d.1 d.2.1 d.2.2.1 d.2.2.2.1 d.2.2.2.2
theorem z27u0_k (k : Nat) : UOK P GL (mkU z27u0p z27u0x (z27u0t k k) nilU) z27u0d true z27u0b :=
  loop_typed (ud := z27u0d) (body := z27u0b) (uorc := uorT (z27U0 k)) hmo (T26_ok k).oo (z27U0_k k) (AllU.no (by kernel_rfl)) (t := z27u0t k) (fun d => by kernel_rfl) (fun n d => by kernel_rfl) k
noncomputable def z27U1 (k : Nat) : List (Nat × Ent) := (0, ⟨mkU z27u0p z27u0x (z27u0t k k) nilU⟩) :: z27U0 k
theorem z27U1_k (k : Nat) : UTab (z27U1 k) := (z27U0_k k).cons (mkU_nat nilU_nat)
noncomputable def z27u1d : UDef := ⟨[(0, none), (12, none)], [12, 42, 43, 44, 45, 46, 47, 48, 49, 50, 51, 52, 53, 54, 55], [((.exit 2), [(12, none)])], []⟩
noncomputable def z27u1p : XPat := ⟨.normal, [(.tv .str), (.tv (.int .i64))], []⟩
noncomputable def z27u1x : List XPat := [⟨(.exit 2), [(.tv (.int .i64))], []⟩]
noncomputable def strings_Fieldsu1 (k : Nat) : Nat → (List UInt8) → (Int) → Option (Int)
  | 0, _, _ => none
  | n + 1, x0, x1 =>
    bif (decide (x1 < ((List.length x0 : Nat) : Int))) then
      bif (inR x1 (List.length x0)) then
        bif (inR ((UInt8.toNat (List.getD x0 (Int.toNat x1) 0) : Nat) : Int) 256) then
          bif (!(decide ((List.getD tbl3 (Int.toNat ((UInt8.toNat (List.getD x0 (Int.toNat x1) 0) : Nat) : Int)) 0) = 0))) then
            Option.bind (strings_Fieldsu1 k n x0 (wr .i64 (x1 + 1))) fun r => some r
          else
          some x1
        else
          none
      else
        none
    else
    some x1
noncomputable def z27u1b : AC :=
  (.seq (.seq (.region [(iO 42 (.mv (.t 12))),
    (iO 43 (.mv (.t 0))),
    (iO 44 (.lens (.t 43))),
    (iO 45 (.bin .lss (.t 42) (.t 44))),
    (iO 46 (.mv (.t 45))),
    ⟨some 47, some (4, 46, true), (.op (.mv (.t 0))), []⟩,
    ⟨some 48, some (4, 46, true), (.op (.mv (.t 12))), []⟩,
    ⟨some 49, some (4, 46, true), (.op (.ixs (.t 47) (.t 48))), []⟩,
    ⟨some 50, some (4, 46, true), (.op (.iad 256 1 (.g 3) (.t 49))), []⟩,
    ⟨some 51, some (4, 46, true), (.op (.load false 1 (.t 50))), []⟩,
    ⟨some 52, some (4, 46, true), (.op (.bin .neq (.t 51) (.c (.tv (.int .u8) (0 : Int))))), []⟩,
    (iO 53 (.pick (.t 46) (.t 52) (.c (.tv .bool (false : Bool)))))])
  (.cond (.t 53)
  .skip
  (.exit 2)))
  (.block 3 (.region [(iO 54 (.mv (.t 12))),
    (iO 55 (.bin .add (.t 54) (nI 1))),
    (iO 12 (.mv (.t 55)))])))
noncomputable def z27u1t (k n : Nat) (d : z27u1p.D) : Option (XD z27u1x) := strings_Fieldsu1 k n d.1 d.2
theorem z27u1_k (k : Nat) : UOK P GL (mkU z27u1p z27u1x (z27u1t k k) nilU) z27u1d true z27u1b :=
  loop_typed (ud := z27u1d) (body := z27u1b) (uorc := uorT (z27U1 k)) hmo (T26_ok k).oo (z27U1_k k) (AllU.no (by kernel_rfl)) (t := z27u1t k) (fun d => by kernel_rfl) (fun n d => by kernel_rfl) k
noncomputable def z27U2 (k : Nat) : List (Nat × Ent) := (1, ⟨mkU z27u1p z27u1x (z27u1t k k) nilU⟩) :: z27U1 k
theorem z27U2_k (k : Nat) : UTab (z27U2 k) := (z27U1_k k).cons (mkU_nat nilU_nat)
noncomputable def z27u2d : UDef := ⟨[(0, none), (12, none)], [12, 80, 81, 82, 83, 84, 85, 86, 87, 88, 89, 90, 91, 92, 93], [((.exit 6), [(12, none)])], []⟩
noncomputable def z27u2p : XPat := ⟨.normal, [(.tv .str), (.tv (.int .i64))], []⟩
noncomputable def z27u2x : List XPat := [⟨(.exit 6), [(.tv (.int .i64))], []⟩]
noncomputable def strings_Fieldsu2 (k : Nat) : Nat → (List UInt8) → (Int) → Option (Int)
  | 0, _, _ => none
  | n + 1, x0, x1 =>
    bif (decide (x1 < ((List.length x0 : Nat) : Int))) then
      bif (inR x1 (List.length x0)) then
        bif (inR ((UInt8.toNat (List.getD x0 (Int.toNat x1) 0) : Nat) : Int) 256) then
          bif (!(decide ((List.getD tbl3 (Int.toNat ((UInt8.toNat (List.getD x0 (Int.toNat x1) 0) : Nat) : Int)) 0) = 0))) then
            Option.bind (strings_Fieldsu2 k n x0 (wr .i64 (x1 + 1))) fun r => some r
          else
          some x1
        else
          none
      else
        none
    else
    some x1
noncomputable def z27u2b : AC :=
  (.seq (.seq (.region [(iO 80 (.mv (.t 12))),
    (iO 81 (.mv (.t 0))),
    (iO 82 (.lens (.t 81))),
    (iO 83 (.bin .lss (.t 80) (.t 82))),
    (iO 84 (.mv (.t 83))),
    ⟨some 85, some (4, 84, true), (.op (.mv (.t 0))), []⟩,
    ⟨some 86, some (4, 84, true), (.op (.mv (.t 12))), []⟩,
    ⟨some 87, some (4, 84, true), (.op (.ixs (.t 85) (.t 86))), []⟩,
    ⟨some 88, some (4, 84, true), (.op (.iad 256 1 (.g 3) (.t 87))), []⟩,
    ⟨some 89, some (4, 84, true), (.op (.load false 1 (.t 88))), []⟩,
    ⟨some 90, some (4, 84, true), (.op (.bin .neq (.t 89) (.c (.tv (.int .u8) (0 : Int))))), []⟩,
    (iO 91 (.pick (.t 84) (.t 90) (.c (.tv .bool (false : Bool)))))])
  (.cond (.t 91)
  .skip
  (.exit 6)))
  (.block 7 (.region [(iO 92 (.mv (.t 12))),
    (iO 93 (.bin .add (.t 92) (nI 1))),
    (iO 12 (.mv (.t 93)))])))
noncomputable def z27u2t (k n : Nat) (d : z27u2p.D) : Option (XD z27u2x) := strings_Fieldsu2 k n d.1 d.2
theorem z27u2_k (k : Nat) : UOK P GL (mkU z27u2p z27u2x (z27u2t k k) nilU) z27u2d true z27u2b :=
  loop_typed (ud := z27u2d) (body := z27u2b) (uorc := uorT (z27U2 k)) hmo (T26_ok k).oo (z27U2_k k) (AllU.no (by kernel_rfl)) (t := z27u2t k) (fun d => by kernel_rfl) (fun n d => by kernel_rfl) k
noncomputable def z27U3 (k : Nat) : List (Nat × Ent) := (2, ⟨mkU z27u2p z27u2x (z27u2t k k) nilU⟩) :: z27U2 k
theorem z27U3_k (k : Nat) : UTab (z27U3 k) := (z27U2_k k).cons (mkU_nat nilU_nat)
noncomputable def z27u3d : UDef := ⟨[(0, none), (9, none), (10, none), (11, none), (12, none)], [10, 11, 12, 57, 58, 59, 60, 61, 62, 63, 64, 65, 66, 67, 68, 69, 70, 71, 72, 73, 74, 75, 76, 77, 78, 79, 80, 81, 82, 83, 84, 85, 86, 87, 88, 89, 90, 91, 92, 93, 94], [((.exit 4), [(9, none), (10, none), (11, none)])], []⟩
noncomputable def z27u3p : XPat := ⟨.normal, [(.tv .str), (.row 0), (.tv (.int .i64)), (.tv (.int .i64)), (.tv (.int .i64))], [(.row .str false)]⟩
noncomputable def z27u3x : List XPat := [⟨(.exit 4), [(.row 0), (.tv (.int .i64)), (.tv (.int .i64))], [(.row .str false)]⟩]
noncomputable def strings_Fieldsu3 (k : Nat) : Nat → (List UInt8) → (Int) → (Int) → (Int) → (List (List UInt8)) → Option (((Unit) × ((Int) × (Int))) × (List (List UInt8)))
  | 0, _, _, _, _, _ => none
  | n + 1, x0, x1, x2, x3, x4 =>
    bif (decide (x3 < ((List.length x0 : Nat) : Int))) then
      bif (inR x3 (List.length x0)) then
        bif (inR ((UInt8.toNat (List.getD x0 (Int.toNat x3) 0) : Nat) : Int) 256) then
          bif (decide ((List.getD tbl3 (Int.toNat ((UInt8.toNat (List.getD x0 (Int.toNat x3) 0) : Nat) : Int)) 0) = 0)) then
            Option.bind (strings_Fieldsu3 k n x0 x1 x2 (wr .i64 (x3 + 1)) x4) fun r => some r
          else
          bif (decide ((0 : Int) ≤ x2 ∧ x2 ≤ x3 ∧ x3 ≤ (((List.length x0) : Nat) : Int))) then
            bif (inR x1 (List.length x4)) then
              Option.bind (strings_Fieldsu2 k k x0 (wr .i64 (x3 + 1))) fun (v98 : Int) =>
              Option.bind (strings_Fieldsu3 k n x0 (wr .i64 (x1 + 1)) v98 v98 (List.set x4 (Int.toNat x1) (List.drop (Int.toNat x2) (List.take (Int.toNat x3) x0)))) fun r => some r
            else
              none
          else
            none
        else
          none
      else
        none
    else
    some (((), (x1, x2)), x4)
noncomputable def z27u3b : AC :=
  (.seq (.seq (.region [(iO 57 (.mv (.t 12))),
    (iO 58 (.mv (.t 0))),
    (iO 59 (.lens (.t 58))),
    (iO 60 (.bin .lss (.t 57) (.t 59)))])
  (.cond (.t 60)
  .skip
  (.exit 4)))
  (.block 5 (.seq (.seq (.region [(iO 61 (.mv (.t 0))),
    (iO 62 (.mv (.t 12))),
    (iO 63 (.ixs (.t 61) (.t 62))),
    (iO 64 (.iad 256 1 (.g 3) (.t 63))),
    (iO 65 (.load false 1 (.t 64))),
    (iO 66 (.bin .eql (.t 65) (.c (.tv (.int .u8) (0 : Int)))))])
  (.cond (.t 66)
  (.seq (.region [(iO 67 (.mv (.t 12))),
      (iO 68 (.bin .add (.t 67) (nI 1))),
      (iO 12 (.mv (.t 68)))])
    (.exit 5))
  .skip))
  (.seq (.region [(iO 69 (.mv (.t 9))),
    (iO 70 (.mv (.t 10))),
    (iO 71 (.mv (.t 0))),
    (iO 72 (.mv (.t 11))),
    (iO 73 (.mv (.t 12))),
    (iO 74 (.slis (.t 71) (some (.t 72)) (some (.t 73)))),
    (iO 75 (.iads .str (.t 69) (.t 70))),
    (iS (.store 1 none (.t 75) (.t 74)))])
  (.seq (.region [(iO 76 (.mv (.t 10))),
    (iO 77 (.bin .add (.t 76) (nI 1))),
    (iO 10 (.mv (.t 77)))])
  (.seq (.region [(iO 78 (.mv (.t 12))),
    (iO 79 (.bin .add (.t 78) (nI 1))),
    (iO 12 (.mv (.t 79)))])
  (.seq (.block 6 (.unit 2 z27u2d true z27u2b))
  (.region [(iO 94 (.mv (.t 12))),
    (iO 11 (.mv (.t 94)))]))))))))
noncomputable def z27u3t (k n : Nat) (d : z27u3p.D) : Option (XD z27u3x) := strings_Fieldsu3 k n d.1.1 d.1.2.2.1 d.1.2.2.2.1 d.1.2.2.2.2 d.2
theorem z27u3_k (k : Nat) : UOK P GL (mkU z27u3p z27u3x (z27u3t k k) nilU) z27u3d true z27u3b :=
  loop_typed (ud := z27u3d) (body := z27u3b) (uorc := uorT (z27U3 k)) hmo (T26_ok k).oo (z27U3_k k) (AllU.seq (AllU.no (by kernel_rfl)) (AllU.block (AllU.seq (AllU.no (by kernel_rfl)) (AllU.seq (AllU.no (by kernel_rfl)) (AllU.seq (AllU.no (by kernel_rfl)) (AllU.seq (AllU.no (by kernel_rfl)) (AllU.seq (AllU.block (AllU.unit (uorc := uorT (z27U3 k)) (u := 2) (z27u2_k k))) (AllU.no (by kernel_rfl))))))))) (t := z27u3t k) (fun d => by kernel_rfl) (fun n d => by kernel_rfl) k
noncomputable def z27U4 (k : Nat) : List (Nat × Ent) := (3, ⟨mkU z27u3p z27u3x (z27u3t k k) nilU⟩) :: z27U3 k
theorem z27U4_k (k : Nat) : UTab (z27U4 k) := (z27U3_k k).cons (mkU_nat nilU_nat)
noncomputable def strings_Fields (k : Nat) (x0 : List UInt8) : Option (List (List UInt8)) :=
  Option.bind (strings_Fieldsu0 k k x0 0 1 0 0) fun (v95 : (Int) × (Int)) =>
  bif (decide ((128 : Int) ≤ v95.2)) then
    none
  else
  bif (decide ((0 : Int) ≤ v95.1 ∧ v95.1 ≤ v95.1 ∧ v95.1 ≤ ((rowMax : Nat) : Int))) then
    Option.bind (strings_Fieldsu1 k k x0 0) fun (v96 : Int) =>
    Option.bind (strings_Fieldsu3 k k x0 0 v96 v96 (List.replicate (Int.toNat v95.1) ([] : List UInt8))) fun (v99 : ((Unit) × ((Int) × (Int))) × (List (List UInt8))) =>
    bif (decide (v99.1.2.2 < ((List.length x0 : Nat) : Int))) then
      bif (decide ((0 : Int) ≤ v99.1.2.2 ∧ v99.1.2.2 ≤ (((List.length x0) : Nat) : Int))) then
        bif (inR v99.1.2.1 (List.length v99.2)) then
          some (List.set v99.2 (Int.toNat v99.1.2.1) (List.drop (Int.toNat v99.1.2.2) (List.take (List.length x0) x0)))
        else
          none
      else
        none
    else
    some v99.2
  else
    none
noncomputable def z27b : AC :=
  (.seq (.region [(iO 2 (.nrow .str))])
  (.seq (.region [(iO 3 (.mv (nI 0)))])
  (.seq (.region [(iO 4 (.mv (nI 1)))])
  (.seq (.region [(iO 5 (.mv (.c (.tv (.int .u8) (0 : Int)))))])
  (.seq (.seq (.region [(iO 6 (.mv (nI 0)))])
  (.block 0 (.unit 0 z27u0d true z27u0b)))
  (.seq (.seq (.region [(iO 36 (.mv (.t 5))),
    (iO 37 (.bin .geq (.t 36) (.c (.tv (.int .u8) (128 : Int)))))])
  (.cond (.t 37)
  (.seq (.region [(iO 38 (.mv (.t 0))),
      (iO 39 .bad),
      (iO 2 .bad)])
    .ret)
  .skip))
  (.seq (.region [(iO 40 (.mv (.t 3))),
    (iO 41 (.mkslice .str (.t 40) (.t 40))),
    (iO 9 (.mv (.t 41)))])
  (.seq (.region [(iO 10 (.mv (nI 0)))])
  (.seq (.region [(iO 11 (.mv (nI 0)))])
  (.seq (.region [(iO 12 (.mv (nI 0)))])
  (.seq (.block 2 (.unit 1 z27u1d true z27u1b))
  (.seq (.region [(iO 56 (.mv (.t 12))),
    (iO 11 (.mv (.t 56)))])
  (.seq (.block 4 (.unit 3 z27u3d true z27u3b))
  (.seq (.seq (.region [(iO 95 (.mv (.t 11))),
    (iO 96 (.mv (.t 0))),
    (iO 97 (.lens (.t 96))),
    (iO 98 (.bin .lss (.t 95) (.t 97)))])
  (.cond (.t 98)
  (.region [(iO 99 (.mv (.t 9))),
      (iO 100 (.mv (.t 10))),
      (iO 101 (.mv (.t 0))),
      (iO 102 (.mv (.t 11))),
      (iO 103 (.slis (.t 101) (some (.t 102)) none)),
      (iO 104 (.iads .str (.t 99) (.t 100))),
      (iS (.store 1 none (.t 104) (.t 103)))])
  .skip))
  (.seq (.region [(iO 105 (.mv (.t 9))),
    (iO 2 (.mv (.t 105)))])
  .ret)))))))))))))))
noncomputable def z27f : FDef := ⟨1, 106, [.tmp 2 (some (.sl .str))], z27b⟩
noncomputable def z27p : XPat := ⟨.normal, [(.tv .str)], []⟩
noncomputable def z27x : List XPat := [⟨.ret, [(.tv (.sl .str))], []⟩]
noncomputable def z27t (k : Nat) (d : z27p.D) : Option (XD z27x) := strings_Fields k d
noncomputable def z27_e (k : Nat) : UEntry := mkU z27p z27x (z27t k) nilU
theorem z27_n (k : Nat) : UNat (z27_e k) := mkU_nat nilU_nat
theorem z27_fu (k : Nat) : FU P GL 88 (z27_e k) :=
  fn_typed (uorc := uorT (z27U4 k)) hmo (T26_ok k).oo (z27U4_k k) (fd := z27f) (AllU.seq (AllU.no (by kernel_rfl)) (AllU.seq (AllU.no (by kernel_rfl)) (AllU.seq (AllU.no (by kernel_rfl)) (AllU.seq (AllU.no (by kernel_rfl)) (AllU.seq (AllU.seq (AllU.no (by kernel_rfl)) (AllU.block (AllU.unit (uorc := uorT (z27U4 k)) (u := 0) (z27u0_k k)))) (AllU.seq (AllU.no (by kernel_rfl)) (AllU.seq (AllU.no (by kernel_rfl)) (AllU.seq (AllU.no (by kernel_rfl)) (AllU.seq (AllU.no (by kernel_rfl)) (AllU.seq (AllU.no (by kernel_rfl)) (AllU.seq (AllU.block (AllU.unit (uorc := uorT (z27U4 k)) (u := 1) (z27u1_k k))) (AllU.seq (AllU.no (by kernel_rfl)) (AllU.seq (AllU.block (AllU.unit (uorc := uorT (z27U4 k)) (u := 3) (z27u3_k k))) (AllU.no (by kernel_rfl))))))))))))))) (fn := Tryd.f88) (by kernel_rfl) (by kernel_rfl) (fun d => by kernel_rfl) FU_nil
noncomputable def T27 (k : Nat) : List (Nat × Ent) := (88, ⟨z27_e k⟩) :: T26 k
theorem T27_ok (k : Nat) : TabOK P GL (T27 k) := (T26_ok k).cons (z27_fu k) (z27_n k)
/-! ### overspill.mcbpc.Row -/
noncomputable def z28U0 (_ : Nat) : List (Nat × Ent) := []
theorem z28U0_k (k : Nat) : UTab (z28U0 k) := UTab.nil
noncomputable def z28u0d : UDef := ⟨[(2, none), (8, none)], [13, 14, 15, 16, 17, 18, 19, 20], [(.normal, [(20, none)])], []⟩
noncomputable def z28u0p : XPat := ⟨.normal, [(.tv (.int .i64)), (.tv (.sl .str))], []⟩
noncomputable def z28u0x : List XPat := [⟨.normal, [(.tv .bool)], []⟩]
noncomputable def mcbpc_Rowu0 (k : Nat) (x0 : Int) (x1 : List (List UInt8)) : Option (Bool) :=
  bif (decide (x0 < 0)) then
    some true
  else
  some (decide (((List.length x1 : Nat) : Int) ≤ x0))
noncomputable def z28u0b : AC :=
  (.region [(iO 13 (.mv (.t 2))),
    (iO 14 (.bin .lss (.t 13) (nI 0))),
    (iO 15 (.mv (.t 14))),
    ⟨some 16, some (2, 15, false), (.op (.mv (.t 2))), []⟩,
    ⟨some 17, some (2, 15, false), (.op (.mv (.t 8))), []⟩,
    ⟨some 18, some (2, 15, false), (.op (.len (.t 17))), []⟩,
    ⟨some 19, some (2, 15, false), (.op (.bin .geq (.t 16) (.t 18))), []⟩,
    (iO 20 (.pick (.t 15) (.c (.tv .bool (true : Bool))) (.t 19)))])
noncomputable def z28u0t (k : Nat) (d : z28u0p.D) : Option (XD z28u0x) := mcbpc_Rowu0 k d.1 d.2
theorem z28u0_k (k : Nat) : UOK P GL (mkU z28u0p z28u0x (z28u0t k) nilU) z28u0d false z28u0b :=
  unit_typed (ud := z28u0d) (body := z28u0b) (uorc := uorT (z28U0 k)) hmo (T27_ok k).oo (z28U0_k k) (AllU.no (by kernel_rfl)) (fun d => by kernel_rfl)
noncomputable def z28U1 (k : Nat) : List (Nat × Ent) := (0, ⟨mkU z28u0p z28u0x (z28u0t k) nilU⟩) :: z28U0 k
theorem z28U1_k (k : Nat) : UTab (z28U1 k) := (z28U0_k k).cons (mkU_nat nilU_nat)
noncomputable def mcbpc_Row (k : Nat) (x0 : Bool) (x1 : Int) (x2 : Int) : Option ((List UInt8) × ((Bool) × (Unit))) :=
  Option.bind (mcbpc_row k x0 x1) fun (v94 : List UInt8) =>
  Option.bind (strings_Fields k v94) fun (v100 : List (List UInt8)) =>
  Option.bind (mcbpc_Rowu0 k x2 v100) fun (v101 : Bool) =>
  bif v101 then
    some (([] : List UInt8), (false, ()))
  else
  bif (inR x2 (List.length v100)) then
    some ((List.getD v100 (Int.toNat x2) ([] : List UInt8)), (true, ()))
  else
    none
noncomputable def z28b : AC :=
  (.seq (.region [(iO 6 (.mv (.c (.tv .str (([] : List UInt8) : List UInt8))))),
    (iO 7 (.mv (.c (.tv .bool (false : Bool)))))])
  (.seq (.region [(iO 9 (.mv (.t 0))),
    (iO 10 (.mv (.t 1))),
    (iC 11 89 [((.t 9), none), ((.t 10), none)]),
    (iC 12 88 [((.t 11), none)]),
    (iO 8 (.mv (.t 12)))])
  (.seq (.seq (.unit 0 z28u0d false z28u0b)
  (.cond (.t 20)
  (.seq (.region [(iO 6 (.mv (.c (.tv .str (([] : List UInt8) : List UInt8))))),
      (iO 7 (.mv (.c (.tv .bool (false : Bool)))))])
    .ret)
  .skip))
  (.seq (.region [(iO 21 (.mv (.t 8))),
    (iO 22 (.mv (.t 2))),
    (iO 23 (.iads .str (.t 21) (.t 22))),
    (iO 24 (.load false 1 (.t 23))),
    (iO 6 (.mv (.t 24))),
    (iO 7 (.mv (.c (.tv .bool (true : Bool)))))])
  .ret))))
noncomputable def z28f : FDef := ⟨3, 25, [.tmp 6 none, .tmp 7 none], z28b⟩
noncomputable def z28p : XPat := ⟨.normal, [(.tv .bool), (.tv (.int .i64)), (.tv (.int .i64))], []⟩
noncomputable def z28x : List XPat := [⟨.ret, [(.tup (.cons (.tv .str) (.cons (.tv .bool) .nil)))], []⟩]
noncomputable def z28t (k : Nat) (d : z28p.D) : Option (XD z28x) := mcbpc_Row k d.1 d.2.1 d.2.2
noncomputable def z28_e (k : Nat) : UEntry := mkU z28p z28x (z28t k) nilU
theorem z28_n (k : Nat) : UNat (z28_e k) := mkU_nat nilU_nat
theorem z28_fu (k : Nat) : FU P GL 64 (z28_e k) :=
  fn_typed (uorc := uorT (z28U1 k)) hmo (T27_ok k).oo (z28U1_k k) (fd := z28f) (AllU.seq (AllU.no (by kernel_rfl)) (AllU.seq (AllU.no (by kernel_rfl)) (AllU.seq (AllU.seq (AllU.unit (uorc := uorT (z28U1 k)) (u := 0) (z28u0_k k)) (AllU.no (by kernel_rfl))) (AllU.no (by kernel_rfl))))) (fn := Tryd.f64) (by kernel_rfl) (by kernel_rfl) (fun d => by kernel_rfl) FU_nil
noncomputable def T28 (k : Nat) : List (Nat × Ent) := (64, ⟨z28_e k⟩) :: T27 k
theorem T28_ok (k : Nat) : TabOK P GL (T28 k) := (T27_ok k).cons (z28_fu k) (z28_n k)
/-! ### overspill.cellout.coded -/
noncomputable def z29U0 (_ : Nat) : List (Nat × Ent) := []
theorem z29U0_k (k : Nat) : UTab (z29U0 k) := UTab.nil
noncomputable def z29u0d : UDef := ⟨[(3, none), (7, none), (8, none)], [3, 5, 8, 9, 10, 11, 12, 13, 14, 15, 16, 17, 18], [((.exit 0), [(3, none)])], []⟩
noncomputable def z29u0p : XPat := ⟨.normal, [(.tv (.int .i64)), (.tv (.arr 6 (.sl YEvent))), (.tv (.int .i64))], []⟩
noncomputable def z29u0x : List XPat := [⟨(.exit 0), [(.tv (.int .i64))], []⟩]
noncomputable def cellout_codedu0 (k : Nat) : Nat → (Int) → (List (List (DEvent))) → (Int) → Option (Int)
  | 0, _, _, _ => none
  | n + 1, x0, x1, x2 =>
    bif (decide (x2 < 6)) then
      bif (inR x2 6) then
        bif (decide ((0 : Int) < ((List.length (List.getD x1 (Int.toNat x2) ([] : List (DEvent))) : Nat) : Int))) then
          Option.bind (cellout_codedu0 k n (wr .i64 ((wr .i64 (x0 * 2)) + 1)) x1 (wr .i64 (x2 + 1))) fun r => some r
        else
        Option.bind (cellout_codedu0 k n (wr .i64 (x0 * 2)) x1 (wr .i64 (x2 + 1))) fun r => some r
      else
        none
    else
    some x0
noncomputable def z29u0b : AC :=
  (.seq (.region [(iO 9 (.bin .lss (.t 8) (nI 6)))])
  (.seq (.cond (.t 9)
  .skip
  (.exit 0))
  (.seq (.block 1 (.seq (.region [(iO 10 (.ix 6 1 false (.t 7) (.t 8))),
    (iO 5 (.mv (.t 10)))])
  (.seq (.region [(iO 11 (.mv (.t 3))),
    (iO 12 (.bin .mul (.t 11) (nI 2))),
    (iO 3 (.mv (.t 12)))])
  (.seq (.region [(iO 13 (.mv (.t 5))),
    (iO 14 (.len (.t 13))),
    (iO 15 (.bin .gtr (.t 14) (nI 0)))])
  (.cond (.t 15)
  (.region [(iO 16 (.mv (.t 3))),
      (iO 17 (.bin .add (.t 16) (nI 1))),
      (iO 3 (.mv (.t 17)))])
  .skip)))))
  (.region [(iO 18 (.bin .add (.t 8) (nI 1))),
    (iO 8 (.mv (.t 18)))]))))
noncomputable def z29u0t (k n : Nat) (d : z29u0p.D) : Option (XD z29u0x) := cellout_codedu0 k n d.1 d.2.1 d.2.2
theorem z29u0_k (k : Nat) : UOK P GL (mkU z29u0p z29u0x (z29u0t k k) nilU) z29u0d true z29u0b :=
  loop_typed (ud := z29u0d) (body := z29u0b) (uorc := uorT (z29U0 k)) hmo (T28_ok k).oo (z29U0_k k) (AllU.no (by kernel_rfl)) (t := z29u0t k) (fun d => by kernel_rfl) (fun n d => by kernel_rfl) k
noncomputable def z29U1 (k : Nat) : List (Nat × Ent) := (0, ⟨mkU z29u0p z29u0x (z29u0t k k) nilU⟩) :: z29U0 k
theorem z29U1_k (k : Nat) : UTab (z29U1 k) := (z29U0_k k).cons (mkU_nat nilU_nat)
noncomputable def cellout_coded (k : Nat) (x0 : DCell) : Option (Int) :=
  Option.bind (cellout_codedu0 k k 0 x0.2.2.2.2.2.2.1 0) fun (v107 : Int) =>
  some v107
noncomputable def z29b : AC :=
  (.seq (.region [(iO 1 (.box (.t 0))),
    (iO 2 (.mv (nI 0)))])
  (.seq (.region [(iO 3 (.mv (nI 0)))])
  (.seq (.seq (.region [(iO 6 (.fad 6 12 (.t 1))),
    (iO 7 (.load true 6 (.t 6))),
    (iO 8 (.mv (nI 0)))])
  (.block 0 (.unit 0 z29u0d true z29u0b)))
  (.seq (.region [(iO 19 (.mv (.t 3))),
    (iO 2 (.mv (.t 19)))])
  .ret))))
noncomputable def z29f : FDef := ⟨1, 20, [.tmp 2 none], z29b⟩
noncomputable def z29p : XPat := ⟨.normal, [(.tv YCell)], []⟩
noncomputable def z29x : List XPat := [⟨.ret, [(.tv (.int .i64))], []⟩]
noncomputable def z29t (k : Nat) (d : z29p.D) : Option (XD z29x) := cellout_coded k d
noncomputable def z29_e (k : Nat) : UEntry := mkU z29p z29x (z29t k) nilU
theorem z29_n (k : Nat) : UNat (z29_e k) := mkU_nat nilU_nat
theorem z29_fu (k : Nat) : FU P GL 40 (z29_e k) :=
  fn_typed (uorc := uorT (z29U1 k)) hmo (T28_ok k).oo (z29U1_k k) (fd := z29f) (AllU.seq (AllU.no (by kernel_rfl)) (AllU.seq (AllU.no (by kernel_rfl)) (AllU.seq (AllU.seq (AllU.no (by kernel_rfl)) (AllU.block (AllU.unit (uorc := uorT (z29U1 k)) (u := 0) (z29u0_k k)))) (AllU.no (by kernel_rfl))))) (fn := Tryd.f40) (by kernel_rfl) (by kernel_rfl) (fun d => by kernel_rfl) FU_nil
noncomputable def T29 (k : Nat) : List (Nat × Ent) := (40, ⟨z29_e k⟩) :: T28 k
theorem T29_ok (k : Nat) : TabOK P GL (T29 k) := (T28_ok k).cons (z29_fu k) (z29_n k)
/-! ### overspill.cellout.head -/
noncomputable def z30U0 (_ : Nat) : List (Nat × Ent) := []
theorem z30U0_k (k : Nat) : UTab (z30U0 k) := UTab.nil
noncomputable def z30u0d : UDef := ⟨[(6, none), (11, none)], [6], [(.normal, [(6, none)])], []⟩
noncomputable def z30u0p : XPat := ⟨.normal, [(.tv .str), (.tv .bool)], []⟩
noncomputable def z30u0x : List XPat := [⟨.normal, [(.tv .str)], []⟩]
noncomputable def cellout_headu0 (k : Nat) (x0 : List UInt8) (x1 : Bool) : Option (List UInt8) :=
  bif x1 then
    some ([48] : List UInt8)
  else
  some x0
noncomputable def z30u0b : AC :=
  (.cond (.t 11)
  (.region [(iO 6 (.mv (.c (.tv .str (([48] : List UInt8) : List UInt8)))))])
  .skip)
noncomputable def z30u0t (k : Nat) (d : z30u0p.D) : Option (XD z30u0x) := cellout_headu0 k d.1 d.2
theorem z30u0_k (k : Nat) : UOK P GL (mkU z30u0p z30u0x (z30u0t k) nilU) z30u0d false z30u0b :=
  unit_typed (ud := z30u0d) (body := z30u0b) (uorc := uorT (z30U0 k)) hmo (T29_ok k).oo (z30U0_k k) (AllU.no (by kernel_rfl)) (fun d => by kernel_rfl)
noncomputable def z30U1 (k : Nat) : List (Nat × Ent) := (0, ⟨mkU z30u0p z30u0x (z30u0t k) nilU⟩) :: z30U0 k
theorem z30U1_k (k : Nat) : UTab (z30U1 k) := (z30U0_k k).cons (mkU_nat nilU_nat)
noncomputable def z30u1d : UDef := ⟨[(0, none), (6, none), (7, none), (18, none), (19, none)], [19, 20, 21, 22, 23, 24, 25, 26], [((.exit 0), [])], []⟩
noncomputable def z30u1p : XPat := ⟨.normal, [(.ptr 0 []), (.tv .str), (.tv .str), (.tv (.int .i64)), (.tv (.int .i64))], [(.box (.cons (.row 1) (.cons (.tv (.int .i64)) .nil))), (.row (.int .u8) false)]⟩
noncomputable def z30u1x : List XPat := [⟨(.exit 0), [], [(.box (.cons (.row 1) (.cons (.tv (.int .i64)) .nil))), (.row (.int .u8) false)]⟩]
noncomputable def cellout_headu1 (k : Nat) : Nat → (List UInt8) → (List UInt8) → (Int) → (Int) → (Int) → (List (Int)) → Option ((Unit) × (((Unit) × ((Int) × (Unit))) × (List (Int))))
  | 0, _, _, _, _, _, _ => none
  | n + 1, x0, x1, x2, x3, x4, x5 =>
    bif (decide (x3 < x2)) then
      bif (decide ((List.length x0) + (List.length x1) ≤ strMax)) then
        Option.bind (outbits_Writer_Add k (x0 ++ x1) x4 x5) fun (v104 : (Int) × (((Unit) × ((Int) × (Unit))) × (List (Int)))) =>
        Option.bind (cellout_headu1 k n x0 x1 x2 (wr .i64 (x3 + 1)) v104.2.1.2.1 v104.2.2) fun r => some r
      else
        none
    else
    some ((), (((), (x4, ())), x5))
noncomputable def z30u1b : AC :=
  (.seq (.region [(iO 20 (.bin .lss (.t 19) (.t 18)))])
  (.seq (.cond (.t 20)
  .skip
  (.exit 0))
  (.seq (.block 1 (.region [(iO 21 (.mv (.t 0))),
    (iO 22 (.mv (.t 6))),
    (iO 23 (.mv (.t 7))),
    (iO 24 (.bin .add (.t 22) (.t 23))),
    (iC 25 23 [((.t 21), none), ((.t 24), none)])]))
  (.region [(iO 26 (.bin .add (.t 19) (nI 1))),
    (iO 19 (.mv (.t 26)))]))))
noncomputable def z30u1t (k n : Nat) (d : z30u1p.D) : Option (XD z30u1x) := cellout_headu1 k n d.1.2.1 d.1.2.2.1 d.1.2.2.2.1 d.1.2.2.2.2 d.2.1.2.1 d.2.2
theorem z30u1_k (k : Nat) : UOK P GL (mkU z30u1p z30u1x (z30u1t k k) nilU) z30u1d true z30u1b :=
  loop_typed (ud := z30u1d) (body := z30u1b) (uorc := uorT (z30U1 k)) hmo (T29_ok k).oo (z30U1_k k) (AllU.no (by kernel_rfl)) (t := z30u1t k) (fun d => by kernel_rfl) (fun n d => by kernel_rfl) k
noncomputable def z30U2 (k : Nat) : List (Nat × Ent) := (1, ⟨mkU z30u1p z30u1x (z30u1t k k) nilU⟩) :: z30U1 k
theorem z30U2_k (k : Nat) : UTab (z30U2 k) := (z30U1_k k).cons (mkU_nat nilU_nat)
noncomputable def cellout_head (k : Nat) (x0 : Bool) (x1 : DCell) (x2 : Int) (x3 : List (Int)) : Option ((Unit) × (((Unit) × ((Int) × (Unit))) × (List (Int)))) :=
  Option.bind (cellout_headu0 k ([] : List UInt8) x0) fun (v93 : List UInt8) =>
  Option.bind (mcbpc_Row k x0 5 0) fun (v102 : (List UInt8) × ((Bool) × (Unit))) =>
  Option.bind (cellout_headu1 k k v93 v102.1 x1.1 0 x2 x3) fun (v105 : (Unit) × (((Unit) × ((Int) × (Unit))) × (List (Int)))) =>
  bif x1.2.1 then
    Option.bind (outbits_Writer_Add k ([49] : List UInt8) v105.2.1.2.1 v105.2.2) fun (v106 : (Int) × (((Unit) × ((Int) × (Unit))) × (List (Int)))) =>
    some ((), (((), (v106.2.1.2.1, ())), v106.2.2))
  else
  Option.bind (cellout_coded k x1) fun (v108 : Int) =>
  Option.bind (mcbpc_Row k x0 x1.2.2.1 (bitop .and .i64 v108 3)) fun (v109 : (List UInt8) × ((Bool) × (Unit))) =>
  bif (decide ((List.length v93) + (List.length v109.1) ≤ strMax)) then
    Option.bind (outbits_Writer_Add k (v93 ++ v109.1) v105.2.1.2.1 v105.2.2) fun (v110 : (Int) × (((Unit) × ((Int) × (Unit))) × (List (Int)))) =>
    some ((), (((), (v110.2.1.2.1, ())), v110.2.2))
  else
    none
noncomputable def z30b : AC :=
  (.seq (.region [(iO 5 (.box (.t 2)))])
  (.seq (.region [(iO 6 (.mv (.c (.tv .str (([] : List UInt8) : List UInt8)))))])
  (.seq (.seq (.region [(iO 11 (.mv (.t 1)))])
  (.unit 0 z30u0d false z30u0b))
  (.seq (.region [(iO 13 (.mv (.t 1))),
    (iC 14 64 [((.t 13), none), ((nI 5), none), ((nI 0), none)]),
    (iO 12 (.mv (.t 14))),
    (iO 15 (.ext (.t 12) 0)),
    (iO 16 (.ext (.t 12) 1)),
    (iO 7 (.mv (.t 15))),
    (iO 8 (.mv (.t 16)))])
  (.seq (.seq (.region [(iO 17 (.fad 0 0 (.t 5))),
    (iO 18 (.load false 1 (.t 17))),
    (iO 19 (.mv (nI 0)))])
  (.block 0 (.unit 1 z30u1d true z30u1b)))
  (.seq (.seq (.region [(iO 27 (.fad 1 1 (.t 5))),
    (iO 28 (.load false 1 (.t 27)))])
  (.cond (.t 28)
  (.seq (.region [(iO 29 (.mv (.t 0))),
      (iC 30 23 [((.t 29), none), ((.c (.tv .str (([49] : List UInt8) : List UInt8))), none)])])
    .ret)
  .skip))
  (.seq (.draw [(iO 32 (.mv (.t 1))),
    (iO 33 (.fad 2 2 (.t 5))),
    (iOa 34 (.load false 1 (.t 33)) [1]),
    (iO 35 (.load true 18 (.t 5))),
    (iCa 36 40 [((.t 35), some YCell)] [3]),
    (iOa 37 (.bin .and (.t 36) (nI 3)) [3, 4]),
    (iCa 38 64 [((.t 32), none), ((.t 34), none), ((.t 37), none)] (rg [0, 6])),
    (iOa 31 (.mv (.t 38)) (rg [0, 7])),
    (iOa 39 (.ext (.t 31) 0) (rg [0, 8])),
    (iOa 40 (.ext (.t 31) 1) (rg [0, 8])),
    (iOa 9 (.mv (.t 39)) (rg [0, 9])),
    (iOa 10 (.mv (.t 40)) (rg [0, 11]))])
  (.region [(iO 41 (.mv (.t 0))),
    (iO 42 (.mv (.t 6))),
    (iO 43 (.mv (.t 9))),
    (iO 44 (.bin .add (.t 42) (.t 43))),
    (iC 45 23 [((.t 41), none), ((.t 44), none)])]))))))))
noncomputable def z30f : FDef := ⟨3, 46, [], z30b⟩
noncomputable def z30p : XPat := ⟨.normal, [(.ptr 0 []), (.tv .bool), (.tv YCell)], [(.box (.cons (.row 1) (.cons (.tv (.int .i64)) .nil))), (.row (.int .u8) false)]⟩
noncomputable def z30x : List XPat := [⟨.ret, [(.tup .nil)], [(.box (.cons (.row 1) (.cons (.tv (.int .i64)) .nil))), (.row (.int .u8) false)]⟩]
noncomputable def z30t (k : Nat) (d : z30p.D) : Option (XD z30x) := cellout_head k d.1.2.1 d.1.2.2 d.2.1.2.1 d.2.2
noncomputable def z30_e (k : Nat) : UEntry := mkU z30p z30x (z30t k) nilU
theorem z30_n (k : Nat) : UNat (z30_e k) := mkU_nat nilU_nat
theorem z30_fu (k : Nat) : FU P GL 37 (z30_e k) :=
  fn_typed (uorc := uorT (z30U2 k)) hmo (T29_ok k).oo (z30U2_k k) (fd := z30f) (AllU.seq (AllU.no (by kernel_rfl)) (AllU.seq (AllU.no (by kernel_rfl)) (AllU.seq (AllU.seq (AllU.no (by kernel_rfl)) (AllU.unit (uorc := uorT (z30U2 k)) (u := 0) (z30u0_k k))) (AllU.seq (AllU.no (by kernel_rfl)) (AllU.seq (AllU.seq (AllU.no (by kernel_rfl)) (AllU.block (AllU.unit (uorc := uorT (z30U2 k)) (u := 1) (z30u1_k k)))) (AllU.no (by kernel_rfl))))))) (fn := Tryd.f37) (by kernel_rfl) (by kernel_rfl) (fun d => by kernel_rfl) FU_nil
noncomputable def T30 (k : Nat) : List (Nat × Ent) := (37, ⟨z30_e k⟩) :: T29 k
theorem T30_ok (k : Nat) : TabOK P GL (T30 k) := (T29_ok k).cons (z30_fu k) (z30_n k)
/-! ### overspill.cbpy.rows -/
noncomputable def z31U0 (_ : Nat) : List (Nat × Ent) := []
theorem z31U0_k (k : Nat) : UTab (z31U0 k) := UTab.nil
noncomputable def cbpy_rows (k : Nat) : Option (List (List UInt8)) :=
  some (List.set (List.set (List.set (List.set (List.set (List.set (List.set (List.set (List.set (List.set (List.set (List.set (List.set (List.set (List.set (List.set (Ty.zero (.arr 16 .str)) 0 ([48, 48, 49, 49] : List UInt8)) 1 ([48, 48, 49, 48, 49] : List UInt8)) 2 ([48, 48, 49, 48, 48] : List UInt8)) 3 ([49, 48, 48, 49] : List UInt8)) 4 ([48, 48, 48, 49, 49] : List UInt8)) 5 ([48, 49, 49, 49] : List UInt8)) 6 ([48, 48, 48, 48, 49, 48] : List UInt8)) 7 ([49, 48, 49, 49] : List UInt8)) 8 ([48, 48, 48, 49, 48] : List UInt8)) 9 ([48, 48, 48, 48, 49, 49] : List UInt8)) 10 ([48, 49, 48, 49] : List UInt8)) 11 ([49, 48, 49, 48] : List UInt8)) 12 ([48, 49, 48, 48] : List UInt8)) 13 ([49, 48, 48, 48] : List UInt8)) 14 ([48, 49, 49, 48] : List UInt8)) 15 ([49, 49] : List UInt8))
noncomputable def z31b : AC :=
  (.seq (.region [(iO 0 (.alloc 108 (.tv (.arr 16 .str))))])
  (.seq (.region [(iO 1 (.build 108 (.tv (.arr 16 .str)) [(0, (.idx 0 16 1), 1, (.c (.tv .str (([48, 48, 49, 49] : List UInt8) : List UInt8)))), (1, (.idx 1 16 1), 1, (.c (.tv .str (([48, 48, 49, 48, 49] : List UInt8) : List UInt8)))), (2, (.idx 2 16 1), 1, (.c (.tv .str (([48, 48, 49, 48, 48] : List UInt8) : List UInt8)))), (3, (.idx 3 16 1), 1, (.c (.tv .str (([49, 48, 48, 49] : List UInt8) : List UInt8)))), (4, (.idx 4 16 1), 1, (.c (.tv .str (([48, 48, 48, 49, 49] : List UInt8) : List UInt8)))), (5, (.idx 5 16 1), 1, (.c (.tv .str (([48, 49, 49, 49] : List UInt8) : List UInt8)))), (6, (.idx 6 16 1), 1, (.c (.tv .str (([48, 48, 48, 48, 49, 48] : List UInt8) : List UInt8)))), (7, (.idx 7 16 1), 1, (.c (.tv .str (([49, 48, 49, 49] : List UInt8) : List UInt8)))), (8, (.idx 8 16 1), 1, (.c (.tv .str (([48, 48, 48, 49, 48] : List UInt8) : List UInt8)))), (9, (.idx 9 16 1), 1, (.c (.tv .str (([48, 48, 48, 48, 49, 49] : List UInt8) : List UInt8)))), (10, (.idx 10 16 1), 1, (.c (.tv .str (([48, 49, 48, 49] : List UInt8) : List UInt8)))), (11, (.idx 11 16 1), 1, (.c (.tv .str (([49, 48, 49, 48] : List UInt8) : List UInt8)))), (12, (.idx 12 16 1), 1, (.c (.tv .str (([48, 49, 48, 48] : List UInt8) : List UInt8)))), (13, (.idx 13 16 1), 1, (.c (.tv .str (([49, 48, 48, 48] : List UInt8) : List UInt8)))), (14, (.idx 14 16 1), 1, (.c (.tv .str (([48, 49, 49, 48] : List UInt8) : List UInt8)))), (15, (.idx 15 16 1), 1, (.c (.tv .str (([49, 49] : List UInt8) : List UInt8))))])),
    (iS (.store 16 none (.t 0) (.t 1)))])
  .ret))
noncomputable def z31f : FDef := ⟨0, 2, [.cell 0 16 true (some (.arr 16 .str))], z31b⟩
noncomputable def z31p : XPat := ⟨.normal, [], []⟩
noncomputable def z31x : List XPat := [⟨.ret, [(.tv (.arr 16 .str))], []⟩]
noncomputable def z31t (k : Nat) (d : z31p.D) : Option (XD z31x) := cbpy_rows k
noncomputable def z31_e (k : Nat) : UEntry := mkU z31p z31x (z31t k) nilU
theorem z31_n (k : Nat) : UNat (z31_e k) := mkU_nat nilU_nat
theorem z31_fu (k : Nat) : FU P GL 65 (z31_e k) :=
  fn_typed (uorc := uorT (z31U0 k)) hmo (T30_ok k).oo (z31U0_k k) (fd := z31f) (AllU.no (by kernel_rfl)) (fn := Tryd.f65) (by kernel_rfl) (by kernel_rfl) (fun d => by kernel_rfl) FU_nil
noncomputable def T31 (k : Nat) : List (Nat × Ent) := (65, ⟨z31_e k⟩) :: T30 k
theorem T31_ok (k : Nat) : TabOK P GL (T31 k) := (T30_ok k).cons (z31_fu k) (z31_n k)
/-! ### overspill.cbpy.turned -/
noncomputable def z32U0 (_ : Nat) : List (Nat × Ent) := []
theorem z32U0_k (k : Nat) : UTab (z32U0 k) := UTab.nil
noncomputable def cbpy_turned (k : Nat) (x0 : Bool) (x1 : Int) : Option (Int) :=
  bif x0 then
    some x1
  else
  some (wr .i64 (15 - x1))
noncomputable def z32b : AC :=
  (.seq (.region [(iO 4 (.mv (nI 0)))])
  (.seq (.seq (.region [(iO 5 (.mv (.t 0)))])
  (.cond (.t 5)
  (.seq (.region [(iO 6 (.mv (.t 1))),
      (iO 4 (.mv (.t 6)))])
    .ret)
  .skip))
  (.seq (.region [(iO 7 (.mv (.t 1))),
    (iO 8 (.bin .sub (nI 15) (.t 7))),
    (iO 4 (.mv (.t 8)))])
  .ret)))
noncomputable def z32f : FDef := ⟨2, 9, [.tmp 4 none], z32b⟩
noncomputable def z32p : XPat := ⟨.normal, [(.tv .bool), (.tv (.int .i64))], []⟩
noncomputable def z32x : List XPat := [⟨.ret, [(.tv (.int .i64))], []⟩]
noncomputable def z32t (k : Nat) (d : z32p.D) : Option (XD z32x) := cbpy_turned k d.1 d.2
noncomputable def z32_e (k : Nat) : UEntry := mkU z32p z32x (z32t k) nilU
theorem z32_n (k : Nat) : UNat (z32_e k) := mkU_nat nilU_nat
theorem z32_fu (k : Nat) : FU P GL 66 (z32_e k) :=
  fn_typed (uorc := uorT (z32U0 k)) hmo (T31_ok k).oo (z32U0_k k) (fd := z32f) (AllU.no (by kernel_rfl)) (fn := Tryd.f66) (by kernel_rfl) (by kernel_rfl) (fun d => by kernel_rfl) FU_nil
noncomputable def T32 (k : Nat) : List (Nat × Ent) := (66, ⟨z32_e k⟩) :: T31 k
theorem T32_ok (k : Nat) : TabOK P GL (T32 k) := (T31_ok k).cons (z32_fu k) (z32_n k)
/-! ### overspill.cbpy.Row -/
noncomputable def z33U0 (_ : Nat) : List (Nat × Ent) := []
theorem z33U0_k (k : Nat) : UTab (z33U0 k) := UTab.nil
noncomputable def z33u0d : UDef := ⟨[(1, none)], [6, 7, 8, 9, 10, 11], [(.normal, [(11, none)])], []⟩
noncomputable def z33u0p : XPat := ⟨.normal, [(.tv (.int .i64))], []⟩
noncomputable def z33u0x : List XPat := [⟨.normal, [(.tv .bool)], []⟩]
noncomputable def cbpy_Rowu0 (k : Nat) (x0 : Int) : Option (Bool) :=
  bif (decide (x0 < 0)) then
    some true
  else
  some (decide ((15 : Int) < x0))
noncomputable def z33u0b : AC :=
  (.region [(iO 6 (.mv (.t 1))),
    (iO 7 (.bin .lss (.t 6) (nI 0))),
    (iO 8 (.mv (.t 7))),
    ⟨some 9, some (2, 8, false), (.op (.mv (.t 1))), []⟩,
    ⟨some 10, some (2, 8, false), (.op (.bin .gtr (.t 9) (nI 15))), []⟩,
    (iO 11 (.pick (.t 8) (.c (.tv .bool (true : Bool))) (.t 10)))])
noncomputable def z33u0t (k : Nat) (d : z33u0p.D) : Option (XD z33u0x) := cbpy_Rowu0 k d
theorem z33u0_k (k : Nat) : UOK P GL (mkU z33u0p z33u0x (z33u0t k) nilU) z33u0d false z33u0b :=
  unit_typed (ud := z33u0d) (body := z33u0b) (uorc := uorT (z33U0 k)) hmo (T32_ok k).oo (z33U0_k k) (AllU.no (by kernel_rfl)) (fun d => by kernel_rfl)
noncomputable def z33U1 (k : Nat) : List (Nat × Ent) := (0, ⟨mkU z33u0p z33u0x (z33u0t k) nilU⟩) :: z33U0 k
theorem z33U1_k (k : Nat) : UTab (z33U1 k) := (z33U0_k k).cons (mkU_nat nilU_nat)
noncomputable def cbpy_Row (k : Nat) (x0 : Bool) (x1 : Int) : Option ((List UInt8) × ((Bool) × (Unit))) :=
  Option.bind (cbpy_Rowu0 k x1) fun (v114 : Bool) =>
  bif v114 then
    some (([] : List UInt8), (false, ()))
  else
  Option.bind (cbpy_rows k) fun (v115 : List (List UInt8)) =>
  Option.bind (cbpy_turned k x0 x1) fun (v116 : Int) =>
  bif (inR v116 16) then
    some ((List.getD v115 (Int.toNat v116) ([] : List UInt8)), (true, ()))
  else
    none
noncomputable def z33b : AC :=
  (.seq (.region [(iO 4 (.mv (.c (.tv .str (([] : List UInt8) : List UInt8))))),
    (iO 5 (.mv (.c (.tv .bool (false : Bool)))))])
  (.seq (.seq (.unit 0 z33u0d false z33u0b)
  (.cond (.t 11)
  (.seq (.region [(iO 4 (.mv (.c (.tv .str (([] : List UInt8) : List UInt8))))),
      (iO 5 (.mv (.c (.tv .bool (false : Bool)))))])
    .ret)
  .skip))
  (.seq (.region [(iC 12 65 []),
    (iO 13 (.mv (.t 0))),
    (iO 14 (.mv (.t 1))),
    (iC 15 66 [((.t 13), none), ((.t 14), none)]),
    (iO 16 (.ix 16 1 false (.t 12) (.t 15))),
    (iO 4 (.mv (.t 16))),
    (iO 5 (.mv (.c (.tv .bool (true : Bool)))))])
  .ret)))
noncomputable def z33f : FDef := ⟨2, 17, [.tmp 4 none, .tmp 5 none], z33b⟩
noncomputable def z33p : XPat := ⟨.normal, [(.tv .bool), (.tv (.int .i64))], []⟩
noncomputable def z33x : List XPat := [⟨.ret, [(.tup (.cons (.tv .str) (.cons (.tv .bool) .nil)))], []⟩]
noncomputable def z33t (k : Nat) (d : z33p.D) : Option (XD z33x) := cbpy_Row k d.1 d.2
noncomputable def z33_e (k : Nat) : UEntry := mkU z33p z33x (z33t k) nilU
theorem z33_n (k : Nat) : UNat (z33_e k) := mkU_nat nilU_nat
theorem z33_fu (k : Nat) : FU P GL 38 (z33_e k) :=
  fn_typed (uorc := uorT (z33U1 k)) hmo (T32_ok k).oo (z33U1_k k) (fd := z33f) (AllU.seq (AllU.no (by kernel_rfl)) (AllU.seq (AllU.seq (AllU.unit (uorc := uorT (z33U1 k)) (u := 0) (z33u0_k k)) (AllU.no (by kernel_rfl))) (AllU.no (by kernel_rfl)))) (fn := Tryd.f38) (by kernel_rfl) (by kernel_rfl) (fun d => by kernel_rfl) FU_nil
noncomputable def T33 (k : Nat) : List (Nat × Ent) := (38, ⟨z33_e k⟩) :: T32 k
theorem T33_ok (k : Nat) : TabOK P GL (T33 k) := (T32_ok k).cons (z33_fu k) (z33_n k)
/-! ### overspill.mvd.length -/
noncomputable def z34U0 (_ : Nat) : List (Nat × Ent) := []
theorem z34U0_k (k : Nat) : UTab (z34U0 k) := UTab.nil
noncomputable def mvd_length (k : Nat) (x0 : Int) : Option (Int) :=
  bif (decide (x0 < 4)) then
    some (wr .i64 (x0 + 1))
  else
  bif (decide (x0 = 4)) then
    some 6
  else
  bif (decide (x0 < 8)) then
    some 7
  else
  bif (decide (x0 < 11)) then
    some 9
  else
  bif (decide (x0 < 25)) then
    some 10
  else
  bif (decide (x0 < 31)) then
    some 11
  else
  some 12
noncomputable def z34b : AC :=
  (.seq (.region [(iO 2 (.mv (nI 0)))])
  (.seq (.block 0 (.seq (.region [(iO 4 (.mv (.t 0))),
    (iO 5 (.bin .lss (.t 4) (nI 4))),
    (iO 3 (.mv (.t 5)))])
  (.cond (.t 3)
  (.seq (.region [(iO 6 (.mv (.t 0))),
      (iO 7 (.bin .add (.t 6) (nI 1))),
      (iO 2 (.mv (.t 7)))])
    .ret)
  (.seq (.region [(iO 9 (.mv (.t 0))),
      (iO 10 (.bin .eql (.t 9) (nI 4))),
      (iO 8 (.mv (.t 10)))])
    (.cond (.t 8)
    (.seq (.region [(iO 2 (.mv (nI 6)))])
      .ret)
    (.seq (.region [(iO 12 (.mv (.t 0))),
        (iO 13 (.bin .lss (.t 12) (nI 8))),
        (iO 11 (.mv (.t 13)))])
      (.cond (.t 11)
      (.seq (.region [(iO 2 (.mv (nI 7)))])
        .ret)
      (.seq (.region [(iO 15 (.mv (.t 0))),
          (iO 16 (.bin .lss (.t 15) (nI 11))),
          (iO 14 (.mv (.t 16)))])
        (.cond (.t 14)
        (.seq (.region [(iO 2 (.mv (nI 9)))])
          .ret)
        (.seq (.region [(iO 18 (.mv (.t 0))),
            (iO 19 (.bin .lss (.t 18) (nI 25))),
            (iO 17 (.mv (.t 19)))])
          (.cond (.t 17)
          (.seq (.region [(iO 2 (.mv (nI 10)))])
            .ret)
          (.seq (.region [(iO 21 (.mv (.t 0))),
              (iO 22 (.bin .lss (.t 21) (nI 31))),
              (iO 20 (.mv (.t 22)))])
            (.cond (.t 20)
            (.seq (.region [(iO 2 (.mv (nI 11)))])
              .ret)
            .skip)))))))))))))
  (.seq (.region [(iO 2 (.mv (nI 12)))])
  .ret)))
noncomputable def z34f : FDef := ⟨1, 23, [.tmp 2 none], z34b⟩
noncomputable def z34p : XPat := ⟨.normal, [(.tv (.int .i64))], []⟩
noncomputable def z34x : List XPat := [⟨.ret, [(.tv (.int .i64))], []⟩]
noncomputable def z34t (k : Nat) (d : z34p.D) : Option (XD z34x) := mvd_length k d
noncomputable def z34_e (k : Nat) : UEntry := mkU z34p z34x (z34t k) nilU
theorem z34_n (k : Nat) : UNat (z34_e k) := mkU_nat nilU_nat
theorem z34_fu (k : Nat) : FU P GL 68 (z34_e k) :=
  fn_typed (uorc := uorT (z34U0 k)) hmo (T33_ok k).oo (z34U0_k k) (fd := z34f) (AllU.no (by kernel_rfl)) (fn := Tryd.f68) (by kernel_rfl) (by kernel_rfl) (fun d => by kernel_rfl) FU_nil
noncomputable def T34 (k : Nat) : List (Nat × Ent) := (68, ⟨z34_e k⟩) :: T33 k
theorem T34_ok (k : Nat) : TabOK P GL (T34 k) := (T33_ok k).cons (z34_fu k) (z34_n k)
/-! ### overspill.mvd.Row -/
noncomputable def z35U0 (_ : Nat) : List (Nat × Ent) := []
theorem z35U0_k (k : Nat) : UTab (z35U0 k) := UTab.nil
noncomputable def z35u0d : UDef := ⟨[(0, none)], [8, 9, 10, 11, 12, 13], [(.normal, [(13, none)])], []⟩
noncomputable def z35u0p : XPat := ⟨.normal, [(.tv (.int .i64))], []⟩
noncomputable def z35u0x : List XPat := [⟨.normal, [(.tv .bool)], []⟩]
noncomputable def mvd_Rowu0 (k : Nat) (x0 : Int) : Option (Bool) :=
  bif (decide (x0 < (-32))) then
    some true
  else
  some (decide ((31 : Int) < x0))
noncomputable def z35u0b : AC :=
  (.region [(iO 8 (.mv (.t 0))),
    (iO 9 (.bin .lss (.t 8) (nI (-32)))),
    (iO 10 (.mv (.t 9))),
    ⟨some 11, some (2, 10, false), (.op (.mv (.t 0))), []⟩,
    ⟨some 12, some (2, 10, false), (.op (.bin .gtr (.t 11) (nI 31))), []⟩,
    (iO 13 (.pick (.t 10) (.c (.tv .bool (true : Bool))) (.t 12)))])
noncomputable def z35u0t (k : Nat) (d : z35u0p.D) : Option (XD z35u0x) := mvd_Rowu0 k d
theorem z35u0_k (k : Nat) : UOK P GL (mkU z35u0p z35u0x (z35u0t k) nilU) z35u0d false z35u0b :=
  unit_typed (ud := z35u0d) (body := z35u0b) (uorc := uorT (z35U0 k)) hmo (T34_ok k).oo (z35U0_k k) (AllU.no (by kernel_rfl)) (fun d => by kernel_rfl)
noncomputable def z35U1 (k : Nat) : List (Nat × Ent) := (0, ⟨mkU z35u0p z35u0x (z35u0t k) nilU⟩) :: z35U0 k
theorem z35U1_k (k : Nat) : UTab (z35U1 k) := (z35U0_k k).cons (mkU_nat nilU_nat)
noncomputable def z35u1d : UDef := ⟨[(0, none), (4, none), (5, none), (16, none)], [4, 5, 17, 18], [(.normal, [(4, none), (5, none)])], []⟩
noncomputable def z35u1p : XPat := ⟨.normal, [(.tv (.int .i64)), (.tv (.int .i64)), (.tv .str), (.tv .bool)], []⟩
noncomputable def z35u1x : List XPat := [⟨.normal, [(.tv (.int .i64)), (.tv .str)], []⟩]
noncomputable def mvd_Rowu1 (k : Nat) (x0 : Int) (x1 : Int) (x2 : List UInt8) (x3 : Bool) : Option ((Int) × (List UInt8)) :=
  bif x3 then
    some ((wr .i64 (0 - x0)), ([49] : List UInt8))
  else
  some (x1, x2)
noncomputable def z35u1b : AC :=
  (.cond (.t 16)
  (.region [(iO 17 (.mv (.t 0))),
      (iO 18 (.un .neg (.t 17))),
      (iO 4 (.mv (.t 18))),
      (iO 5 (.mv (.c (.tv .str (([49] : List UInt8) : List UInt8)))))])
  .skip)
noncomputable def z35u1t (k : Nat) (d : z35u1p.D) : Option (XD z35u1x) := mvd_Rowu1 k d.1 d.2.1 d.2.2.1 d.2.2.2
theorem z35u1_k (k : Nat) : UOK P GL (mkU z35u1p z35u1x (z35u1t k) nilU) z35u1d false z35u1b :=
  unit_typed (ud := z35u1d) (body := z35u1b) (uorc := uorT (z35U1 k)) hmo (T34_ok k).oo (z35U1_k k) (AllU.no (by kernel_rfl)) (fun d => by kernel_rfl)
noncomputable def z35U2 (k : Nat) : List (Nat × Ent) := (1, ⟨mkU z35u1p z35u1x (z35u1t k) nilU⟩) :: z35U1 k
theorem z35U2_k (k : Nat) : UTab (z35U2 k) := (z35U1_k k).cons (mkU_nat nilU_nat)
noncomputable def mvd_Row (k : Nat) (x0 : Int) : Option ((List UInt8) × ((Bool) × (Unit))) :=
  Option.bind (mvd_Rowu0 k x0) fun (v128 : Bool) =>
  bif v128 then
    some (([] : List UInt8), (false, ()))
  else
  Option.bind (mvd_Rowu1 k x0 x0 ([48] : List UInt8) (decide (x0 < 0))) fun (v129 : (Int) × (List UInt8)) =>
  bif (inR v129.1 33) then
    Option.bind (mvd_length k v129.1) fun (v130 : Int) =>
    Option.bind (outbits_Row k (List.getD tbl0 (Int.toNat v129.1) 0) v130) fun (v131 : (List UInt8) × ((Int) × (Unit))) =>
    bif (!(decide (x0 = 0))) then
      bif (decide ((List.length v131.1) + (List.length v129.2) ≤ strMax)) then
        some ((v131.1 ++ v129.2), (true, ()))
      else
        none
    else
    some (v131.1, (true, ()))
  else
    none
noncomputable def z35b : AC :=
  (.seq (.region [(iO 2 (.mv (.c (.tv .str (([] : List UInt8) : List UInt8))))),
    (iO 3 (.mv (.c (.tv .bool (false : Bool)))))])
  (.seq (.seq (.unit 0 z35u0d false z35u0b)
  (.cond (.t 13)
  (.seq (.region [(iO 2 (.mv (.c (.tv .str (([] : List UInt8) : List UInt8))))),
      (iO 3 (.mv (.c (.tv .bool (false : Bool)))))])
    .ret)
  .skip))
  (.seq (.region [(iO 14 (.mv (.t 0))),
    (iO 4 (.mv (.t 14))),
    (iO 5 (.mv (.c (.tv .str (([48] : List UInt8) : List UInt8)))))])
  (.seq (.seq (.region [(iO 15 (.mv (.t 0))),
    (iO 16 (.bin .lss (.t 15) (nI 0)))])
  (.unit 1 z35u1d false z35u1b))
  (.seq (.draw [(iO 20 (.mv (.t 4))),
    (iOa 21 (.iad 33 1 (.g 0) (.t 20)) [0]),
    (iOa 22 (.load false 1 (.t 21)) [0, 1]),
    (iO 23 (.mv (.t 4))),
    (iCa 24 68 [((.t 23), none)] [3]),
    (iCa 25 67 [((.t 22), none), ((.t 24), none)] (rg [0, 5])),
    (iOa 19 (.mv (.t 25)) (rg [0, 6])),
    (iOa 26 (.ext (.t 19) 0) (rg [0, 7])),
    (iOa 27 (.ext (.t 19) 1) (rg [0, 7])),
    (iOa 6 (.mv (.t 26)) (rg [0, 8])),
    (iOa 7 (.mv (.t 27)) (rg [0, 10]))])
  (.seq (.seq (.region [(iO 28 (.mv (.t 0))),
    (iO 29 (.bin .neq (.t 28) (nI 0)))])
  (.cond (.t 29)
  (.region [(iO 30 (.mv (.t 6))),
      (iO 31 (.mv (.t 5))),
      (iO 32 (.bin .add (.t 30) (.t 31))),
      (iO 6 (.mv (.t 32)))])
  .skip))
  (.seq (.region [(iO 33 (.mv (.t 6))),
    (iO 2 (.mv (.t 33))),
    (iO 3 (.mv (.c (.tv .bool (true : Bool)))))])
  .ret)))))))
noncomputable def z35f : FDef := ⟨1, 34, [.tmp 2 none, .tmp 3 none], z35b⟩
noncomputable def z35p : XPat := ⟨.normal, [(.tv (.int .i64))], []⟩
noncomputable def z35x : List XPat := [⟨.ret, [(.tup (.cons (.tv .str) (.cons (.tv .bool) .nil)))], []⟩]
noncomputable def z35t (k : Nat) (d : z35p.D) : Option (XD z35x) := mvd_Row k d
noncomputable def z35_e (k : Nat) : UEntry := mkU z35p z35x (z35t k) nilU
theorem z35_n (k : Nat) : UNat (z35_e k) := mkU_nat nilU_nat
theorem z35_fu (k : Nat) : FU P GL 43 (z35_e k) :=
  fn_typed (uorc := uorT (z35U2 k)) hmo (T34_ok k).oo (z35U2_k k) (fd := z35f) (AllU.seq (AllU.no (by kernel_rfl)) (AllU.seq (AllU.seq (AllU.unit (uorc := uorT (z35U2 k)) (u := 0) (z35u0_k k)) (AllU.no (by kernel_rfl))) (AllU.seq (AllU.no (by kernel_rfl)) (AllU.seq (AllU.seq (AllU.no (by kernel_rfl)) (AllU.unit (uorc := uorT (z35U2 k)) (u := 1) (z35u1_k k))) (AllU.no (by kernel_rfl)))))) (fn := Tryd.f43) (by kernel_rfl) (by kernel_rfl) (fun d => by kernel_rfl) FU_nil
noncomputable def T35 (k : Nat) : List (Nat × Ent) := (43, ⟨z35_e k⟩) :: T34 k
theorem T35_ok (k : Nat) : TabOK P GL (T35 k) := (T34_ok k).cons (z35_fu k) (z35_n k)
/-! ### overspill.cellout.Put -/
noncomputable def z36U0 (_ : Nat) : List (Nat × Ent) := []
theorem z36U0_k (k : Nat) : UTab (z36U0 k) := UTab.nil
noncomputable def z36u0d : UDef := ⟨[(0, none), (7, none), (42, none)], [9, 43, 44, 45, 46, 47, 48, 49, 50, 51], [(.normal, [])], []⟩
noncomputable def z36u0p : XPat := ⟨.normal, [(.ptr 0 []), (.ptr 1 []), (.tv .bool)], [(.box (.cons (.row 2) (.cons (.tv (.int .i64)) .nil))), (.box (.tv YCell)), (.row (.int .u8) false)]⟩
noncomputable def z36u0x : List XPat := [⟨.normal, [], [(.box (.cons (.row 2) (.cons (.tv (.int .i64)) .nil))), (.box (.tv YCell)), (.row (.int .u8) false)]⟩]
noncomputable def cellout_Putu0 (k : Nat) (x0 : Bool) (x1 : Int) (x2 : DCell) (x3 : List (Int)) : Option ((Unit) × (((Unit) × ((Int) × (Unit))) × ((DCell) × (List (Int))))) :=
  bif x0 then
    Option.bind (steps_Row k x2.2.2.2.1) fun (v122 : (List UInt8) × ((Bool) × (Unit))) =>
    Option.bind (outbits_Writer_Add k v122.1 x1 x3) fun (v123 : (Int) × (((Unit) × ((Int) × (Unit))) × (List (Int)))) =>
    some ((), (((), (v123.2.1.2.1, ())), (x2, v123.2.2)))
  else
  some ((), (((), (x1, ())), (x2, x3)))
noncomputable def z36u0b : AC :=
  (.cond (.t 42)
  (.seq (.region [(iO 44 (.fad 3 3 (.t 7))),
      (iO 45 (.load false 1 (.t 44))),
      (iC 46 42 [((.t 45), none)]),
      (iO 43 (.mv (.t 46))),
      (iO 47 (.ext (.t 43) 0)),
      (iO 48 (.ext (.t 43) 1)),
      (iO 9 (.mv (.t 47)))])
    (.region [(iO 49 (.mv (.t 0))),
      (iO 50 (.mv (.t 9))),
      (iC 51 23 [((.t 49), none), ((.t 50), none)])]))
  .skip)
noncomputable def z36u0t (k : Nat) (d : z36u0p.D) : Option (XD z36u0x) := cellout_Putu0 k d.1.2.2 d.2.1.2.1 d.2.2.1 d.2.2.2
theorem z36u0_k (k : Nat) : UOK P GL (mkU z36u0p z36u0x (z36u0t k) nilU) z36u0d false z36u0b :=
  unit_typed (ud := z36u0d) (body := z36u0b) (uorc := uorT (z36U0 k)) hmo (T35_ok k).oo (z36U0_k k) (AllU.no (by kernel_rfl)) (fun d => by kernel_rfl)
noncomputable def z36U1 (k : Nat) : List (Nat × Ent) := (0, ⟨mkU z36u0p z36u0x (z36u0t k) nilU⟩) :: z36U0 k
theorem z36U1_k (k : Nat) : UTab (z36U1 k) := (z36U0_k k).cons (mkU_nat nilU_nat)
noncomputable def z36u1d : UDef := ⟨[(0, none), (6, none), (7, none), (52, none)], [9, 11, 52, 53, 54, 55, 56, 57, 58, 59, 60, 61, 62, 63, 64, 65, 66, 67, 68, 69, 70, 71, 72, 73, 74, 75, 76], [((.exit 1), [])], []⟩
noncomputable def z36u1p : XPat := ⟨.normal, [(.ptr 0 []), (.ptr 1 []), (.ptr 2 []), (.tv (.int .i64))], [(.box (.cons (.row 3) (.cons (.tv (.int .i64)) .nil))), (.box (.tv (.arr 2 (.int .i64)))), (.box (.tv YCell)), (.row (.int .u8) false)]⟩
noncomputable def z36u1x : List XPat := [⟨(.exit 1), [], [(.box (.cons (.row 3) (.cons (.tv (.int .i64)) .nil))), (.box (.tv (.arr 2 (.int .i64)))), (.box (.tv YCell)), (.row (.int .u8) false)]⟩]
noncomputable def cellout_Putu1 (k : Nat) : Nat → (Int) → (Int) → (List (Int)) → (DCell) → (List (Int)) → Option ((Unit) × (((Unit) × ((Int) × (Unit))) × ((List (Int)) × ((DCell) × (List (Int))))))
  | 0, _, _, _, _, _ => none
  | n + 1, x0, x1, x2, x3, x4 =>
    bif (decide (x0 < 2)) then
      Option.bind (cellout_intra k x3.2.2.1) fun (v134 : Bool) =>
      bif (!v134) then
        bif (inR x0 2) then
          bif (inR x0 2) then
            Option.bind (whole_Wrap k (List.getD x2 (Int.toNat x0) 0)) fun (v135 : Int) =>
            Option.bind (whole_Wrap k (wr .i64 ((List.getD x3.2.2.2.2.1 (Int.toNat x0) 0) - v135))) fun (v136 : Int) =>
            Option.bind (mvd_Row k v136) fun (v137 : (List UInt8) × ((Bool) × (Unit))) =>
            Option.bind (outbits_Writer_Add k v137.1 x1 x4) fun (v138 : (Int) × (((Unit) × ((Int) × (Unit))) × (List (Int)))) =>
            Option.bind (cellout_Putu1 k n (wr .i64 (x0 + 1)) v138.2.1.2.1 x2 x3 v138.2.2) fun r => some r
          else
            none
        else
          none
      else
      Option.bind (cellout_Putu1 k n (wr .i64 (x0 + 1)) x1 x2 x3 x4) fun r => some r
    else
    some ((), (((), (x1, ())), (x2, (x3, x4))))
noncomputable def z36u1b : AC :=
  (.seq (.region [(iO 53 (.bin .lss (.t 52) (nI 2)))])
  (.seq (.cond (.t 53)
  .skip
  (.exit 1))
  (.seq (.block 2 (.seq (.region [(iO 54 (.mv (.t 52))),
    (iO 11 (.mv (.t 54)))])
  (.seq (.region [(iO 55 (.fad 2 2 (.t 7))),
    (iO 56 (.load false 1 (.t 55))),
    (iC 57 39 [((.t 56), none)]),
    (iO 58 (.un .not (.t 57)))])
  (.cond (.t 58)
  (.seq (.draw [(iO 60 (.mv (.t 11))),
      (iO 61 (.fad 4 4 (.t 7))),
      (iOa 62 (.iad 2 1 (.t 61) (.t 60)) [0, 1]),
      (iOa 63 (.load false 1 (.t 62)) [0, 1, 2]),
      (iO 64 (.mv (.t 11))),
      (iOa 65 (.iad 2 1 (.t 6) (.t 64)) [4]),
      (iOa 66 (.load false 1 (.t 65)) [4, 5]),
      (iCa 67 44 [((.t 66), none)] [4, 5, 6]),
      (iOa 68 (.bin .sub (.t 63) (.t 67)) (rg [0, 8])),
      (iCa 69 44 [((.t 68), none)] (rg [0, 9])),
      (iCa 70 43 [((.t 69), none)] (rg [0, 10])),
      (iOa 59 (.mv (.t 70)) (rg [0, 11])),
      (iOa 71 (.ext (.t 59) 0) (rg [0, 12])),
      (iOa 72 (.ext (.t 59) 1) (rg [0, 12])),
      (iOa 9 (.mv (.t 71)) (rg [0, 13]))])
    (.region [(iO 73 (.mv (.t 0))),
      (iO 74 (.mv (.t 9))),
      (iC 75 23 [((.t 73), none), ((.t 74), none)])]))
  .skip))))
  (.region [(iO 76 (.bin .add (.t 52) (nI 1))),
    (iO 52 (.mv (.t 76)))]))))
noncomputable def z36u1t (k n : Nat) (d : z36u1p.D) : Option (XD z36u1x) := cellout_Putu1 k n d.1.2.2.2 d.2.1.2.1 d.2.2.1 d.2.2.2.1 d.2.2.2.2
theorem z36u1_k (k : Nat) : UOK P GL (mkU z36u1p z36u1x (z36u1t k k) nilU) z36u1d true z36u1b :=
  loop_typed (ud := z36u1d) (body := z36u1b) (uorc := uorT (z36U1 k)) hmo (T35_ok k).oo (z36U1_k k) (AllU.no (by kernel_rfl)) (t := z36u1t k) (fun d => by kernel_rfl) (fun n d => by kernel_rfl) k
noncomputable def z36U2 (k : Nat) : List (Nat × Ent) := (1, ⟨mkU z36u1p z36u1x (z36u1t k k) nilU⟩) :: z36U1 k
theorem z36U2_k (k : Nat) : UTab (z36U2 k) := (z36U1_k k).cons (mkU_nat nilU_nat)
noncomputable def z36u2d : UDef := ⟨[(0, none), (7, none), (77, none)], [12, 77, 78, 79, 80, 81, 82, 83, 84, 85, 86, 87, 88, 89, 90, 91, 92, 93], [((.exit 3), [])], []⟩
noncomputable def z36u2p : XPat := ⟨.normal, [(.ptr 0 []), (.ptr 1 []), (.tv (.int .i64))], [(.box (.cons (.row 2) (.cons (.tv (.int .i64)) .nil))), (.box (.tv YCell)), (.row (.int .u8) false)]⟩
noncomputable def z36u2x : List XPat := [⟨(.exit 3), [], [(.box (.cons (.row 2) (.cons (.tv (.int .i64)) .nil))), (.box (.tv YCell)), (.row (.int .u8) false)]⟩]
noncomputable def cellout_Putu2 (k : Nat) : Nat → (Int) → (Int) → (DCell) → (List (Int)) → Option ((Unit) × (((Unit) × ((Int) × (Unit))) × ((DCell) × (List (Int)))))
  | 0, _, _, _, _ => none
  | n + 1, x0, x1, x2, x3 =>
    bif (decide (x0 < 6)) then
      Option.bind (cellout_intra k x2.2.2.1) fun (v142 : Bool) =>
      bif (inR x0 6) then
        bif (inR x0 6) then
          Option.bind (blocks_Put k v142 (List.getD x2.2.2.2.2.2.1 (Int.toNat x0) 0) (List.getD x2.2.2.2.2.2.2.1 (Int.toNat x0) ([] : List (DEvent))) x1 x3) fun (v143 : (Int) × (((Unit) × ((Int) × (Unit))) × (List (Int)))) =>
          Option.bind (cellout_Putu2 k n (wr .i64 (x0 + 1)) v143.2.1.2.1 x2 v143.2.2) fun r => some r
        else
          none
      else
        none
    else
    some ((), (((), (x1, ())), (x2, x3)))
noncomputable def z36u2b : AC :=
  (.seq (.region [(iO 78 (.bin .lss (.t 77) (nI 6)))])
  (.seq (.cond (.t 78)
  .skip
  (.exit 3))
  (.seq (.block 4 (.seq (.region [(iO 79 (.mv (.t 77))),
    (iO 12 (.mv (.t 79)))])
  (.draw [(iO 80 (.mv (.t 0))),
    (iO 81 (.fad 2 2 (.t 7))),
    (iOa 82 (.load false 1 (.t 81)) [1]),
    (iCa 83 39 [((.t 82), none)] [1, 2]),
    (iO 84 (.mv (.t 12))),
    (iO 85 (.fad 5 6 (.t 7))),
    (iOa 86 (.iad 6 1 (.t 85) (.t 84)) [4, 5]),
    (iOa 87 (.load false 1 (.t 86)) [4, 5, 6]),
    (iO 88 (.mv (.t 12))),
    (iO 89 (.fad 6 12 (.t 7))),
    (iOa 90 (.iad 6 1 (.t 89) (.t 88)) [8, 9]),
    (iOa 91 (.load false 1 (.t 90)) [8, 9, 10]),
    (iCa 92 45 [((.t 80), none), ((.t 83), none), ((.t 87), none), ((.t 91), some (.sl YEvent))] (rg [0, 12]))])))
  (.region [(iO 93 (.bin .add (.t 77) (nI 1))),
    (iO 77 (.mv (.t 93)))]))))
noncomputable def z36u2t (k n : Nat) (d : z36u2p.D) : Option (XD z36u2x) := cellout_Putu2 k n d.1.2.2 d.2.1.2.1 d.2.2.1 d.2.2.2
theorem z36u2_k (k : Nat) : UOK P GL (mkU z36u2p z36u2x (z36u2t k k) nilU) z36u2d true z36u2b :=
  loop_typed (ud := z36u2d) (body := z36u2b) (uorc := uorT (z36U2 k)) hmo (T35_ok k).oo (z36U2_k k) (AllU.no (by kernel_rfl)) (t := z36u2t k) (fun d => by kernel_rfl) (fun n d => by kernel_rfl) k
noncomputable def z36U3 (k : Nat) : List (Nat × Ent) := (2, ⟨mkU z36u2p z36u2x (z36u2t k k) nilU⟩) :: z36U2 k
theorem z36U3_k (k : Nat) : UTab (z36U3 k) := (z36U2_k k).cons (mkU_nat nilU_nat)
noncomputable def cellout_Put (k : Nat) (x0 : Bool) (x1 : List (Int)) (x2 : DCell) (x3 : Int) (x4 : List (Int)) : Option ((Int) × (((Unit) × ((Int) × (Unit))) × (List (Int)))) :=
  Option.bind (cellout_Right k x0 x2) fun (v92 : Bool) =>
  bif (!v92) then
    some (12, (((), (x3, ())), x4))
  else
  Option.bind (cellout_head k x0 x2 x3 x4) fun (v111 : (Unit) × (((Unit) × ((Int) × (Unit))) × (List (Int)))) =>
  bif x2.2.1 then
    some (0, (((), (v111.2.1.2.1, ())), v111.2.2))
  else
  Option.bind (cellout_intra k x2.2.2.1) fun (v112 : Bool) =>
  Option.bind (cellout_coded k x2) fun (v113 : Int) =>
  Option.bind (cbpy_Row k v112 (shrI .i64 v113 2)) fun (v117 : (List UInt8) × ((Bool) × (Unit))) =>
  Option.bind (outbits_Writer_Add k v117.1 v111.2.1.2.1 v111.2.2) fun (v118 : (Int) × (((Unit) × ((Int) × (Unit))) × (List (Int)))) =>
  Option.bind (cellout_stepped k x2.2.2.1) fun (v119 : Bool) =>
  Option.bind (cellout_Putu0 k v119 v118.2.1.2.1 x2 v118.2.2) fun (v124 : (Unit) × (((Unit) × ((Int) × (Unit))) × ((DCell) × (List (Int))))) =>
  Option.bind (cellout_Putu1 k k 0 v124.2.1.2.1 x1 v124.2.2.1 v124.2.2.2) fun (v139 : (Unit) × (((Unit) × ((Int) × (Unit))) × ((List (Int)) × ((DCell) × (List (Int)))))) =>
  Option.bind (cellout_Putu2 k k 0 v139.2.1.2.1 v139.2.2.2.1 v139.2.2.2.2) fun (v144 : (Unit) × (((Unit) × ((Int) × (Unit))) × ((DCell) × (List (Int))))) =>
  some (0, (((), (v144.2.1.2.1, ())), v144.2.2.2))
noncomputable def z36b : AC :=
  (.seq (.region [(iO 6 (.box (.t 2))),
    (iO 7 (.box (.t 3))),
    (iO 8 (.mv (nI 0)))])
  (.seq (.block 0 (.seq (.region [(iO 14 (.mv (.t 0))),
    (iO 15 (.eqp false (.t 14) (.c .nilp))),
    (iO 13 (.mv (.t 15)))])
  (.cond (.t 13)
  (.seq (.region [(iO 8 .bad)])
    .ret)
  (.seq (.region [(iO 17 (.mv (.t 1))),
      (iO 18 (.load true 18 (.t 7))),
      (iC 19 19 [((.t 17), none), ((.t 18), some YCell)]),
      (iO 20 (.un .not (.t 19))),
      (iO 16 (.mv (.t 20)))])
    (.cond (.t 16)
    (.seq (.region [(iO 8 (.mv (nI 12)))])
      .ret)
    .skip)))))
  (.seq (.region [(iO 21 (.mv (.t 0))),
    (iO 22 (.mv (.t 1))),
    (iO 23 (.load true 18 (.t 7))),
    (iC 24 37 [((.t 21), none), ((.t 22), none), ((.t 23), some YCell)])])
  (.seq (.seq (.region [(iO 25 (.fad 1 1 (.t 7))),
    (iO 26 (.load false 1 (.t 25)))])
  (.cond (.t 26)
  (.seq (.region [(iO 8 (.mv (nI 0)))])
    .ret)
  .skip))
  (.seq (.draw [(iO 28 (.fad 2 2 (.t 7))),
    (iOa 29 (.load false 1 (.t 28)) [0]),
    (iCa 30 39 [((.t 29), none)] [0, 1]),
    (iO 31 (.load true 18 (.t 7))),
    (iCa 32 40 [((.t 31), some YCell)] (rg [0, 4])),
    (iOa 33 (.bin .shr (.t 32) (.c (.tv (.int .u64) (2 : Int)))) (rg [0, 5])),
    (iCa 34 38 [((.t 30), none), ((.t 33), none)] (rg [0, 6])),
    (iOa 27 (.mv (.t 34)) (rg [0, 7])),
    (iOa 35 (.ext (.t 27) 0) (rg [0, 8])),
    (iOa 36 (.ext (.t 27) 1) (rg [0, 8])),
    (iOa 9 (.mv (.t 35)) (rg [0, 9])),
    (iOa 10 (.mv (.t 36)) (rg [0, 11]))])
  (.seq (.region [(iO 37 (.mv (.t 0))),
    (iO 38 (.mv (.t 9))),
    (iC 39 23 [((.t 37), none), ((.t 38), none)])])
  (.seq (.seq (.region [(iO 40 (.fad 2 2 (.t 7))),
    (iO 41 (.load false 1 (.t 40))),
    (iC 42 41 [((.t 41), none)])])
  (.unit 0 z36u0d false z36u0b))
  (.seq (.seq (.region [(iO 52 (.mv (nI 0)))])
  (.block 1 (.unit 1 z36u1d true z36u1b)))
  (.seq (.seq (.region [(iO 77 (.mv (nI 0)))])
  (.block 3 (.unit 2 z36u2d true z36u2b)))
  (.seq (.region [(iO 8 (.mv (nI 0)))])
  .ret))))))))))
noncomputable def z36f : FDef := ⟨4, 94, [.tmp 8 none], z36b⟩
noncomputable def z36p : XPat := ⟨.normal, [(.ptr 0 []), (.tv .bool), (.tv (.arr 2 (.int .i64))), (.tv YCell)], [(.box (.cons (.row 1) (.cons (.tv (.int .i64)) .nil))), (.row (.int .u8) false)]⟩
noncomputable def z36x : List XPat := [⟨.ret, [(.tv (.int .i64))], [(.box (.cons (.row 1) (.cons (.tv (.int .i64)) .nil))), (.row (.int .u8) false)]⟩]
noncomputable def z36t (k : Nat) (d : z36p.D) : Option (XD z36x) := cellout_Put k d.1.2.1 d.1.2.2.1 d.1.2.2.2 d.2.1.2.1 d.2.2
noncomputable def z36_e (k : Nat) : UEntry := mkU z36p z36x (z36t k) nilU
theorem z36_n (k : Nat) : UNat (z36_e k) := mkU_nat nilU_nat
theorem z36_fu (k : Nat) : FU P GL 18 (z36_e k) :=
  fn_typed (uorc := uorT (z36U3 k)) hmo (T35_ok k).oo (z36U3_k k) (fd := z36f) (AllU.seq (AllU.no (by kernel_rfl)) (AllU.seq (AllU.no (by kernel_rfl)) (AllU.seq (AllU.no (by kernel_rfl)) (AllU.seq (AllU.no (by kernel_rfl)) (AllU.seq (AllU.no (by kernel_rfl)) (AllU.seq (AllU.no (by kernel_rfl)) (AllU.seq (AllU.seq (AllU.no (by kernel_rfl)) (AllU.unit (uorc := uorT (z36U3 k)) (u := 0) (z36u0_k k))) (AllU.seq (AllU.seq (AllU.no (by kernel_rfl)) (AllU.block (AllU.unit (uorc := uorT (z36U3 k)) (u := 1) (z36u1_k k)))) (AllU.seq (AllU.seq (AllU.no (by kernel_rfl)) (AllU.block (AllU.unit (uorc := uorT (z36U3 k)) (u := 2) (z36u2_k k)))) (AllU.no (by kernel_rfl))))))))))) (fn := Tryd.f18) (by kernel_rfl) (by kernel_rfl) (fun d => by kernel_rfl) FU_nil
noncomputable def T36 (k : Nat) : List (Nat × Ent) := (18, ⟨z36_e k⟩) :: T35 k
theorem T36_ok (k : Nat) : TabOK P GL (T36 k) := (T35_ok k).cons (z36_fu k) (z36_n k)
/-! ### (*overspill.outbits.Writer).Len -/
noncomputable def z37U0 (_ : Nat) : List (Nat × Ent) := []
theorem z37U0_k (k : Nat) : UTab (z37U0 k) := UTab.nil
noncomputable def outbits_Writer_Len (k : Nat) (x0 : Int) (x1 : List (Int)) : Option ((Int) × (((Unit) × ((Int) × (Unit))) × (List (Int)))) :=
  some (x0, (((), (x0, ())), x1))
noncomputable def z37b : AC :=
  (.seq (.region [(iO 2 (.mv (nI 0)))])
  (.seq (.seq (.region [(iO 3 (.mv (.t 0))),
    (iO 4 (.eqp false (.t 3) (.c .nilp)))])
  (.cond (.t 4)
  (.seq (.region [(iO 2 .bad)])
    .ret)
  .skip))
  (.seq (.region [(iO 5 (.mv (.t 0))),
    (iO 6 (.nilc (.t 5))),
    (iO 7 (.fad 1 1 (.t 6))),
    (iO 8 (.load false 1 (.t 7))),
    (iO 2 (.mv (.t 8)))])
  .ret)))
noncomputable def z37f : FDef := ⟨1, 9, [.tmp 2 none], z37b⟩
noncomputable def z37p : XPat := ⟨.normal, [(.ptr 0 [])], [(.box (.cons (.row 1) (.cons (.tv (.int .i64)) .nil))), (.row (.int .u8) false)]⟩
noncomputable def z37x : List XPat := [⟨.ret, [(.tv (.int .i64))], [(.box (.cons (.row 1) (.cons (.tv (.int .i64)) .nil))), (.row (.int .u8) false)]⟩]
noncomputable def z37t (k : Nat) (d : z37p.D) : Option (XD z37x) := outbits_Writer_Len k d.2.1.2.1 d.2.2
noncomputable def z37_e (k : Nat) : UEntry := mkU z37p z37x (z37t k) nilU
theorem z37_n (k : Nat) : UNat (z37_e k) := mkU_nat nilU_nat
theorem z37_fu (k : Nat) : FU P GL 20 (z37_e k) :=
  fn_typed (uorc := uorT (z37U0 k)) hmo (T36_ok k).oo (z37U0_k k) (fd := z37f) (AllU.no (by kernel_rfl)) (fn := Tryd.f20) (by kernel_rfl) (by kernel_rfl) (fun d => by kernel_rfl) FU_nil
noncomputable def T37 (k : Nat) : List (Nat × Ent) := (20, ⟨z37_e k⟩) :: T36 k
theorem T37_ok (k : Nat) : TabOK P GL (T37 k) := (T36_ok k).cons (z37_fu k) (z37_n k)
/-! ### (*overspill.outbits.Writer).Text -/
noncomputable def z38U0 (_ : Nat) : List (Nat × Ent) := []
theorem z38U0_k (k : Nat) : UTab (z38U0 k) := UTab.nil
noncomputable def outbits_Writer_Text (k : Nat) (x0 : Int) (x1 : List (Int)) : Option ((List UInt8) × (((Unit) × ((Int) × (Unit))) × (List (Int)))) :=
  some ((List.map toU8 x1), (((), (x0, ())), x1))
noncomputable def z38b : AC :=
  (.seq (.region [(iO 2 (.mv (.c (.tv .str (([] : List UInt8) : List UInt8)))))])
  (.seq (.seq (.region [(iO 3 (.mv (.t 0))),
    (iO 4 (.eqp false (.t 3) (.c .nilp)))])
  (.cond (.t 4)
  (.seq (.region [(iO 2 .bad)])
    .ret)
  .skip))
  (.seq (.region [(iO 5 (.mv (.t 0))),
    (iO 6 (.nilc (.t 5))),
    (iO 7 (.fad 0 0 (.t 6))),
    (iO 8 (.load false 1 (.t 7))),
    (iO 9 (.bstr (.t 8))),
    (iO 2 (.mv (.t 9)))])
  .ret)))
noncomputable def z38f : FDef := ⟨1, 10, [.tmp 2 none], z38b⟩
noncomputable def z38p : XPat := ⟨.normal, [(.ptr 0 [])], [(.box (.cons (.row 1) (.cons (.tv (.int .i64)) .nil))), (.row (.int .u8) false)]⟩
noncomputable def z38x : List XPat := [⟨.ret, [(.tv .str)], [(.box (.cons (.row 1) (.cons (.tv (.int .i64)) .nil))), (.row (.int .u8) false)]⟩]
noncomputable def z38t (k : Nat) (d : z38p.D) : Option (XD z38x) := outbits_Writer_Text k d.2.1.2.1 d.2.2
noncomputable def z38_e (k : Nat) : UEntry := mkU z38p z38x (z38t k) nilU
theorem z38_n (k : Nat) : UNat (z38_e k) := mkU_nat nilU_nat
theorem z38_fu (k : Nat) : FU P GL 21 (z38_e k) :=
  fn_typed (uorc := uorT (z38U0 k)) hmo (T37_ok k).oo (z38U0_k k) (fd := z38f) (AllU.no (by kernel_rfl)) (fn := Tryd.f21) (by kernel_rfl) (by kernel_rfl) (fun d => by kernel_rfl) FU_nil
noncomputable def T38 (k : Nat) : List (Nat × Ent) := (21, ⟨z38_e k⟩) :: T37 k
theorem T38_ok (k : Nat) : TabOK P GL (T38 k) := (T37_ok k).cons (z38_fu k) (z38_n k)
/-! ### overspill.overspilllaw22.lives -/
noncomputable def z39U0 (_ : Nat) : List (Nat × Ent) := []
theorem z39U0_k (k : Nat) : UTab (z39U0 k) := UTab.nil
noncomputable def overspilllaw22_lives (k : Nat) : Option (Bool) :=
  Option.bind (outbits_New k) fun (v5 : (Unit) × (((Unit) × ((Int) × (Unit))) × (List (Int)))) =>
  Option.bind (cellout_Put k true (Ty.zero (.arr 2 (.int .i64))) (1, (true, (0, (0, ((Ty.zero (.arr 2 (.int .i64))), ((Ty.zero (.arr 6 (.int .i64))), ((Ty.zero (.arr 6 (.sl YEvent))), ()))))))) v5.2.1.2.1 v5.2.2) fun (v145 : (Int) × (((Unit) × ((Int) × (Unit))) × (List (Int)))) =>
  bif (decide (v145.1 = 0)) then
    Option.bind (outbits_Writer_Len k v145.2.1.2.1 v145.2.2) fun (v146 : (Int) × (((Unit) × ((Int) × (Unit))) × (List (Int)))) =>
    bif (decide (v146.1 = 11)) then
      Option.bind (outbits_Writer_Text k v146.2.1.2.1 v146.2.2) fun (v147 : (List UInt8) × (((Unit) × ((Int) × (Unit))) × (List (Int)))) =>
      bif (decide (v147.1 = ([0, 96] : List UInt8))) then
        Option.bind (cellout_Right k false (0, (true, (0, (0, ((Ty.zero (.arr 2 (.int .i64))), ((Ty.zero (.arr 6 (.int .i64))), ((Ty.zero (.arr 6 (.sl YEvent))), ())))))))) fun (v148 : Bool) =>
        some (!v148)
      else
      some false
    else
    some false
  else
  some false
noncomputable def z39b : AC :=
  (.seq (.region [(iO 0 (.mv (.c (.tv .bool (false : Bool)))))])
  (.seq (.region [(iC 3 17 []),
    (iO 1 (.mv (.t 3)))])
  (.seq (.region [(iO 4 (.mv (.t 1))),
    (iO 5 (.build 24 (.tv (.arr 2 (.int .i64))) [])),
    (iO 6 (.build 34 (.tv YCell) [(0, (.fld 0 0), 1, (nI 1)), (1, (.fld 1 1), 1, (.c (.tv .bool (true : Bool))))])),
    (iC 7 18 [((.t 4), none), ((.c (.tv .bool (true : Bool))), none), ((.t 5), some (.arr 2 (.int .i64))), ((.t 6), some YCell)]),
    (iO 2 (.mv (.t 7)))])
  (.seq (.region [(iO 8 (.mv (.t 2))),
    (iO 9 (.bin .eql (.t 8) (nI 0))),
    (iO 10 (.mv (.t 9))),
    ⟨some 11, some (2, 10, true), (.op (.mv (.t 1))), []⟩,
    ⟨some 12, some (2, 10, true), (.call (.c (.fn 20 .nil .nil)) [((.t 11), none)]), []⟩,
    ⟨some 13, some (2, 10, true), (.op (.bin .eql (.t 12) (nI 11))), []⟩,
    (iO 14 (.pick (.t 10) (.t 13) (.c (.tv .bool (false : Bool))))),
    (iO 15 (.mv (.t 14))),
    ⟨some 16, some (7, 15, true), (.op (.mv (.t 1))), []⟩,
    ⟨some 17, some (7, 15, true), (.call (.c (.fn 21 .nil .nil)) [((.t 16), none)]), []⟩,
    ⟨some 18, some (7, 15, true), (.op (.bin .eql (.t 17) (.c (.tv .str (([0, 96] : List UInt8) : List UInt8))))), []⟩,
    (iO 19 (.pick (.t 15) (.t 18) (.c (.tv .bool (false : Bool))))),
    (iO 20 (.mv (.t 19))),
    ⟨some 21, some (12, 20, true), (.op (.build 34 (.tv YCell) [(1, (.fld 1 1), 1, (.c (.tv .bool (true : Bool))))])), []⟩,
    ⟨some 22, some (12, 20, true), (.call (.c (.fn 19 .nil .nil)) [((.c (.tv .bool (false : Bool))), none), ((.t 21), some YCell)]), []⟩,
    ⟨some 23, some (12, 20, true), (.op (.un .not (.t 22))), []⟩,
    (iO 24 (.pick (.t 20) (.t 23) (.c (.tv .bool (false : Bool))))),
    (iO 0 (.mv (.t 24)))])
  .ret))))
noncomputable def z39f : FDef := ⟨0, 25, [.tmp 0 none], z39b⟩
noncomputable def z39p : XPat := ⟨.normal, [], []⟩
noncomputable def z39x : List XPat := [⟨.ret, [(.tv .bool)], []⟩]
noncomputable def z39t (k : Nat) (d : z39p.D) : Option (XD z39x) := overspilllaw22_lives k
noncomputable def z39_e (k : Nat) : UEntry := mkU z39p z39x (z39t k) nilU
theorem z39_n (k : Nat) : UNat (z39_e k) := mkU_nat nilU_nat
theorem z39_fu (k : Nat) : FU P GL 16 (z39_e k) :=
  fn_typed (uorc := uorT (z39U0 k)) hmo (T38_ok k).oo (z39U0_k k) (fd := z39f) (AllU.no (by kernel_rfl)) (fn := Tryd.f16) (by kernel_rfl) (by kernel_rfl) (fun d => by kernel_rfl) FU_nil
noncomputable def T39 (k : Nat) : List (Nat × Ent) := (16, ⟨z39_e k⟩) :: T38 k
theorem T39_ok (k : Nat) : TabOK P GL (T39 k) := (T38_ok k).cons (z39_fu k) (z39_n k)
/-! ### (*overspill.inbits.Reader).At -/
noncomputable def z40U0 (_ : Nat) : List (Nat × Ent) := []
theorem z40U0_k (k : Nat) : UTab (z40U0 k) := UTab.nil
noncomputable def inbits_Reader_At (k : Nat) (x0 : DReader) : Option ((Int) × (DReader)) :=
  some (x0.2.1, x0)
noncomputable def z40b : AC :=
  (.seq (.region [(iO 2 (.mv (nI 0)))])
  (.seq (.seq (.region [(iO 3 (.mv (.t 0))),
    (iO 4 (.eqp false (.t 3) (.c .nilp)))])
  (.cond (.t 4)
  (.seq (.region [(iO 2 .bad)])
    .ret)
  .skip))
  (.seq (.region [(iO 5 (.mv (.t 0))),
    (iO 6 (.nilc (.t 5))),
    (iO 7 (.fad 1 1 (.t 6))),
    (iO 8 (.load false 1 (.t 7))),
    (iO 2 (.mv (.t 8)))])
  .ret)))
noncomputable def z40f : FDef := ⟨1, 9, [.tmp 2 none], z40b⟩
noncomputable def z40p : XPat := ⟨.normal, [(.ptr 0 [])], [(.box (.tv YReader))]⟩
noncomputable def z40x : List XPat := [⟨.ret, [(.tv (.int .i64))], [(.box (.tv YReader))]⟩]
noncomputable def z40t (k : Nat) (d : z40p.D) : Option (XD z40x) := inbits_Reader_At k d.2
noncomputable def z40_e (k : Nat) : UEntry := mkU z40p z40x (z40t k) nilU
theorem z40_n (k : Nat) : UNat (z40_e k) := mkU_nat nilU_nat
theorem z40_fu (k : Nat) : FU P GL 14 (z40_e k) :=
  fn_typed (uorc := uorT (z40U0 k)) hmo (T39_ok k).oo (z40U0_k k) (fd := z40f) (AllU.no (by kernel_rfl)) (fn := Tryd.f14) (by kernel_rfl) (by kernel_rfl) (fun d => by kernel_rfl) FU_nil
noncomputable def T40 (k : Nat) : List (Nat × Ent) := (14, ⟨z40_e k⟩) :: T39 k
theorem T40_ok (k : Nat) : TabOK P GL (T40 k) := (T39_ok k).cons (z40_fu k) (z40_n k)
/-! ### (*overspill.inbits.Reader).Peek -/
noncomputable def z41U0 (_ : Nat) : List (Nat × Ent) := []
theorem z41U0_k (k : Nat) : UTab (z41U0 k) := UTab.nil
noncomputable def z41u0d : UDef := ⟨[(1, none), (9, none)], [9, 12, 13, 14, 15], [(.normal, [(9, none)])], []⟩
noncomputable def z41u0p : XPat := ⟨.normal, [(.tv (.int .i64)), (.tv .bool)], []⟩
noncomputable def z41u0x : List XPat := [⟨.normal, [(.tv .bool)], []⟩]
noncomputable def inbits_Reader_Peeku0 (k : Nat) (x0 : Int) (x1 : Bool) : Option (Bool) :=
  bif x1 then
    some x1
  else
  bif (decide (x0 < 0)) then
    some (decide (x0 < 0))
  else
  some (decide ((32 : Int) < x0))
noncomputable def z41u0b : AC :=
  (.cond (.t 9)
  .skip
  (.seq (.region [(iO 12 (.mv (.t 1))),
      (iO 13 (.bin .lss (.t 12) (nI 0))),
      (iO 9 (.mv (.t 13)))])
    (.cond (.t 9)
    .skip
    (.region [(iO 14 (.mv (.t 1))),
        (iO 15 (.bin .gtr (.t 14) (nI 32))),
        (iO 9 (.mv (.t 15)))]))))
noncomputable def z41u0t (k : Nat) (d : z41u0p.D) : Option (XD z41u0x) := inbits_Reader_Peeku0 k d.1 d.2
theorem z41u0_k (k : Nat) : UOK P GL (mkU z41u0p z41u0x (z41u0t k) nilU) z41u0d false z41u0b :=
  unit_typed (ud := z41u0d) (body := z41u0b) (uorc := uorT (z41U0 k)) hmo (T40_ok k).oo (z41U0_k k) (AllU.no (by kernel_rfl)) (fun d => by kernel_rfl)
noncomputable def z41U1 (k : Nat) : List (Nat × Ent) := (0, ⟨mkU z41u0p z41u0x (z41u0t k) nilU⟩) :: z41U0 k
theorem z41U1_k (k : Nat) : UTab (z41U1 k) := (z41U0_k k).cons (mkU_nat nilU_nat)
noncomputable def z41u1d : UDef := ⟨[(0, none), (6, none), (30, none), (31, none)], [6, 7, 8, 31, 32, 33, 34, 35, 36, 37, 38, 39, 40, 41, 42, 43, 44, 45, 46, 47, 48, 49, 50, 51, 52, 53, 54, 55, 56, 57], [((.exit 1), [(6, none)])], []⟩
noncomputable def z41u1p : XPat := ⟨.normal, [(.ptr 0 []), (.tv (.int .i64)), (.tv (.int .i64)), (.tv (.int .i64))], [(.box (.tv YReader))]⟩
noncomputable def z41u1x : List XPat := [⟨(.exit 1), [(.tv (.int .i64))], [(.box (.tv YReader))]⟩]
noncomputable def inbits_Reader_Peeku1 (k : Nat) : Nat → (Int) → (Int) → (Int) → (DReader) → Option ((Int) × (DReader))
  | 0, _, _, _, _ => none
  | n + 1, x0, x1, x2, x3 =>
    bif (decide (x2 < x1)) then
      bif (inR (wr .i64 (Int.tdiv (wr .i64 (x3.2.1 + x2)) 8)) (List.length x3.1)) then
        bif (decide ((wr .u64 (wr .i64 (7 - (Int.tmod (wr .i64 (x3.2.1 + x2)) 8)))) < 0)) then
          none
        else
        Option.bind (inbits_Reader_Peeku1 k n (bitop .or .i64 (shlI .i64 x0 1) (wr .i64 (bitop .and .u8 (shrI .u8 ((UInt8.toNat (List.getD x3.1 (Int.toNat (wr .i64 (Int.tdiv (wr .i64 (x3.2.1 + x2)) 8))) 0) : Nat) : Int) (wr .u64 (wr .i64 (7 - (Int.tmod (wr .i64 (x3.2.1 + x2)) 8))))) 1))) x1 (wr .i64 (x2 + 1)) x3) fun r => some r
      else
        none
    else
    some (x0, x3)
noncomputable def z41u1b : AC :=
  (.seq (.region [(iO 32 (.bin .lss (.t 31) (.t 30)))])
  (.seq (.cond (.t 32)
  .skip
  (.exit 1))
  (.seq (.block 2 (.seq (.region [(iO 33 (.mv (.t 31))),
    (iO 7 (.mv (.t 33)))])
  (.seq (.region [(iO 34 (.mv (.t 0))),
    (iO 35 (.nilc (.t 34))),
    (iO 36 (.fad 1 1 (.t 35))),
    (iO 37 (.load false 1 (.t 36))),
    (iO 38 (.mv (.t 7))),
    (iO 39 (.bin .add (.t 37) (.t 38))),
    (iO 8 (.mv (.t 39)))])
  (.region [(iO 40 (.mv (.t 6))),
    (iO 41 (.bin .shl (.t 40) (.c (.tv (.int .u64) (1 : Int))))),
    (iO 42 (.mv (.t 0))),
    (iO 43 (.nilc (.t 42))),
    (iO 44 (.fad 0 0 (.t 43))),
    (iO 45 (.load false 1 (.t 44))),
    (iO 46 (.mv (.t 8))),
    (iO 47 (.bin .quo (.t 46) (nI 8))),
    (iO 48 (.ixs (.t 45) (.t 47))),
    (iO 49 (.mv (.t 8))),
    (iO 50 (.bin .rem (.t 49) (nI 8))),
    (iO 51 (.bin .sub (nI 7) (.t 50))),
    (iO 52 (.conv .u64 (.t 51))),
    (iO 53 (.bin .shr (.t 48) (.t 52))),
    (iO 54 (.bin .and (.t 53) (.c (.tv (.int .u8) (1 : Int))))),
    (iO 55 (.conv .i64 (.t 54))),
    (iO 56 (.bin .or (.t 41) (.t 55))),
    (iO 6 (.mv (.t 56)))]))))
  (.region [(iO 57 (.bin .add (.t 31) (nI 1))),
    (iO 31 (.mv (.t 57)))]))))
noncomputable def z41u1t (k n : Nat) (d : z41u1p.D) : Option (XD z41u1x) := inbits_Reader_Peeku1 k n d.1.2.1 d.1.2.2.1 d.1.2.2.2 d.2
theorem z41u1_k (k : Nat) : UOK P GL (mkU z41u1p z41u1x (z41u1t k k) nilU) z41u1d true z41u1b :=
  loop_typed (ud := z41u1d) (body := z41u1b) (uorc := uorT (z41U1 k)) hmo (T40_ok k).oo (z41U1_k k) (AllU.no (by kernel_rfl)) (t := z41u1t k) (fun d => by kernel_rfl) (fun n d => by kernel_rfl) k
noncomputable def z41U2 (k : Nat) : List (Nat × Ent) := (1, ⟨mkU z41u1p z41u1x (z41u1t k k) nilU⟩) :: z41U1 k
theorem z41U2_k (k : Nat) : UTab (z41U2 k) := (z41U1_k k).cons (mkU_nat nilU_nat)
noncomputable def inbits_Reader_Peek (k : Nat) (x0 : Int) (x1 : DReader) : Option (((Int) × ((Int) × (Unit))) × (DReader)) :=
  Option.bind (inbits_Reader_Peeku0 k x0 false) fun (v151 : Bool) =>
  bif v151 then
    some ((0, (1, ())), x1)
  else
  bif (decide ((wr .i64 ((wr .i64 (8 * ((List.length x1.1 : Nat) : Int))) - x1.2.1)) < x0)) then
    some ((0, (2, ())), x1)
  else
  Option.bind (inbits_Reader_Peeku1 k k 0 x0 0 x1) fun (v152 : (Int) × (DReader)) =>
  some ((v152.1, (0, ())), v152.2)
noncomputable def z41b : AC :=
  (.seq (.region [(iO 4 (.mv (nI 0))),
    (iO 5 (.mv (nI 0)))])
  (.seq (.block 0 (.seq (.seq (.region [(iO 10 (.mv (.t 0))),
    (iO 11 (.eqp false (.t 10) (.c .nilp))),
    (iO 9 (.mv (.t 11)))])
  (.unit 0 z41u0d false z41u0b))
  (.cond (.t 9)
  (.seq (.region [(iO 4 (.mv (nI 0))),
      (iO 5 (.mv (nI 1)))])
    .ret)
  (.seq (.draw [(iO 17 (.mv (.t 1))),
      (iO 18 (.mv (.t 0))),
      (iOa 19 (.nilc (.t 18)) [1]),
      (iOa 20 (.fad 0 0 (.t 19)) [1, 2]),
      (iOa 21 (.load false 1 (.t 20)) [1, 2, 3]),
      (iOa 22 (.lens (.t 21)) (rg [1, 4])),
      (iOa 23 (.bin .mul (nI 8) (.t 22)) (rg [1, 5])),
      (iO 24 (.mv (.t 0))),
      (iOa 25 (.nilc (.t 24)) [7]),
      (iOa 26 (.fad 1 1 (.t 25)) [7, 8]),
      (iOa 27 (.load false 1 (.t 26)) [7, 8, 9]),
      (iOa 28 (.bin .sub (.t 23) (.t 27)) (rg [1, 10])),
      (iOa 29 (.bin .gtr (.t 17) (.t 28)) (rg [0, 12])),
      (iOa 16 (.mv (.t 29)) (rg [0, 13]))])
    (.cond (.t 16)
    (.seq (.region [(iO 4 (.mv (nI 0))),
        (iO 5 (.mv (nI 2)))])
      .ret)
    .skip)))))
  (.seq (.region [(iO 6 (.mv (nI 0)))])
  (.seq (.seq (.region [(iO 30 (.mv (.t 1))),
    (iO 31 (.mv (nI 0)))])
  (.block 1 (.unit 1 z41u1d true z41u1b)))
  (.seq (.region [(iO 58 (.mv (.t 6))),
    (iO 4 (.mv (.t 58))),
    (iO 5 (.mv (nI 0)))])
  .ret)))))
noncomputable def z41f : FDef := ⟨2, 59, [.tmp 4 none, .tmp 5 none], z41b⟩
noncomputable def z41p : XPat := ⟨.normal, [(.ptr 0 []), (.tv (.int .i64))], [(.box (.tv YReader))]⟩
noncomputable def z41x : List XPat := [⟨.ret, [(.tup (.cons (.tv (.int .i64)) (.cons (.tv (.int .i64)) .nil)))], [(.box (.tv YReader))]⟩]
noncomputable def z41t (k : Nat) (d : z41p.D) : Option (XD z41x) := inbits_Reader_Peek k d.1.2 d.2
noncomputable def z41_e (k : Nat) : UEntry := mkU z41p z41x (z41t k) nilU
theorem z41_n (k : Nat) : UNat (z41_e k) := mkU_nat nilU_nat
theorem z41_fu (k : Nat) : FU P GL 95 (z41_e k) :=
  fn_typed (uorc := uorT (z41U2 k)) hmo (T40_ok k).oo (z41U2_k k) (fd := z41f) (AllU.seq (AllU.no (by kernel_rfl)) (AllU.seq (AllU.block (AllU.seq (AllU.seq (AllU.no (by kernel_rfl)) (AllU.unit (uorc := uorT (z41U2 k)) (u := 0) (z41u0_k k))) (AllU.no (by kernel_rfl)))) (AllU.seq (AllU.no (by kernel_rfl)) (AllU.seq (AllU.seq (AllU.no (by kernel_rfl)) (AllU.block (AllU.unit (uorc := uorT (z41U2 k)) (u := 1) (z41u1_k k)))) (AllU.no (by kernel_rfl)))))) (fn := Tryd.f95) (by kernel_rfl) (by kernel_rfl) (fun d => by kernel_rfl) FU_nil
noncomputable def T41 (k : Nat) : List (Nat × Ent) := (95, ⟨z41_e k⟩) :: T40 k
theorem T41_ok (k : Nat) : TabOK P GL (T41 k) := (T40_ok k).cons (z41_fu k) (z41_n k)
/-! ### (*overspill.inbits.Reader).Take -/
noncomputable def z42U0 (_ : Nat) : List (Nat × Ent) := []
theorem z42U0_k (k : Nat) : UTab (z42U0 k) := UTab.nil
noncomputable def inbits_Reader_Take (k : Nat) (x0 : Int) (x1 : DReader) : Option (((Int) × ((Int) × (Unit))) × (DReader)) :=
  Option.bind (inbits_Reader_Peek k x0 x1) fun (v153 : ((Int) × ((Int) × (Unit))) × (DReader)) =>
  bif (decide (v153.1.2.1 = 0)) then
    some ((v153.1.1, (v153.1.2.1, ())), (v153.2.1, ((wr .i64 (v153.2.2.1 + x0)), v153.2.2.2)))
  else
  some ((v153.1.1, (v153.1.2.1, ())), v153.2)
noncomputable def z42b : AC :=
  (.seq (.region [(iO 4 (.mv (nI 0))),
    (iO 5 (.mv (nI 0)))])
  (.seq (.region [(iO 9 (.mv (.t 0))),
    (iO 10 (.mv (.t 1))),
    (iC 11 95 [((.t 9), none), ((.t 10), none)]),
    (iO 8 (.mv (.t 11))),
    (iO 12 (.ext (.t 8) 0)),
    (iO 13 (.ext (.t 8) 1)),
    (iO 6 (.mv (.t 12))),
    (iO 7 (.mv (.t 13)))])
  (.seq (.seq (.region [(iO 14 (.mv (.t 7))),
    (iO 15 (.bin .eql (.t 14) (nI 0)))])
  (.cond (.t 15)
  (.region [(iO 16 (.mv (.t 0))),
      (iO 17 (.nilc (.t 16))),
      (iO 18 (.fad 1 1 (.t 17))),
      (iO 19 (.load false 1 (.t 18))),
      (iO 20 (.mv (.t 1))),
      (iO 21 (.bin .add (.t 19) (.t 20))),
      (iO 22 (.nilc (.t 16))),
      (iO 23 (.fad 1 1 (.t 22))),
      (iS (.store 1 none (.t 23) (.t 21)))])
  .skip))
  (.seq (.region [(iO 24 (.mv (.t 6))),
    (iO 25 (.mv (.t 7))),
    (iO 4 (.mv (.t 24))),
    (iO 5 (.mv (.t 25)))])
  .ret))))
noncomputable def z42f : FDef := ⟨2, 26, [.tmp 4 none, .tmp 5 none], z42b⟩
noncomputable def z42p : XPat := ⟨.normal, [(.ptr 0 []), (.tv (.int .i64))], [(.box (.tv YReader))]⟩
noncomputable def z42x : List XPat := [⟨.ret, [(.tup (.cons (.tv (.int .i64)) (.cons (.tv (.int .i64)) .nil)))], [(.box (.tv YReader))]⟩]
noncomputable def z42t (k : Nat) (d : z42p.D) : Option (XD z42x) := inbits_Reader_Take k d.1.2 d.2
noncomputable def z42_e (k : Nat) : UEntry := mkU z42p z42x (z42t k) nilU
theorem z42_n (k : Nat) : UNat (z42_e k) := mkU_nat nilU_nat
theorem z42_fu (k : Nat) : FU P GL 72 (z42_e k) :=
  fn_typed (uorc := uorT (z42U0 k)) hmo (T41_ok k).oo (z42U0_k k) (fd := z42f) (AllU.no (by kernel_rfl)) (fn := Tryd.f72) (by kernel_rfl) (by kernel_rfl) (fun d => by kernel_rfl) FU_nil
noncomputable def T42 (k : Nat) : List (Nat × Ent) := (72, ⟨z42_e k⟩) :: T41 k
theorem T42_ok (k : Nat) : TabOK P GL (T42 k) := (T41_ok k).cons (z42_fu k) (z42_n k)
/-! ### (*overspill.cellin.reader).bit -/
noncomputable def z43U0 (_ : Nat) : List (Nat × Ent) := []
theorem z43U0_k (k : Nat) : UTab (z43U0 k) := UTab.nil
noncomputable def cellin_reader_bit (k : Nat) (x0 : Int) (x1 : DReader) : Option ((Int) × (((Unit) × ((Int) × (Unit))) × (DReader))) :=
  bif (!(decide (x0 = 0))) then
    some (0, (((), (x0, ())), x1))
  else
  Option.bind (inbits_Reader_Take k 1 x1) fun (v154 : ((Int) × ((Int) × (Unit))) × (DReader)) =>
  some (v154.1.1, (((), (v154.1.2.1, ())), v154.2))
noncomputable def z43b : AC :=
  (.seq (.region [(iO 2 (.mv (nI 0)))])
  (.seq (.seq (.region [(iO 5 (.mv (.t 0))),
    (iO 6 (.nilc (.t 5))),
    (iO 7 (.fad 1 1 (.t 6))),
    (iO 8 (.load false 1 (.t 7))),
    (iO 9 (.bin .neq (.t 8) (nI 0)))])
  (.cond (.t 9)
  (.seq (.region [(iO 2 (.mv (nI 0)))])
    .ret)
  .skip))
  (.seq (.region [(iO 11 (.mv (.t 0))),
    (iO 12 (.nilc (.t 11))),
    (iO 13 (.fad 0 0 (.t 12))),
    (iO 14 (.load false 1 (.t 13))),
    (iC 15 72 [((.t 14), none), ((nI 1), none)]),
    (iO 10 (.mv (.t 15))),
    (iO 16 (.ext (.t 10) 0)),
    (iO 17 (.ext (.t 10) 1)),
    (iO 3 (.mv (.t 16))),
    (iO 4 (.mv (.t 17)))])
  (.seq (.region [(iO 18 (.mv (.t 0))),
    (iO 19 (.mv (.t 4))),
    (iO 20 (.nilc (.t 18))),
    (iO 21 (.fad 1 1 (.t 20))),
    (iS (.store 1 none (.t 21) (.t 19)))])
  (.seq (.region [(iO 22 (.mv (.t 3))),
    (iO 2 (.mv (.t 22)))])
  .ret)))))
noncomputable def z43f : FDef := ⟨1, 23, [.tmp 2 none], z43b⟩
noncomputable def z43p : XPat := ⟨.normal, [(.ptr 0 [])], [(.box (.cons (.ptr 1 []) (.cons (.tv (.int .i64)) .nil))), (.box (.tv YReader))]⟩
noncomputable def z43x : List XPat := [⟨.ret, [(.tv (.int .i64))], [(.box (.cons (.ptr 1 []) (.cons (.tv (.int .i64)) .nil))), (.box (.tv YReader))]⟩]
noncomputable def z43t (k : Nat) (d : z43p.D) : Option (XD z43x) := cellin_reader_bit k d.2.1.2.1 d.2.2
noncomputable def z43_e (k : Nat) : UEntry := mkU z43p z43x (z43t k) nilU
theorem z43_n (k : Nat) : UNat (z43_e k) := mkU_nat nilU_nat
theorem z43_fu (k : Nat) : FU P GL 50 (z43_e k) :=
  fn_typed (uorc := uorT (z43U0 k)) hmo (T42_ok k).oo (z43U0_k k) (fd := z43f) (AllU.no (by kernel_rfl)) (fn := Tryd.f50) (by kernel_rfl) (by kernel_rfl) (fun d => by kernel_rfl) FU_nil
noncomputable def T43 (k : Nat) : List (Nat × Ent) := (50, ⟨z43_e k⟩) :: T42 k
theorem T43_ok (k : Nat) : TabOK P GL (T43 k) := (T42_ok k).cons (z43_fu k) (z43_n k)
/-! ### overspill.mcbpc.table$1 -/
noncomputable def z44U0 (_ : Nat) : List (Nat × Ent) := []
theorem z44U0_k (k : Nat) : UTab (z44U0 k) := UTab.nil
noncomputable def z44u0d : UDef := ⟨[(0, none), (2, none), (9, none), (10, none), (11, none)], [4, 5, 11, 12, 13, 14, 15, 16, 17, 18, 19, 20, 21, 22, 23, 24, 25], [((.exit 0), [])], []⟩
noncomputable def z44u0p : XPat := ⟨.normal, [(.tv (.int .i64)), (.ptr 0 []), (.tv (.sl .str)), (.tv (.int .i64)), (.tv (.int .i64))], [(.box (.row 1)), (.row YReader false)]⟩
noncomputable def z44u0x : List XPat := [⟨(.exit 0), [], [(.box (.row 1)), (.row YReader false)]⟩]
noncomputable def mcbpc_table_f1u0 (k : Nat) : Nat → (Int) → (List (List UInt8)) → (Int) → (Int) → (List (DReader)) → Option ((Unit) × ((Unit) × (List (DReader))))
  | 0, _, _, _, _, _ => none
  | n + 1, x0, x1, x2, x3, x4 =>
    bif (decide (x3 < x2)) then
      bif (inR x3 (List.length x1)) then
        bif (decide ((List.length x4) + 1 ≤ rowMax)) then
          Option.bind (mcbpc_table_f1u0 k n x0 x1 x2 (wr .i64 (x3 + 1)) (x4 ++ ([((List.getD x1 (Int.toNat x3) ([] : List UInt8)), ((wr .i64 ((wr .i64 (10 * x0)) + x3)), ()))] : List (DReader)))) fun r => some r
        else
          none
      else
        none
    else
    some ((), ((), x4))
noncomputable def z44u0b : AC :=
  (.seq (.region [(iO 12 (.bin .lss (.t 11) (.t 10)))])
  (.seq (.cond (.t 12)
  .skip
  (.exit 0))
  (.seq (.block 1 (.seq (.region [(iO 13 (.mv (.t 11))),
    (iO 14 (.iads .str (.t 9) (.t 11))),
    (iO 15 (.load false 1 (.t 14))),
    (iO 4 (.mv (.t 13))),
    (iO 5 (.mv (.t 15)))])
  (.region [(iO 16 (.load false 1 (.t 2))),
    (iO 17 (.mv (.t 5))),
    (iO 18 (.mv (.t 0))),
    (iO 19 (.bin .mul (nI 10) (.t 18))),
    (iO 20 (.mv (.t 4))),
    (iO 21 (.bin .add (.t 19) (.t 20))),
    (iO 22 (.build 122 (.tv YReader) [(0, (.fld 0 0), 1, (.t 17)), (1, (.fld 1 1), 1, (.t 21))])),
    (iO 23 (.bslice YReader [(.t 22)])),
    (iO 24 (.app YReader (.t 16) (.t 23))),
    (iS (.store 1 none (.t 2) (.t 24)))])))
  (.region [(iO 25 (.bin .add (.t 11) (nI 1))),
    (iO 11 (.mv (.t 25)))]))))
noncomputable def z44u0t (k n : Nat) (d : z44u0p.D) : Option (XD z44u0x) := mcbpc_table_f1u0 k n d.1.1 d.1.2.2.1 d.1.2.2.2.1 d.1.2.2.2.2 d.2.2
theorem z44u0_k (k : Nat) : UOK P GL (mkU z44u0p z44u0x (z44u0t k k) nilU) z44u0d true z44u0b :=
  loop_typed (ud := z44u0d) (body := z44u0b) (uorc := uorT (z44U0 k)) hmo (T43_ok k).oo (z44U0_k k) (AllU.no (by kernel_rfl)) (t := z44u0t k) (fun d => by kernel_rfl) (fun n d => by kernel_rfl) k
noncomputable def z44U1 (k : Nat) : List (Nat × Ent) := (0, ⟨mkU z44u0p z44u0x (z44u0t k k) nilU⟩) :: z44U0 k
theorem z44U1_k (k : Nat) : UTab (z44U1 k) := (z44U0_k k).cons (mkU_nat nilU_nat)
noncomputable def mcbpc_table_f1 (k : Nat) (x0 : Int) (x1 : Bool) (x2 : List (DReader)) : Option ((Unit) × ((Bool) × ((Unit) × (List (DReader))))) :=
  Option.bind (mcbpc_row k x1 x0) fun (v159 : List UInt8) =>
  Option.bind (strings_Fields k v159) fun (v160 : List (List UInt8)) =>
  Option.bind (mcbpc_table_f1u0 k k x0 v160 ((List.length v160 : Nat) : Int) 0 x2) fun (v161 : (Unit) × ((Unit) × (List (DReader)))) =>
  some ((), (x1, ((), v161.2.2)))
noncomputable def z44b : AC :=
  (.seq (.region [(iO 6 (.load false 1 (.t 1))),
    (iO 7 (.mv (.t 0))),
    (iC 8 89 [((.t 6), none), ((.t 7), none)]),
    (iC 9 88 [((.t 8), none)]),
    (iO 10 (.len (.t 9))),
    (iO 11 (.mv (nI 0)))])
  (.block 0 (.unit 0 z44u0d true z44u0b)))
noncomputable def z44f : FDef := ⟨3, 26, [], z44b⟩
noncomputable def z44p : XPat := ⟨.normal, [(.tv (.int .i64)), (.ptr 0 []), (.ptr 1 [])], [(.box (.tv .bool)), (.box (.row 2)), (.row YReader false)]⟩
noncomputable def z44x : List XPat := [⟨.ret, [(.tup .nil)], [(.box (.tv .bool)), (.box (.row 2)), (.row YReader false)]⟩]
noncomputable def z44t (k : Nat) (d : z44p.D) : Option (XD z44x) := mcbpc_table_f1 k d.1.1 d.2.1 d.2.2.2
noncomputable def z44_e (k : Nat) : UEntry := mkU z44p z44x (z44t k) nilU
theorem z44_n (k : Nat) : UNat (z44_e k) := mkU_nat nilU_nat
theorem z44_fu (k : Nat) : FU P GL 96 (z44_e k) :=
  fn_typed (uorc := uorT (z44U1 k)) hmo (T43_ok k).oo (z44U1_k k) (fd := z44f) (AllU.seq (AllU.no (by kernel_rfl)) (AllU.block (AllU.unit (uorc := uorT (z44U1 k)) (u := 0) (z44u0_k k)))) (fn := Tryd.f96) (by kernel_rfl) (by kernel_rfl) (fun d => by kernel_rfl) FU_nil
noncomputable def T44 (k : Nat) : List (Nat × Ent) := (96, ⟨z44_e k⟩) :: T43 k
theorem T44_ok (k : Nat) : TabOK P GL (T44 k) := (T43_ok k).cons (z44_fu k) (z44_n k)
/-! ### strings.trimRightByte -/
noncomputable def z45U0 (_ : Nat) : List (Nat × Ent) := []
theorem z45U0_k (k : Nat) : UTab (z45U0 k) := UTab.nil
noncomputable def z45u0d : UDef := ⟨[(0, none), (1, none)], [0, 5, 6, 7, 8, 9, 10, 11, 12, 13, 14, 15, 16, 17, 18, 19, 20, 21], [((.exit 0), [(0, none)])], []⟩
noncomputable def z45u0p : XPat := ⟨.normal, [(.tv .str), (.tv (.int .u8))], []⟩
noncomputable def z45u0x : List XPat := [⟨(.exit 0), [(.tv .str)], []⟩]
noncomputable def strings_trimRightByteu0 (k : Nat) : Nat → (List UInt8) → (Int) → Option (List UInt8)
  | 0, _, _ => none
  | n + 1, x0, x1 =>
    bif (decide ((0 : Int) < ((List.length x0 : Nat) : Int))) then
      bif (inR (wr .i64 (((List.length x0 : Nat) : Int) - 1)) (List.length x0)) then
        bif (decide (((UInt8.toNat (List.getD x0 (Int.toNat (wr .i64 (((List.length x0 : Nat) : Int) - 1))) 0) : Nat) : Int) = x1)) then
          bif (decide ((0 : Int) ≤ (wr .i64 (((List.length x0 : Nat) : Int) - 1)) ∧ (wr .i64 (((List.length x0 : Nat) : Int) - 1)) ≤ (((List.length x0) : Nat) : Int))) then
            Option.bind (strings_trimRightByteu0 k n (List.drop 0 (List.take (Int.toNat (wr .i64 (((List.length x0 : Nat) : Int) - 1))) x0)) x1) fun r => some r
          else
            none
        else
        some x0
      else
        none
    else
    some x0
noncomputable def z45u0b : AC :=
  (.seq (.seq (.region [(iO 5 (.mv (.t 0))),
    (iO 6 (.lens (.t 5))),
    (iO 7 (.bin .gtr (.t 6) (nI 0))),
    (iO 8 (.mv (.t 7))),
    ⟨some 9, some (3, 8, true), (.op (.mv (.t 0))), []⟩,
    ⟨some 10, some (3, 8, true), (.op (.mv (.t 0))), []⟩,
    ⟨some 11, some (3, 8, true), (.op (.lens (.t 10))), []⟩,
    ⟨some 12, some (3, 8, true), (.op (.bin .sub (.t 11) (nI 1))), []⟩,
    ⟨some 13, some (3, 8, true), (.op (.ixs (.t 9) (.t 12))), []⟩,
    ⟨some 14, some (3, 8, true), (.op (.mv (.t 1))), []⟩,
    ⟨some 15, some (3, 8, true), (.op (.bin .eql (.t 13) (.t 14))), []⟩,
    (iO 16 (.pick (.t 8) (.t 15) (.c (.tv .bool (false : Bool)))))])
  (.cond (.t 16)
  .skip
  (.exit 0)))
  (.block 1 (.region [(iO 17 (.mv (.t 0))),
    (iO 18 (.mv (.t 0))),
    (iO 19 (.lens (.t 18))),
    (iO 20 (.bin .sub (.t 19) (nI 1))),
    (iO 21 (.slis (.t 17) none (some (.t 20)))),
    (iO 0 (.mv (.t 21)))])))
noncomputable def z45u0t (k n : Nat) (d : z45u0p.D) : Option (XD z45u0x) := strings_trimRightByteu0 k n d.1 d.2
theorem z45u0_k (k : Nat) : UOK P GL (mkU z45u0p z45u0x (z45u0t k k) nilU) z45u0d true z45u0b :=
  loop_typed (ud := z45u0d) (body := z45u0b) (uorc := uorT (z45U0 k)) hmo (T44_ok k).oo (z45U0_k k) (AllU.no (by kernel_rfl)) (t := z45u0t k) (fun d => by kernel_rfl) (fun n d => by kernel_rfl) k
noncomputable def z45U1 (k : Nat) : List (Nat × Ent) := (0, ⟨mkU z45u0p z45u0x (z45u0t k k) nilU⟩) :: z45U0 k
theorem z45U1_k (k : Nat) : UTab (z45U1 k) := (z45U0_k k).cons (mkU_nat nilU_nat)
noncomputable def strings_trimRightByte (k : Nat) (x0 : List UInt8) (x1 : Int) : Option (List UInt8) :=
  Option.bind (strings_trimRightByteu0 k k x0 x1) fun (v168 : List UInt8) =>
  some v168
noncomputable def z45b : AC :=
  (.seq (.region [(iO 4 (.mv (.c (.tv .str (([] : List UInt8) : List UInt8)))))])
  (.seq (.block 0 (.unit 0 z45u0d true z45u0b))
  (.seq (.region [(iO 22 (.mv (.t 0))),
    (iO 4 (.mv (.t 22)))])
  .ret)))
noncomputable def z45f : FDef := ⟨2, 23, [.tmp 4 none], z45b⟩
noncomputable def z45p : XPat := ⟨.normal, [(.tv .str), (.tv (.int .u8))], []⟩
noncomputable def z45x : List XPat := [⟨.ret, [(.tv .str)], []⟩]
noncomputable def z45t (k : Nat) (d : z45p.D) : Option (XD z45x) := strings_trimRightByte k d.1 d.2
noncomputable def z45_e (k : Nat) : UEntry := mkU z45p z45x (z45t k) nilU
theorem z45_n (k : Nat) : UNat (z45_e k) := mkU_nat nilU_nat
theorem z45_fu (k : Nat) : FU P GL 115 (z45_e k) :=
  fn_typed (uorc := uorT (z45U1 k)) hmo (T44_ok k).oo (z45U1_k k) (fd := z45f) (AllU.seq (AllU.no (by kernel_rfl)) (AllU.seq (AllU.block (AllU.unit (uorc := uorT (z45U1 k)) (u := 0) (z45u0_k k))) (AllU.no (by kernel_rfl)))) (fn := Tryd.f115) (by kernel_rfl) (by kernel_rfl) (fun d => by kernel_rfl) FU_nil
noncomputable def T45 (k : Nat) : List (Nat × Ent) := (115, ⟨z45_e k⟩) :: T44 k
theorem T45_ok (k : Nat) : TabOK P GL (T45 k) := (T44_ok k).cons (z45_fu k) (z45_n k)
/-! ### strings.trimLeftByte -/
noncomputable def z46U0 (_ : Nat) : List (Nat × Ent) := []
theorem z46U0_k (k : Nat) : UTab (z46U0 k) := UTab.nil
noncomputable def z46u0d : UDef := ⟨[(0, none), (1, none)], [0, 5, 6, 7, 8, 9, 10, 11, 12, 13, 14, 15], [((.exit 0), [(0, none)])], []⟩
noncomputable def z46u0p : XPat := ⟨.normal, [(.tv .str), (.tv (.int .u8))], []⟩
noncomputable def z46u0x : List XPat := [⟨(.exit 0), [(.tv .str)], []⟩]
noncomputable def strings_trimLeftByteu0 (k : Nat) : Nat → (List UInt8) → (Int) → Option (List UInt8)
  | 0, _, _ => none
  | n + 1, x0, x1 =>
    bif (decide ((0 : Int) < ((List.length x0 : Nat) : Int))) then
      bif (inR 0 (List.length x0)) then
        bif (decide (((UInt8.toNat (List.getD x0 0 0) : Nat) : Int) = x1)) then
          bif (decide ((0 : Int) ≤ 1 ∧ 1 ≤ (((List.length x0) : Nat) : Int))) then
            Option.bind (strings_trimLeftByteu0 k n (List.drop 1 (List.take (List.length x0) x0)) x1) fun r => some r
          else
            none
        else
        some x0
      else
        none
    else
    some x0
noncomputable def z46u0b : AC :=
  (.seq (.seq (.region [(iO 5 (.mv (.t 0))),
    (iO 6 (.lens (.t 5))),
    (iO 7 (.bin .gtr (.t 6) (nI 0))),
    (iO 8 (.mv (.t 7))),
    ⟨some 9, some (3, 8, true), (.op (.mv (.t 0))), []⟩,
    ⟨some 10, some (3, 8, true), (.op (.ixs (.t 9) (nI 0))), []⟩,
    ⟨some 11, some (3, 8, true), (.op (.mv (.t 1))), []⟩,
    ⟨some 12, some (3, 8, true), (.op (.bin .eql (.t 10) (.t 11))), []⟩,
    (iO 13 (.pick (.t 8) (.t 12) (.c (.tv .bool (false : Bool)))))])
  (.cond (.t 13)
  .skip
  (.exit 0)))
  (.block 1 (.region [(iO 14 (.mv (.t 0))),
    (iO 15 (.slis (.t 14) (some (nI 1)) none)),
    (iO 0 (.mv (.t 15)))])))
noncomputable def z46u0t (k n : Nat) (d : z46u0p.D) : Option (XD z46u0x) := strings_trimLeftByteu0 k n d.1 d.2
theorem z46u0_k (k : Nat) : UOK P GL (mkU z46u0p z46u0x (z46u0t k k) nilU) z46u0d true z46u0b :=
  loop_typed (ud := z46u0d) (body := z46u0b) (uorc := uorT (z46U0 k)) hmo (T45_ok k).oo (z46U0_k k) (AllU.no (by kernel_rfl)) (t := z46u0t k) (fun d => by kernel_rfl) (fun n d => by kernel_rfl) k
noncomputable def z46U1 (k : Nat) : List (Nat × Ent) := (0, ⟨mkU z46u0p z46u0x (z46u0t k k) nilU⟩) :: z46U0 k
theorem z46U1_k (k : Nat) : UTab (z46U1 k) := (z46U0_k k).cons (mkU_nat nilU_nat)
noncomputable def strings_trimLeftByte (k : Nat) (x0 : List UInt8) (x1 : Int) : Option (List UInt8) :=
  Option.bind (strings_trimLeftByteu0 k k x0 x1) fun (v170 : List UInt8) =>
  some v170
noncomputable def z46b : AC :=
  (.seq (.region [(iO 4 (.mv (.c (.tv .str (([] : List UInt8) : List UInt8)))))])
  (.seq (.block 0 (.unit 0 z46u0d true z46u0b))
  (.seq (.region [(iO 16 (.mv (.t 0))),
    (iO 4 (.mv (.t 16)))])
  .ret)))
noncomputable def z46f : FDef := ⟨2, 17, [.tmp 4 none], z46b⟩
noncomputable def z46p : XPat := ⟨.normal, [(.tv .str), (.tv (.int .u8))], []⟩
noncomputable def z46x : List XPat := [⟨.ret, [(.tv .str)], []⟩]
noncomputable def z46t (k : Nat) (d : z46p.D) : Option (XD z46x) := strings_trimLeftByte k d.1 d.2
noncomputable def z46_e (k : Nat) : UEntry := mkU z46p z46x (z46t k) nilU
theorem z46_n (k : Nat) : UNat (z46_e k) := mkU_nat nilU_nat
theorem z46_fu (k : Nat) : FU P GL 114 (z46_e k) :=
  fn_typed (uorc := uorT (z46U1 k)) hmo (T45_ok k).oo (z46U1_k k) (fd := z46f) (AllU.seq (AllU.no (by kernel_rfl)) (AllU.seq (AllU.block (AllU.unit (uorc := uorT (z46U1 k)) (u := 0) (z46u0_k k))) (AllU.no (by kernel_rfl)))) (fn := Tryd.f114) (by kernel_rfl) (by kernel_rfl) (fun d => by kernel_rfl) FU_nil
noncomputable def T46 (k : Nat) : List (Nat × Ent) := (114, ⟨z46_e k⟩) :: T45 k
theorem T46_ok (k : Nat) : TabOK P GL (T46 k) := (T45_ok k).cons (z46_fu k) (z46_n k)
/-! ### strings.makeASCIISet -/
noncomputable def z47U0 (_ : Nat) : List (Nat × Ent) := []
theorem z47U0_k (k : Nat) : UTab (z47U0 k) := UTab.nil
noncomputable def z47u0d : UDef := ⟨[(0, none), (2, none), (4, none)], [3, 4, 5, 6, 7, 8, 9, 10, 11, 12, 13, 14, 15, 16, 17, 18, 19], [(.ret, [(3, none)]), ((.exit 0), [])], []⟩
noncomputable def z47u0p : XPat := ⟨.normal, [(.tv .str), (.ptr 0 []), (.tv (.int .i64))], [(.box (.tv (.arr 256 .bool)))]⟩
noncomputable def z47u0x : List XPat := [⟨.ret, [(.tv .bool)], [(.box (.tv (.arr 256 .bool)))]⟩, ⟨(.exit 0), [], [(.box (.tv (.arr 256 .bool)))]⟩]
noncomputable def strings_makeASCIISetu0 (k : Nat) : Nat → (List UInt8) → (Int) → (List (Bool)) → Option (((Bool) × (List (Bool))) ⊕ ((Unit) × (List (Bool))))
  | 0, _, _, _ => none
  | n + 1, x0, x1, x2 =>
    bif (decide (x1 < ((List.length x0 : Nat) : Int))) then
      bif (inR x1 (List.length x0)) then
        bif (decide ((128 : Int) ≤ ((UInt8.toNat (List.getD x0 (Int.toNat x1) 0) : Nat) : Int))) then
          some (Sum.inl (false, x2))
        else
        bif (inR ((UInt8.toNat (List.getD x0 (Int.toNat x1) 0) : Nat) : Int) 256) then
          Option.bind (strings_makeASCIISetu0 k n x0 (wr .i64 (x1 + 1)) (List.set x2 (Int.toNat ((UInt8.toNat (List.getD x0 (Int.toNat x1) 0) : Nat) : Int)) true)) fun r => Sum.elim (fun w => some (Sum.inl w)) (fun w => some (Sum.inr w)) r
        else
          none
      else
        none
    else
    some (Sum.inr ((), x2))
noncomputable def z47u0b : AC :=
  (.seq (.seq (.region [(iO 6 (.mv (.t 4))),
    (iO 7 (.mv (.t 0))),
    (iO 8 (.lens (.t 7))),
    (iO 9 (.bin .lss (.t 6) (.t 8)))])
  (.cond (.t 9)
  .skip
  (.exit 0)))
  (.seq (.block 1 (.seq (.region [(iO 12 (.mv (.t 0))),
    (iO 13 (.mv (.t 4))),
    (iO 14 (.ixs (.t 12) (.t 13))),
    (iO 5 (.mv (.t 14)))])
  (.seq (.seq (.region [(iO 15 (.mv (.t 5))),
    (iO 16 (.bin .geq (.t 15) (.c (.tv (.int .u8) (128 : Int)))))])
  (.cond (.t 16)
  (.seq (.region [(iO 17 (.load true 256 (.t 2))),
      (iS (.store 256 none (.t 2) (.t 17))),
      (iO 3 (.mv (.c (.tv .bool (false : Bool)))))])
    .ret)
  .skip))
  (.region [(iO 18 (.mv (.t 5))),
    (iO 19 (.iad 256 1 (.t 2) (.t 18))),
    (iS (.store 1 none (.t 19) (.c (.tv .bool (true : Bool)))))]))))
  (.region [(iO 10 (.mv (.t 4))),
    (iO 11 (.bin .add (.t 10) (nI 1))),
    (iO 4 (.mv (.t 11)))])))
noncomputable def z47u0t (k n : Nat) (d : z47u0p.D) : Option (XD z47u0x) := strings_makeASCIISetu0 k n d.1.1 d.1.2.2 d.2
theorem z47u0_k (k : Nat) : UOK P GL (mkU z47u0p z47u0x (z47u0t k k) nilU) z47u0d true z47u0b :=
  loop_typed (ud := z47u0d) (body := z47u0b) (uorc := uorT (z47U0 k)) hmo (T46_ok k).oo (z47U0_k k) (AllU.no (by kernel_rfl)) (t := z47u0t k) (fun d => by kernel_rfl) (fun n d => by kernel_rfl) k
noncomputable def z47U1 (k : Nat) : List (Nat × Ent) := (0, ⟨mkU z47u0p z47u0x (z47u0t k k) nilU⟩) :: z47U0 k
theorem z47U1_k (k : Nat) : UTab (z47U1 k) := (z47U0_k k).cons (mkU_nat nilU_nat)
noncomputable def strings_makeASCIISet (k : Nat) (x0 : List UInt8) : Option ((List (Bool)) × ((Bool) × (Unit))) :=
  Option.bind (strings_makeASCIISetu0 k k x0 0 (Ty.zero (.arr 256 .bool))) fun r =>
  Sum.elim (fun (v172 : (Bool) × (List (Bool))) =>
    some (v172.2, (v172.1, ())))
    (fun (v173 : (Unit) × (List (Bool))) =>
    some (v173.2, (true, ()))) r
noncomputable def z47b : AC :=
  (.seq (.region [(iO 2 (.alloc 177 (.tv (.arr 256 .bool)))),
    (iO 3 (.mv (.c (.tv .bool (false : Bool)))))])
  (.seq (.seq (.region [(iO 4 (.mv (nI 0)))])
  (.block 0 (.unit 0 z47u0d true z47u0b)))
  (.seq (.region [(iO 20 (.load true 256 (.t 2))),
    (iS (.store 256 none (.t 2) (.t 20))),
    (iO 3 (.mv (.c (.tv .bool (true : Bool)))))])
  .ret)))
noncomputable def z47f : FDef := ⟨1, 21, [.cell 2 256 true (some (.arr 256 .bool)), .tmp 3 none], z47b⟩
noncomputable def z47p : XPat := ⟨.normal, [(.tv .str)], []⟩
noncomputable def z47x : List XPat := [⟨.ret, [(.tup (.cons (.tv (.arr 256 .bool)) (.cons (.tv .bool) .nil)))], []⟩]
noncomputable def z47t (k : Nat) (d : z47p.D) : Option (XD z47x) := strings_makeASCIISet k d
noncomputable def z47_e (k : Nat) : UEntry := mkU z47p z47x (z47t k) nilU
theorem z47_n (k : Nat) : UNat (z47_e k) := mkU_nat nilU_nat
theorem z47_fu (k : Nat) : FU P GL 116 (z47_e k) :=
  fn_typed (uorc := uorT (z47U1 k)) hmo (T46_ok k).oo (z47U1_k k) (fd := z47f) (AllU.seq (AllU.no (by kernel_rfl)) (AllU.seq (AllU.seq (AllU.no (by kernel_rfl)) (AllU.block (AllU.unit (uorc := uorT (z47U1 k)) (u := 0) (z47u0_k k)))) (AllU.no (by kernel_rfl)))) (fn := Tryd.f116) (by kernel_rfl) (by kernel_rfl) (fun d => by kernel_rfl) FU_nil
noncomputable def T47 (k : Nat) : List (Nat × Ent) := (116, ⟨z47_e k⟩) :: T46 k
theorem T47_ok (k : Nat) : TabOK P GL (T47 k) := (T46_ok k).cons (z47_fu k) (z47_n k)
/-! ### (*strings.asciiSet).contains -/
noncomputable def z48U0 (_ : Nat) : List (Nat × Ent) := []
theorem z48U0_k (k : Nat) : UTab (z48U0 k) := UTab.nil
noncomputable def strings_asciiSet_contains (k : Nat) (x0 : Int) (x1 : List (Bool)) : Option ((Bool) × (List (Bool))) :=
  bif (inR x0 256) then
    some ((List.getD x1 (Int.toNat x0) false), x1)
  else
    none
noncomputable def z48b : AC :=
  (.seq (.region [(iO 4 (.mv (.c (.tv .bool (false : Bool)))))])
  (.seq (.region [(iO 5 (.mv (.t 0))),
    (iO 6 (.mv (.t 1))),
    (iO 7 (.nilc (.t 5))),
    (iO 8 (.iad 256 1 (.t 7) (.t 6))),
    (iO 9 (.load false 1 (.t 8))),
    (iO 4 (.mv (.t 9)))])
  .ret))
noncomputable def z48f : FDef := ⟨2, 10, [.tmp 4 none], z48b⟩
noncomputable def z48p : XPat := ⟨.normal, [(.ptr 0 []), (.tv (.int .u8))], [(.box (.tv (.arr 256 .bool)))]⟩
noncomputable def z48x : List XPat := [⟨.ret, [(.tv .bool)], [(.box (.tv (.arr 256 .bool)))]⟩]
noncomputable def z48t (k : Nat) (d : z48p.D) : Option (XD z48x) := strings_asciiSet_contains k d.1.2 d.2
noncomputable def z48_e (k : Nat) : UEntry := mkU z48p z48x (z48t k) nilU
theorem z48_n (k : Nat) : UNat (z48_e k) := mkU_nat nilU_nat
theorem z48_fu (k : Nat) : FU P GL 121 (z48_e k) :=
  fn_typed (uorc := uorT (z48U0 k)) hmo (T47_ok k).oo (z48U0_k k) (fd := z48f) (AllU.no (by kernel_rfl)) (fn := Tryd.f121) (by kernel_rfl) (by kernel_rfl) (fun d => by kernel_rfl) FU_nil
noncomputable def T48 (k : Nat) : List (Nat × Ent) := (121, ⟨z48_e k⟩) :: T47 k
theorem T48_ok (k : Nat) : TabOK P GL (T48 k) := (T47_ok k).cons (z48_fu k) (z48_n k)
/-! ### strings.trimRightASCII -/
noncomputable def z49U0 (_ : Nat) : List (Nat × Ent) := []
theorem z49U0_k (k : Nat) : UTab (z49U0 k) := UTab.nil
noncomputable def z49u0d : UDef := ⟨[(0, none), (1, none)], [0, 5, 6, 7, 8, 9, 10, 11, 12, 13, 14, 15, 16, 17, 18, 19, 20], [((.exit 0), [(0, none)])], []⟩
noncomputable def z49u0p : XPat := ⟨.normal, [(.tv .str), (.ptr 0 [])], [(.box (.tv (.arr 256 .bool)))]⟩
noncomputable def z49u0x : List XPat := [⟨(.exit 0), [(.tv .str)], [(.box (.tv (.arr 256 .bool)))]⟩]
noncomputable def strings_trimRightASCIIu0 (k : Nat) : Nat → (List UInt8) → (List (Bool)) → Option ((List UInt8) × (List (Bool)))
  | 0, _, _ => none
  | n + 1, x0, x1 =>
    bif (decide ((0 : Int) < ((List.length x0 : Nat) : Int))) then
      bif (inR (wr .i64 (((List.length x0 : Nat) : Int) - 1)) (List.length x0)) then
        Option.bind (strings_asciiSet_contains k ((UInt8.toNat (List.getD x0 (Int.toNat (wr .i64 (((List.length x0 : Nat) : Int) - 1))) 0) : Nat) : Int) x1) fun (v176 : (Bool) × (List (Bool))) =>
        bif (!v176.1) then
          some (x0, v176.2)
        else
        bif (decide ((0 : Int) ≤ (wr .i64 (((List.length x0 : Nat) : Int) - 1)) ∧ (wr .i64 (((List.length x0 : Nat) : Int) - 1)) ≤ (((List.length x0) : Nat) : Int))) then
          Option.bind (strings_trimRightASCIIu0 k n (List.drop 0 (List.take (Int.toNat (wr .i64 (((List.length x0 : Nat) : Int) - 1))) x0)) v176.2) fun r => some r
        else
          none
      else
        none
    else
    some (x0, x1)
noncomputable def z49u0b : AC :=
  (.seq (.seq (.region [(iO 5 (.mv (.t 0))),
    (iO 6 (.lens (.t 5))),
    (iO 7 (.bin .gtr (.t 6) (nI 0)))])
  (.cond (.t 7)
  .skip
  (.exit 0)))
  (.block 1 (.seq (.seq (.region [(iO 8 (.mv (.t 1))),
    (iO 9 (.mv (.t 0))),
    (iO 10 (.mv (.t 0))),
    (iO 11 (.lens (.t 10))),
    (iO 12 (.bin .sub (.t 11) (nI 1))),
    (iO 13 (.ixs (.t 9) (.t 12))),
    (iC 14 121 [((.t 8), none), ((.t 13), none)]),
    (iO 15 (.un .not (.t 14)))])
  (.cond (.t 15)
  (.exit 0)
  .skip))
  (.region [(iO 16 (.mv (.t 0))),
    (iO 17 (.mv (.t 0))),
    (iO 18 (.lens (.t 17))),
    (iO 19 (.bin .sub (.t 18) (nI 1))),
    (iO 20 (.slis (.t 16) none (some (.t 19)))),
    (iO 0 (.mv (.t 20)))]))))
noncomputable def z49u0t (k n : Nat) (d : z49u0p.D) : Option (XD z49u0x) := strings_trimRightASCIIu0 k n d.1.1 d.2
theorem z49u0_k (k : Nat) : UOK P GL (mkU z49u0p z49u0x (z49u0t k k) nilU) z49u0d true z49u0b :=
  loop_typed (ud := z49u0d) (body := z49u0b) (uorc := uorT (z49U0 k)) hmo (T48_ok k).oo (z49U0_k k) (AllU.no (by kernel_rfl)) (t := z49u0t k) (fun d => by kernel_rfl) (fun n d => by kernel_rfl) k
noncomputable def z49U1 (k : Nat) : List (Nat × Ent) := (0, ⟨mkU z49u0p z49u0x (z49u0t k k) nilU⟩) :: z49U0 k
theorem z49U1_k (k : Nat) : UTab (z49U1 k) := (z49U0_k k).cons (mkU_nat nilU_nat)
noncomputable def strings_trimRightASCII (k : Nat) (x0 : List UInt8) (x1 : List (Bool)) : Option ((List UInt8) × (List (Bool))) :=
  Option.bind (strings_trimRightASCIIu0 k k x0 x1) fun (v177 : (List UInt8) × (List (Bool))) =>
  some (v177.1, v177.2)
noncomputable def z49b : AC :=
  (.seq (.region [(iO 4 (.mv (.c (.tv .str (([] : List UInt8) : List UInt8)))))])
  (.seq (.block 0 (.unit 0 z49u0d true z49u0b))
  (.seq (.region [(iO 21 (.mv (.t 0))),
    (iO 4 (.mv (.t 21)))])
  .ret)))
noncomputable def z49f : FDef := ⟨2, 22, [.tmp 4 none], z49b⟩
noncomputable def z49p : XPat := ⟨.normal, [(.tv .str), (.ptr 0 [])], [(.box (.tv (.arr 256 .bool)))]⟩
noncomputable def z49x : List XPat := [⟨.ret, [(.tv .str)], [(.box (.tv (.arr 256 .bool)))]⟩]
noncomputable def z49t (k : Nat) (d : z49p.D) : Option (XD z49x) := strings_trimRightASCII k d.1.1 d.2
noncomputable def z49_e (k : Nat) : UEntry := mkU z49p z49x (z49t k) nilU
theorem z49_n (k : Nat) : UNat (z49_e k) := mkU_nat nilU_nat
theorem z49_fu (k : Nat) : FU P GL 118 (z49_e k) :=
  fn_typed (uorc := uorT (z49U1 k)) hmo (T48_ok k).oo (z49U1_k k) (fd := z49f) (AllU.seq (AllU.no (by kernel_rfl)) (AllU.seq (AllU.block (AllU.unit (uorc := uorT (z49U1 k)) (u := 0) (z49u0_k k))) (AllU.no (by kernel_rfl)))) (fn := Tryd.f118) (by kernel_rfl) (by kernel_rfl) (fun d => by kernel_rfl) FU_nil
noncomputable def T49 (k : Nat) : List (Nat × Ent) := (118, ⟨z49_e k⟩) :: T48 k
theorem T49_ok (k : Nat) : TabOK P GL (T49 k) := (T48_ok k).cons (z49_fu k) (z49_n k)
/-! ### strings.trimLeftASCII -/
noncomputable def z50U0 (_ : Nat) : List (Nat × Ent) := []
theorem z50U0_k (k : Nat) : UTab (z50U0 k) := UTab.nil
noncomputable def z50u0d : UDef := ⟨[(0, none), (1, none)], [0, 5, 6, 7, 8, 9, 10, 11, 12, 13, 14], [((.exit 0), [(0, none)])], []⟩
noncomputable def z50u0p : XPat := ⟨.normal, [(.tv .str), (.ptr 0 [])], [(.box (.tv (.arr 256 .bool)))]⟩
noncomputable def z50u0x : List XPat := [⟨(.exit 0), [(.tv .str)], [(.box (.tv (.arr 256 .bool)))]⟩]
noncomputable def strings_trimLeftASCIIu0 (k : Nat) : Nat → (List UInt8) → (List (Bool)) → Option ((List UInt8) × (List (Bool)))
  | 0, _, _ => none
  | n + 1, x0, x1 =>
    bif (decide ((0 : Int) < ((List.length x0 : Nat) : Int))) then
      bif (inR 0 (List.length x0)) then
        Option.bind (strings_asciiSet_contains k ((UInt8.toNat (List.getD x0 0 0) : Nat) : Int) x1) fun (v180 : (Bool) × (List (Bool))) =>
        bif (!v180.1) then
          some (x0, v180.2)
        else
        bif (decide ((0 : Int) ≤ 1 ∧ 1 ≤ (((List.length x0) : Nat) : Int))) then
          Option.bind (strings_trimLeftASCIIu0 k n (List.drop 1 (List.take (List.length x0) x0)) v180.2) fun r => some r
        else
          none
      else
        none
    else
    some (x0, x1)
noncomputable def z50u0b : AC :=
  (.seq (.seq (.region [(iO 5 (.mv (.t 0))),
    (iO 6 (.lens (.t 5))),
    (iO 7 (.bin .gtr (.t 6) (nI 0)))])
  (.cond (.t 7)
  .skip
  (.exit 0)))
  (.block 1 (.seq (.seq (.region [(iO 8 (.mv (.t 1))),
    (iO 9 (.mv (.t 0))),
    (iO 10 (.ixs (.t 9) (nI 0))),
    (iC 11 121 [((.t 8), none), ((.t 10), none)]),
    (iO 12 (.un .not (.t 11)))])
  (.cond (.t 12)
  (.exit 0)
  .skip))
  (.region [(iO 13 (.mv (.t 0))),
    (iO 14 (.slis (.t 13) (some (nI 1)) none)),
    (iO 0 (.mv (.t 14)))]))))
noncomputable def z50u0t (k n : Nat) (d : z50u0p.D) : Option (XD z50u0x) := strings_trimLeftASCIIu0 k n d.1.1 d.2
theorem z50u0_k (k : Nat) : UOK P GL (mkU z50u0p z50u0x (z50u0t k k) nilU) z50u0d true z50u0b :=
  loop_typed (ud := z50u0d) (body := z50u0b) (uorc := uorT (z50U0 k)) hmo (T49_ok k).oo (z50U0_k k) (AllU.no (by kernel_rfl)) (t := z50u0t k) (fun d => by kernel_rfl) (fun n d => by kernel_rfl) k
noncomputable def z50U1 (k : Nat) : List (Nat × Ent) := (0, ⟨mkU z50u0p z50u0x (z50u0t k k) nilU⟩) :: z50U0 k
theorem z50U1_k (k : Nat) : UTab (z50U1 k) := (z50U0_k k).cons (mkU_nat nilU_nat)
noncomputable def strings_trimLeftASCII (k : Nat) (x0 : List UInt8) (x1 : List (Bool)) : Option ((List UInt8) × (List (Bool))) :=
  Option.bind (strings_trimLeftASCIIu0 k k x0 x1) fun (v181 : (List UInt8) × (List (Bool))) =>
  some (v181.1, v181.2)
noncomputable def z50b : AC :=
  (.seq (.region [(iO 4 (.mv (.c (.tv .str (([] : List UInt8) : List UInt8)))))])
  (.seq (.block 0 (.unit 0 z50u0d true z50u0b))
  (.seq (.region [(iO 15 (.mv (.t 0))),
    (iO 4 (.mv (.t 15)))])
  .ret)))
noncomputable def z50f : FDef := ⟨2, 16, [.tmp 4 none], z50b⟩
noncomputable def z50p : XPat := ⟨.normal, [(.tv .str), (.ptr 0 [])], [(.box (.tv (.arr 256 .bool)))]⟩
noncomputable def z50x : List XPat := [⟨.ret, [(.tv .str)], [(.box (.tv (.arr 256 .bool)))]⟩]
noncomputable def z50t (k : Nat) (d : z50p.D) : Option (XD z50x) := strings_trimLeftASCII k d.1.1 d.2
noncomputable def z50_e (k : Nat) : UEntry := mkU z50p z50x (z50t k) nilU
theorem z50_n (k : Nat) : UNat (z50_e k) := mkU_nat nilU_nat
theorem z50_fu (k : Nat) : FU P GL 117 (z50_e k) :=
  fn_typed (uorc := uorT (z50U1 k)) hmo (T49_ok k).oo (z50U1_k k) (fd := z50f) (AllU.seq (AllU.no (by kernel_rfl)) (AllU.seq (AllU.block (AllU.unit (uorc := uorT (z50U1 k)) (u := 0) (z50u0_k k))) (AllU.no (by kernel_rfl)))) (fn := Tryd.f117) (by kernel_rfl) (by kernel_rfl) (fun d => by kernel_rfl) FU_nil
noncomputable def T50 (k : Nat) : List (Nat × Ent) := (117, ⟨z50_e k⟩) :: T49 k
theorem T50_ok (k : Nat) : TabOK P GL (T50 k) := (T49_ok k).cons (z50_fu k) (z50_n k)
/-! ### strings.Trim -/
noncomputable def z51U0 (_ : Nat) : List (Nat × Ent) := []
theorem z51U0_k (k : Nat) : UTab (z51U0 k) := UTab.nil
noncomputable def z51u0d : UDef := ⟨[(0, none), (1, none)], [7, 8, 9, 10, 11, 12], [(.normal, [(12, none)])], []⟩
noncomputable def z51u0p : XPat := ⟨.normal, [(.tv .str), (.tv .str)], []⟩
noncomputable def z51u0x : List XPat := [⟨.normal, [(.tv .bool)], []⟩]
noncomputable def strings_Trimu0 (k : Nat) (x0 : List UInt8) (x1 : List UInt8) : Option (Bool) :=
  bif (decide (x0 = ([] : List UInt8))) then
    some true
  else
  some (decide (x1 = ([] : List UInt8)))
noncomputable def z51u0b : AC :=
  (.region [(iO 7 (.mv (.t 0))),
    (iO 8 (.bin .eql (.t 7) (.c (.tv .str (([] : List UInt8) : List UInt8))))),
    (iO 9 (.mv (.t 8))),
    ⟨some 10, some (2, 9, false), (.op (.mv (.t 1))), []⟩,
    ⟨some 11, some (2, 9, false), (.op (.bin .eql (.t 10) (.c (.tv .str (([] : List UInt8) : List UInt8))))), []⟩,
    (iO 12 (.pick (.t 9) (.c (.tv .bool (true : Bool))) (.t 11)))])
noncomputable def z51u0t (k : Nat) (d : z51u0p.D) : Option (XD z51u0x) := strings_Trimu0 k d.1 d.2
theorem z51u0_k (k : Nat) : UOK P GL (mkU z51u0p z51u0x (z51u0t k) nilU) z51u0d false z51u0b :=
  unit_typed (ud := z51u0d) (body := z51u0b) (uorc := uorT (z51U0 k)) hmo (T50_ok k).oo (z51U0_k k) (AllU.no (by kernel_rfl)) (fun d => by kernel_rfl)
noncomputable def z51U1 (k : Nat) : List (Nat × Ent) := (0, ⟨mkU z51u0p z51u0x (z51u0t k) nilU⟩) :: z51U0 k
theorem z51U1_k (k : Nat) : UTab (z51U1 k) := (z51U0_k k).cons (mkU_nat nilU_nat)
noncomputable def z51u1d : UDef := ⟨[(1, none)], [14, 15, 16, 17, 18, 19, 20, 21], [(.normal, [(21, none)])], []⟩
noncomputable def z51u1p : XPat := ⟨.normal, [(.tv .str)], []⟩
noncomputable def z51u1x : List XPat := [⟨.normal, [(.tv .bool)], []⟩]
noncomputable def strings_Trimu1 (k : Nat) (x0 : List UInt8) : Option (Bool) :=
  bif (decide (((List.length x0 : Nat) : Int) = 1)) then
    bif (inR 0 (List.length x0)) then
      some (decide (((UInt8.toNat (List.getD x0 0 0) : Nat) : Int) < 128))
    else
      none
  else
  some false
noncomputable def z51u1b : AC :=
  (.region [(iO 14 (.mv (.t 1))),
    (iO 15 (.lens (.t 14))),
    (iO 16 (.bin .eql (.t 15) (nI 1))),
    (iO 17 (.mv (.t 16))),
    ⟨some 18, some (3, 17, true), (.op (.mv (.t 1))), []⟩,
    ⟨some 19, some (3, 17, true), (.op (.ixs (.t 18) (nI 0))), []⟩,
    ⟨some 20, some (3, 17, true), (.op (.bin .lss (.t 19) (.c (.tv (.int .u8) (128 : Int))))), []⟩,
    (iO 21 (.pick (.t 17) (.t 20) (.c (.tv .bool (false : Bool)))))])
noncomputable def z51u1t (k : Nat) (d : z51u1p.D) : Option (XD z51u1x) := strings_Trimu1 k d
theorem z51u1_k (k : Nat) : UOK P GL (mkU z51u1p z51u1x (z51u1t k) nilU) z51u1d false z51u1b :=
  unit_typed (ud := z51u1d) (body := z51u1b) (uorc := uorT (z51U1 k)) hmo (T50_ok k).oo (z51U1_k k) (AllU.no (by kernel_rfl)) (fun d => by kernel_rfl)
noncomputable def z51U2 (k : Nat) : List (Nat × Ent) := (1, ⟨mkU z51u1p z51u1x (z51u1t k) nilU⟩) :: z51U1 k
theorem z51U2_k (k : Nat) : UTab (z51U2 k) := (z51U1_k k).cons (mkU_nat nilU_nat)
noncomputable def strings_Trim (k : Nat) (x0 : List UInt8) (x1 : List UInt8) : Option (List UInt8) :=
  Option.bind (strings_Trimu0 k x0 x1) fun (v166 : Bool) =>
  bif v166 then
    some x0
  else
  Option.bind (strings_Trimu1 k x1) fun (v167 : Bool) =>
  bif v167 then
    bif (inR 0 (List.length x1)) then
      Option.bind (strings_trimRightByte k x0 ((UInt8.toNat (List.getD x1 0 0) : Nat) : Int)) fun (v169 : List UInt8) =>
      bif (inR 0 (List.length x1)) then
        Option.bind (strings_trimLeftByte k v169 ((UInt8.toNat (List.getD x1 0 0) : Nat) : Int)) fun (v171 : List UInt8) =>
        some v171
      else
        none
    else
      none
  else
  Option.bind (strings_makeASCIISet k x1) fun (v174 : (List (Bool)) × ((Bool) × (Unit))) =>
  bif v174.2.1 then
    Option.bind (strings_trimRightASCII k x0 v174.1) fun (v178 : (List UInt8) × (List (Bool))) =>
    Option.bind (strings_trimLeftASCII k v178.1 v178.2) fun (v182 : (List UInt8) × (List (Bool))) =>
    some v182.1
  else
    none
noncomputable def z51b : AC :=
  (.seq (.region [(iO 4 (.mv (.c (.tv .str (([] : List UInt8) : List UInt8)))))])
  (.seq (.seq (.unit 0 z51u0d false z51u0b)
  (.cond (.t 12)
  (.seq (.region [(iO 13 (.mv (.t 0))),
      (iO 4 (.mv (.t 13)))])
    .ret)
  .skip))
  (.seq (.seq (.unit 1 z51u1d false z51u1b)
  (.cond (.t 21)
  (.seq (.draw [(iO 22 (.mv (.t 0))),
      (iO 23 (.mv (.t 1))),
      (iOa 24 (.ixs (.t 23) (nI 0)) [1]),
      (iCa 25 115 [((.t 22), none), ((.t 24), none)] [0, 1, 2]),
      (iO 26 (.mv (.t 1))),
      (iOa 27 (.ixs (.t 26) (nI 0)) [4]),
      (iCa 28 114 [((.t 25), none), ((.t 27), none)] (rg [0, 6])),
      (iOa 4 (.mv (.t 28)) (rg [0, 7]))])
    .ret)
  .skip))
  (.seq (.seq (.region [(iO 30 (.mv (.t 1))),
    (iC 31 116 [((.t 30), none)]),
    (iO 29 (.mv (.t 31))),
    (iO 32 (.ext (.t 29) 0)),
    (iO 33 (.ext (.t 29) 1)),
    (iO 5 (.alloc 177 (.tv (.arr 256 .bool)))),
    (iS (.store 256 none (.t 5) (.t 32))),
    (iO 6 (.mv (.t 33)))])
  (.seq (.region [(iO 34 (.mv (.t 6)))])
  (.cond (.t 34)
  (.seq (.region [(iO 35 (.mv (.t 0))),
      (iC 36 118 [((.t 35), none), ((.t 5), none)]),
      (iC 37 117 [((.t 36), none), ((.t 5), none)]),
      (iO 4 (.mv (.t 37)))])
    .ret)
  .skip)))
  (.seq (.region [(iO 38 (.mv (.t 0))),
    (iO 39 (.mv (.t 1))),
    (iO 40 .bad),
    (iO 41 .bad),
    (iO 42 .bad),
    (iO 4 .bad)])
  .ret)))))
noncomputable def z51f : FDef := ⟨2, 43, [.tmp 4 none], z51b⟩
noncomputable def z51p : XPat := ⟨.normal, [(.tv .str), (.tv .str)], []⟩
noncomputable def z51x : List XPat := [⟨.ret, [(.tv .str)], []⟩]
noncomputable def z51t (k : Nat) (d : z51p.D) : Option (XD z51x) := strings_Trim k d.1 d.2
noncomputable def z51_e (k : Nat) : UEntry := mkU z51p z51x (z51t k) nilU
theorem z51_n (k : Nat) : UNat (z51_e k) := mkU_nat nilU_nat
theorem z51_fu (k : Nat) : FU P GL 108 (z51_e k) :=
  fn_typed (uorc := uorT (z51U2 k)) hmo (T50_ok k).oo (z51U2_k k) (fd := z51f) (AllU.seq (AllU.no (by kernel_rfl)) (AllU.seq (AllU.seq (AllU.unit (uorc := uorT (z51U2 k)) (u := 0) (z51u0_k k)) (AllU.no (by kernel_rfl))) (AllU.seq (AllU.seq (AllU.unit (uorc := uorT (z51U2 k)) (u := 1) (z51u1_k k)) (AllU.no (by kernel_rfl))) (AllU.no (by kernel_rfl))))) (fn := Tryd.f108) (by kernel_rfl) (by kernel_rfl) (fun d => by kernel_rfl) FU_nil
noncomputable def T51 (k : Nat) : List (Nat × Ent) := (108, ⟨z51_e k⟩) :: T50 k
theorem T51_ok (k : Nat) : TabOK P GL (T51 k) := (T50_ok k).cons (z51_fu k) (z51_n k)
/-! ### overspill.prefix.right -/
noncomputable def z52U0 (_ : Nat) : List (Nat × Ent) := []
theorem z52U0_k (k : Nat) : UTab (z52U0 k) := UTab.nil
noncomputable def prefix_right (k : Nat) (x0 : List UInt8) : Option (Bool) :=
  bif (!(decide (x0 = ([] : List UInt8)))) then
    bif (decide (((List.length x0 : Nat) : Int) ≤ 24)) then
      Option.bind (strings_Trim k x0 ([48, 49] : List UInt8)) fun (v183 : List UInt8) =>
      some (decide (v183 = ([] : List UInt8)))
    else
    some false
  else
  some false
noncomputable def z52b : AC :=
  (.seq (.region [(iO 2 (.mv (.c (.tv .bool (false : Bool)))))])
  (.seq (.region [(iO 3 (.mv (.t 0))),
    (iO 4 (.bin .neq (.t 3) (.c (.tv .str (([] : List UInt8) : List UInt8))))),
    (iO 5 (.mv (.t 4))),
    ⟨some 6, some (2, 5, true), (.op (.mv (.t 0))), []⟩,
    ⟨some 7, some (2, 5, true), (.op (.lens (.t 6))), []⟩,
    ⟨some 8, some (2, 5, true), (.op (.bin .leq (.t 7) (nI 24))), []⟩,
    (iO 9 (.pick (.t 5) (.t 8) (.c (.tv .bool (false : Bool))))),
    (iO 10 (.mv (.t 9))),
    ⟨some 11, some (7, 10, true), (.op (.mv (.t 0))), []⟩,
    ⟨some 12, some (7, 10, true), (.call (.c (.fn 108 .nil .nil)) [((.t 11), none), ((.c (.tv .str (([48, 49] : List UInt8) : List UInt8))), none)]), []⟩,
    ⟨some 13, some (7, 10, true), (.op (.bin .eql (.t 12) (.c (.tv .str (([] : List UInt8) : List UInt8))))), []⟩,
    (iO 14 (.pick (.t 10) (.t 13) (.c (.tv .bool (false : Bool))))),
    (iO 2 (.mv (.t 14)))])
  .ret))
noncomputable def z52f : FDef := ⟨1, 15, [.tmp 2 none], z52b⟩
noncomputable def z52p : XPat := ⟨.normal, [(.tv .str)], []⟩
noncomputable def z52x : List XPat := [⟨.ret, [(.tv .bool)], []⟩]
noncomputable def z52t (k : Nat) (d : z52p.D) : Option (XD z52x) := prefix_right k d
noncomputable def z52_e (k : Nat) : UEntry := mkU z52p z52x (z52t k) nilU
theorem z52_n (k : Nat) : UNat (z52_e k) := mkU_nat nilU_nat
theorem z52_fu (k : Nat) : FU P GL 105 (z52_e k) :=
  fn_typed (uorc := uorT (z52U0 k)) hmo (T51_ok k).oo (z52U0_k k) (fd := z52f) (AllU.no (by kernel_rfl)) (fn := Tryd.f105) (by kernel_rfl) (by kernel_rfl) (fun d => by kernel_rfl) FU_nil
noncomputable def T52 (k : Nat) : List (Nat × Ent) := (105, ⟨z52_e k⟩) :: T51 k
theorem T52_ok (k : Nat) : TabOK P GL (T52 k) := (T51_ok k).cons (z52_fu k) (z52_n k)
/-! ### (*overspill.prefix.Table[int]).add -/
noncomputable def z53U0 (_ : Nat) : List (Nat × Ent) := []
theorem z53U0_k (k : Nat) : UTab (z53U0 k) := UTab.nil
noncomputable def z53u0d : UDef := ⟨[(0, none), (3, none), (6, none)], [21, 22, 23, 24, 25, 26, 27, 28, 29, 30, 31, 32, 33, 34, 35, 36, 37], [(.normal, [(37, none)])], []⟩
noncomputable def z53u0p : XPat := ⟨.normal, [(.ptr 0 []), (.ptr 4 []), (.tv .bool)], [(.box (.cons (.row 5) (.cons (.mp 1) (.cons (.mp 2) (.cons (.mp 3) (.cons (.tv (.int .i64)) .nil)))))), (.mp .str), (.mp (.int .i64)), (.mp .str), (.box (.tv YReader)), (.row YReader false)]⟩
noncomputable def z53u0x : List XPat := [⟨.normal, [(.tv .bool)], [(.box (.cons (.row 5) (.cons (.mp 1) (.cons (.mp 2) (.cons (.mp 3) (.cons (.tv (.int .i64)) .nil)))))), (.mp .str), (.mp (.int .i64)), (.mp .str), (.box (.tv YReader)), (.row YReader false)]⟩]
noncomputable def prefix_Table_add_intu0 (k : Nat) (x0 : Bool) (x1 : Int) (x2 : List ((List UInt8) × Int)) (x3 : List ((Int) × Int)) (x4 : List ((List UInt8) × Int)) (x5 : DReader) (x6 : List (DReader)) : Option ((Bool) × (((Unit) × ((Unit) × ((Unit) × ((Unit) × ((Int) × (Unit)))))) × ((List ((List UInt8) × Int)) × ((List ((Int) × Int)) × ((List ((List UInt8) × Int)) × ((DReader) × (List (DReader)))))))) :=
  bif x0 then
    some (true, (((), ((), ((), ((), (x1, ()))))), (x2, (x3, (x4, (x5, x6))))))
  else
  Option.bind (prefix_right k x5.1) fun (v185 : Bool) =>
  bif (!v185) then
    some (true, (((), ((), ((), ((), (x1, ()))))), (x2, (x3, (x4, (x5, x6))))))
  else
  some ((decide ((0 : Int) < (mval .str x5.1 x4))), (((), ((), ((), ((), (x1, ()))))), (x2, (x3, (x4, (x5, x6))))))
noncomputable def z53u0b : AC :=
  (.draw [(iO 21 (.mv (.t 6))),
    (iOa 22 (.mv (.t 21)) [0]),
    ⟨some 23, some (1, 22, false), (.op (.fad 0 0 (.t 3))), [0, 1]⟩,
    ⟨some 24, some (1, 22, false), (.op (.load false 1 (.t 23))), [0, 1, 2]⟩,
    ⟨some 25, some (1, 22, false), (.call (.c (.fn 105 .nil .nil)) [((.t 24), none)]), (rg [0, 4])⟩,
    ⟨some 26, some (1, 22, false), (.op (.un .not (.t 25))), (rg [0, 5])⟩,
    (iOa 27 (.pick (.t 22) (.c (.tv .bool (true : Bool))) (.t 26)) (rg [0, 6])),
    (iOa 28 (.mv (.t 27)) (rg [0, 7])),
    ⟨some 29, some (7, 28, false), (.op (.mv (.t 0))), (rg [0, 8])⟩,
    ⟨some 30, some (7, 28, false), (.op (.nilc (.t 29))), (rg [0, 9])⟩,
    ⟨some 31, some (7, 28, false), (.op (.fad 3 3 (.t 30))), (rg [0, 10])⟩,
    ⟨some 32, some (7, 28, false), (.op (.load false 1 (.t 31))), (rg [0, 11])⟩,
    ⟨some 33, some (7, 28, false), (.op (.fad 0 0 (.t 3))), (rg [0, 8])⟩,
    ⟨some 34, some (7, 28, false), (.op (.load false 1 (.t 33))), (rg [0, 8, 12, 1])⟩,
    ⟨some 35, some (7, 28, false), (.op (.mlook .str false (.t 32) (.t 34))), (rg [0, 14])⟩,
    ⟨some 36, some (7, 28, false), (.op (.bin .gtr (.t 35) (nI 0))), (rg [0, 15])⟩,
    (iOa 37 (.pick (.t 28) (.c (.tv .bool (true : Bool))) (.t 36)) (rg [0, 16]))])
noncomputable def z53u0t (k : Nat) (d : z53u0p.D) : Option (XD z53u0x) := prefix_Table_add_intu0 k d.1.2.2 d.2.1.2.2.2.2.1 d.2.2.1 d.2.2.2.1 d.2.2.2.2.1 d.2.2.2.2.2.1 d.2.2.2.2.2.2
theorem z53u0_k (k : Nat) : UOK P GL (mkU z53u0p z53u0x (z53u0t k) nilU) z53u0d false z53u0b :=
  unit_typed (ud := z53u0d) (body := z53u0b) (uorc := uorT (z53U0 k)) hmo (T52_ok k).oo (z53U0_k k) (AllU.no (by kernel_rfl)) (fun d => by kernel_rfl)
noncomputable def z53U1 (k : Nat) : List (Nat × Ent) := (0, ⟨mkU z53u0p z53u0x (z53u0t k) nilU⟩) :: z53U0 k
theorem z53U1_k (k : Nat) : UTab (z53U1 k) := (z53U0_k k).cons (mkU_nat nilU_nat)
noncomputable def z53u1d : UDef := ⟨[(0, none), (3, none), (40, none), (41, none)], [4, 7, 8, 9, 41, 42, 43, 44, 45, 46, 47, 48, 49, 50, 51, 52, 53, 54, 55, 56, 57, 58], [(.ret, [(4, none)]), ((.exit 0), [])], []⟩
noncomputable def z53u1p : XPat := ⟨.normal, [(.ptr 0 []), (.ptr 4 []), (.tv (.int .i64)), (.tv (.int .i64))], [(.box (.cons (.row 5) (.cons (.mp 1) (.cons (.mp 2) (.cons (.mp 3) (.cons (.tv (.int .i64)) .nil)))))), (.mp .str), (.mp (.int .i64)), (.mp .str), (.box (.tv YReader)), (.row YReader false)]⟩
noncomputable def z53u1x : List XPat := [⟨.ret, [(.tv .bool)], [(.box (.cons (.row 5) (.cons (.mp 1) (.cons (.mp 2) (.cons (.mp 3) (.cons (.tv (.int .i64)) .nil)))))), (.mp .str), (.mp (.int .i64)), (.mp .str), (.box (.tv YReader)), (.row YReader false)]⟩, ⟨(.exit 0), [], [(.box (.cons (.row 5) (.cons (.mp 1) (.cons (.mp 2) (.cons (.mp 3) (.cons (.tv (.int .i64)) .nil)))))), (.mp .str), (.mp (.int .i64)), (.mp .str), (.box (.tv YReader)), (.row YReader false)]⟩]
noncomputable def prefix_Table_add_intu1 (k : Nat) : Nat → (Int) → (Int) → (Int) → (List ((List UInt8) × Int)) → (List ((Int) × Int)) → (List ((List UInt8) × Int)) → (DReader) → (List (DReader)) → Option (((Bool) × (((Unit) × ((Unit) × ((Unit) × ((Unit) × ((Int) × (Unit)))))) × ((List ((List UInt8) × Int)) × ((List ((Int) × Int)) × ((List ((List UInt8) × Int)) × ((DReader) × (List (DReader)))))))) ⊕ ((Unit) × (((Unit) × ((Unit) × ((Unit) × ((Unit) × ((Int) × (Unit)))))) × ((List ((List UInt8) × Int)) × ((List ((Int) × Int)) × ((List ((List UInt8) × Int)) × ((DReader) × (List (DReader)))))))))
  | 0, _, _, _, _, _, _, _, _ => none
  | n + 1, x0, x1, x2, x3, x4, x5, x6, x7 =>
    bif (decide (x1 < x0)) then
      bif (decide ((0 : Int) ≤ (wr .i64 (x1 + 1)) ∧ (wr .i64 (x1 + 1)) ≤ (((List.length x6.1) : Nat) : Int))) then
        bif (mhas .str (List.drop 0 (List.take (Int.toNat (wr .i64 (x1 + 1))) x6.1)) x3) then
          some (Sum.inl (false, (((), ((), ((), ((), (x2, ()))))), (x3, (x4, (x5, (x6, x7)))))))
        else
        Option.bind (prefix_Table_add_intu1 k n x0 (wr .i64 (x1 + 1)) x2 x3 x4 x5 x6 x7) fun r => Sum.elim (fun w => some (Sum.inl w)) (fun w => some (Sum.inr w)) r
      else
        none
    else
    some (Sum.inr ((), (((), ((), ((), ((), (x2, ()))))), (x3, (x4, (x5, (x6, x7)))))))
noncomputable def z53u1b : AC :=
  (.seq (.region [(iO 42 (.bin .lss (.t 41) (.t 40)))])
  (.seq (.cond (.t 42)
  .skip
  (.exit 0))
  (.seq (.block 1 (.seq (.region [(iO 43 (.mv (.t 41))),
    (iO 7 (.mv (.t 43)))])
  (.seq (.draw [(iO 45 (.mv (.t 0))),
    (iOa 46 (.nilc (.t 45)) [0]),
    (iOa 47 (.fad 1 1 (.t 46)) [0, 1]),
    (iOa 48 (.load false 1 (.t 47)) [0, 1, 2]),
    (iO 49 (.fad 0 0 (.t 3))),
    (iOa 50 (.load false 1 (.t 49)) [4]),
    (iO 51 (.mv (.t 7))),
    (iOa 52 (.bin .add (.t 51) (nI 1)) [6]),
    (iOa 53 (.slis (.t 50) none (some (.t 52))) (rg [4, 4])),
    (iOa 54 (.mlook .str true (.t 48) (.t 53)) (rg [0, 9])),
    (iOa 44 (.mv (.t 54)) (rg [0, 10])),
    (iOa 55 (.ext (.t 44) 0) (rg [0, 11])),
    (iOa 56 (.ext (.t 44) 1) (rg [0, 11])),
    (iOa 8 (.mv (.t 55)) (rg [0, 12])),
    (iOa 9 (.mv (.t 56)) (rg [0, 14]))])
  (.seq (.region [(iO 57 (.mv (.t 9)))])
  (.cond (.t 57)
  (.seq (.region [(iO 4 (.mv (.c (.tv .bool (false : Bool)))))])
    .ret)
  .skip)))))
  (.region [(iO 58 (.bin .add (.t 41) (nI 1))),
    (iO 41 (.mv (.t 58)))]))))
noncomputable def z53u1t (k n : Nat) (d : z53u1p.D) : Option (XD z53u1x) := prefix_Table_add_intu1 k n d.1.2.2.1 d.1.2.2.2 d.2.1.2.2.2.2.1 d.2.2.1 d.2.2.2.1 d.2.2.2.2.1 d.2.2.2.2.2.1 d.2.2.2.2.2.2
theorem z53u1_k (k : Nat) : UOK P GL (mkU z53u1p z53u1x (z53u1t k k) nilU) z53u1d true z53u1b :=
  loop_typed (ud := z53u1d) (body := z53u1b) (uorc := uorT (z53U1 k)) hmo (T52_ok k).oo (z53U1_k k) (AllU.no (by kernel_rfl)) (t := z53u1t k) (fun d => by kernel_rfl) (fun n d => by kernel_rfl) k
noncomputable def z53U2 (k : Nat) : List (Nat × Ent) := (1, ⟨mkU z53u1p z53u1x (z53u1t k k) nilU⟩) :: z53U1 k
theorem z53U2_k (k : Nat) : UTab (z53U2 k) := (z53U1_k k).cons (mkU_nat nilU_nat)
noncomputable def z53u2d : UDef := ⟨[(0, none), (3, none), (61, none), (62, none)], [10, 62, 63, 64, 65, 66, 67, 68, 69, 70, 71, 72, 73, 74, 75, 76], [((.exit 2), [])], []⟩
noncomputable def z53u2p : XPat := ⟨.normal, [(.ptr 0 []), (.ptr 4 []), (.tv (.int .i64)), (.tv (.int .i64))], [(.box (.cons (.row 5) (.cons (.mp 1) (.cons (.mp 2) (.cons (.mp 3) (.cons (.tv (.int .i64)) .nil)))))), (.mp .str), (.mp (.int .i64)), (.mp .str), (.box (.tv YReader)), (.row YReader false)]⟩
noncomputable def z53u2x : List XPat := [⟨(.exit 2), [], [(.box (.cons (.row 5) (.cons (.mp 1) (.cons (.mp 2) (.cons (.mp 3) (.cons (.tv (.int .i64)) .nil)))))), (.mp .str), (.mp (.int .i64)), (.mp .str), (.box (.tv YReader)), (.row YReader false)]⟩]
noncomputable def prefix_Table_add_intu2 (k : Nat) : Nat → (Int) → (Int) → (Int) → (List ((List UInt8) × Int)) → (List ((Int) × Int)) → (List ((List UInt8) × Int)) → (DReader) → (List (DReader)) → Option ((Unit) × (((Unit) × ((Unit) × ((Unit) × ((Unit) × ((Int) × (Unit)))))) × ((List ((List UInt8) × Int)) × ((List ((Int) × Int)) × ((List ((List UInt8) × Int)) × ((DReader) × (List (DReader))))))))
  | 0, _, _, _, _, _, _, _, _ => none
  | n + 1, x0, x1, x2, x3, x4, x5, x6, x7 =>
    bif (decide (x1 < x0)) then
      bif (decide ((0 : Int) ≤ (wr .i64 (x1 + 1)) ∧ (wr .i64 (x1 + 1)) ≤ (((List.length x6.1) : Nat) : Int))) then
        Option.bind (prefix_Table_add_intu2 k n x0 (wr .i64 (x1 + 1)) x2 x3 x4 (mset .str (List.drop 0 (List.take (Int.toNat (wr .i64 (x1 + 1))) x6.1)) (wr .i64 ((mval .str (List.drop 0 (List.take (Int.toNat (wr .i64 (x1 + 1))) x6.1)) x5) + 1)) x5) x6 x7) fun r => some r
      else
        none
    else
    some ((), (((), ((), ((), ((), (x2, ()))))), (x3, (x4, (x5, (x6, x7))))))
noncomputable def z53u2b : AC :=
  (.seq (.region [(iO 63 (.bin .lss (.t 62) (.t 61)))])
  (.seq (.cond (.t 63)
  .skip
  (.exit 2))
  (.seq (.block 3 (.seq (.region [(iO 64 (.mv (.t 62))),
    (iO 10 (.mv (.t 64)))])
  (.draw [(iO 65 (.mv (.t 0))),
    (iOa 66 (.nilc (.t 65)) [0]),
    (iOa 67 (.fad 3 3 (.t 66)) [0, 1]),
    (iOa 68 (.load false 1 (.t 67)) [0, 1, 2]),
    (iO 69 (.fad 0 0 (.t 3))),
    (iOa 70 (.load false 1 (.t 69)) [4]),
    (iO 71 (.mv (.t 10))),
    (iOa 72 (.bin .add (.t 71) (nI 1)) [6]),
    (iOa 73 (.slis (.t 70) none (some (.t 72))) (rg [4, 4])),
    (iOa 74 (.mlook .str false (.t 68) (.t 73)) (rg [0, 9])),
    (iOa 75 (.bin .add (.t 74) (nI 1)) (rg [0, 10])),
    (iSa (.mput .str (.t 68) (.t 73) (.t 75)) (rg [0, 11]))])))
  (.region [(iO 76 (.bin .add (.t 62) (nI 1))),
    (iO 62 (.mv (.t 76)))]))))
noncomputable def z53u2t (k n : Nat) (d : z53u2p.D) : Option (XD z53u2x) := prefix_Table_add_intu2 k n d.1.2.2.1 d.1.2.2.2 d.2.1.2.2.2.2.1 d.2.2.1 d.2.2.2.1 d.2.2.2.2.1 d.2.2.2.2.2.1 d.2.2.2.2.2.2
theorem z53u2_k (k : Nat) : UOK P GL (mkU z53u2p z53u2x (z53u2t k k) nilU) z53u2d true z53u2b :=
  loop_typed (ud := z53u2d) (body := z53u2b) (uorc := uorT (z53U2 k)) hmo (T52_ok k).oo (z53U2_k k) (AllU.no (by kernel_rfl)) (t := z53u2t k) (fun d => by kernel_rfl) (fun n d => by kernel_rfl) k
noncomputable def z53U3 (k : Nat) : List (Nat × Ent) := (2, ⟨mkU z53u2p z53u2x (z53u2t k k) nilU⟩) :: z53U2 k
theorem z53U3_k (k : Nat) : UTab (z53U3 k) := (z53U2_k k).cons (mkU_nat nilU_nat)
noncomputable def prefix_Table_add_int (k : Nat) (x0 : DReader) (x1 : Int) (x2 : List ((List UInt8) × Int)) (x3 : List ((Int) × Int)) (x4 : List ((List UInt8) × Int)) (x5 : List (DReader)) : Option ((Bool) × (((Unit) × ((Unit) × ((Unit) × ((Unit) × ((Int) × (Unit)))))) × ((List ((List UInt8) × Int)) × ((List ((Int) × Int)) × ((List ((List UInt8) × Int)) × (List (DReader))))))) :=
  Option.bind (prefix_Table_add_intu0 k (mhas (.int .i64) x0.2.1 x3) x1 x2 x3 x4 x0 x5) fun (v186 : (Bool) × (((Unit) × ((Unit) × ((Unit) × ((Unit) × ((Int) × (Unit)))))) × ((List ((List UInt8) × Int)) × ((List ((Int) × Int)) × ((List ((List UInt8) × Int)) × ((DReader) × (List (DReader)))))))) =>
  bif v186.1 then
    some (false, (((), ((), ((), ((), (v186.2.1.2.2.2.2.1, ()))))), (v186.2.2.1, (v186.2.2.2.1, (v186.2.2.2.2.1, v186.2.2.2.2.2.2)))))
  else
  Option.bind (prefix_Table_add_intu1 k k ((List.length v186.2.2.2.2.2.1.1 : Nat) : Int) 0 v186.2.1.2.2.2.2.1 v186.2.2.1 v186.2.2.2.1 v186.2.2.2.2.1 v186.2.2.2.2.2.1 v186.2.2.2.2.2.2) fun r =>
  Sum.elim (fun (v187 : (Bool) × (((Unit) × ((Unit) × ((Unit) × ((Unit) × ((Int) × (Unit)))))) × ((List ((List UInt8) × Int)) × ((List ((Int) × Int)) × ((List ((List UInt8) × Int)) × ((DReader) × (List (DReader)))))))) =>
    some (v187.1, (((), ((), ((), ((), (v187.2.1.2.2.2.2.1, ()))))), (v187.2.2.1, (v187.2.2.2.1, (v187.2.2.2.2.1, v187.2.2.2.2.2.2))))))
    (fun (v188 : (Unit) × (((Unit) × ((Unit) × ((Unit) × ((Unit) × ((Int) × (Unit)))))) × ((List ((List UInt8) × Int)) × ((List ((Int) × Int)) × ((List ((List UInt8) × Int)) × ((DReader) × (List (DReader)))))))) =>
    Option.bind (prefix_Table_add_intu2 k k ((List.length v188.2.2.2.2.2.1.1 : Nat) : Int) 0 v188.2.1.2.2.2.2.1 v188.2.2.1 v188.2.2.2.1 v188.2.2.2.2.1 v188.2.2.2.2.2.1 v188.2.2.2.2.2.2) fun (v189 : (Unit) × (((Unit) × ((Unit) × ((Unit) × ((Unit) × ((Int) × (Unit)))))) × ((List ((List UInt8) × Int)) × ((List ((Int) × Int)) × ((List ((List UInt8) × Int)) × ((DReader) × (List (DReader)))))))) =>
    bif (inR (((mpos .str v189.2.2.2.2.2.1.1 v189.2.2.1) : Nat) : Int) (List.length (mtouch .str v189.2.2.2.2.2.1.1 v189.2.2.1))) then
      bif (inR (((mpos (.int .i64) v189.2.2.2.2.2.1.2.1 v189.2.2.2.1) : Nat) : Int) (List.length (mtouch (.int .i64) v189.2.2.2.2.2.1.2.1 v189.2.2.2.1))) then
        bif (decide ((List.length v189.2.2.2.2.2.2) + 1 ≤ rowMax)) then
          some (true, (((), ((), ((), ((), ((mxI v189.2.1.2.2.2.2.1 ((List.length v189.2.2.2.2.2.1.1 : Nat) : Int)), ()))))), ((mstore ((List.length v189.2.2.2.2.2.2 : Nat) : Int) (Int.toNat (((mpos .str v189.2.2.2.2.2.1.1 v189.2.2.1) : Nat) : Int)) (mtouch .str v189.2.2.2.2.2.1.1 v189.2.2.1)), ((mstore ((List.length v189.2.2.2.2.2.2 : Nat) : Int) (Int.toNat (((mpos (.int .i64) v189.2.2.2.2.2.1.2.1 v189.2.2.2.1) : Nat) : Int)) (mtouch (.int .i64) v189.2.2.2.2.2.1.2.1 v189.2.2.2.1)), (v189.2.2.2.2.1, (v189.2.2.2.2.2.2 ++ ([v189.2.2.2.2.2.1] : List (DReader))))))))
        else
          none
      else
        none
    else
      none) r
noncomputable def z53b : AC :=
  (.seq (.region [(iO 3 (.box (.t 1))),
    (iO 4 (.mv (.c (.tv .bool (false : Bool)))))])
  (.seq (.seq (.draw [(iO 12 (.mv (.t 0))),
    (iOa 13 (.nilc (.t 12)) [0]),
    (iOa 14 (.fad 2 2 (.t 13)) [0, 1]),
    (iOa 15 (.load false 1 (.t 14)) [0, 1, 2]),
    (iO 16 (.fad 1 1 (.t 3))),
    (iOa 17 (.load false 1 (.t 16)) [4]),
    (iOa 18 (.mlook (.int .i64) true (.t 15) (.t 17)) (rg [0, 6])),
    (iOa 11 (.mv (.t 18)) (rg [0, 7])),
    (iOa 19 (.ext (.t 11) 0) (rg [0, 8])),
    (iOa 20 (.ext (.t 11) 1) (rg [0, 8])),
    (iOa 5 (.mv (.t 19)) (rg [0, 9])),
    (iOa 6 (.mv (.t 20)) (rg [0, 11]))])
  (.seq (.unit 0 z53u0d false z53u0b)
  (.cond (.t 37)
  (.seq (.region [(iO 4 (.mv (.c (.tv .bool (false : Bool)))))])
    .ret)
  .skip)))
  (.seq (.seq (.region [(iO 38 (.fad 0 0 (.t 3))),
    (iO 39 (.load false 1 (.t 38))),
    (iO 40 (.lens (.t 39))),
    (iO 41 (.mv (nI 0)))])
  (.block 0 (.unit 1 z53u1d true z53u1b)))
  (.seq (.seq (.region [(iO 59 (.fad 0 0 (.t 3))),
    (iO 60 (.load false 1 (.t 59))),
    (iO 61 (.lens (.t 60))),
    (iO 62 (.mv (nI 0)))])
  (.block 2 (.unit 2 z53u2d true z53u2b)))
  (.seq (.draw [(iO 77 (.mv (.t 0))),
    (iOa 78 (.nilc (.t 77)) [0]),
    (iOa 79 (.fad 1 1 (.t 78)) [0, 1]),
    (iOa 80 (.load false 1 (.t 79)) [0, 1, 2]),
    (iO 81 (.fad 0 0 (.t 3))),
    (iOa 82 (.load false 1 (.t 81)) [4]),
    (iO 83 (.mv (.t 0))),
    (iOa 84 (.nilc (.t 83)) [6]),
    (iOa 85 (.fad 2 2 (.t 84)) [6, 7]),
    (iOa 86 (.load false 1 (.t 85)) [6, 7, 8]),
    (iO 87 (.fad 1 1 (.t 3))),
    (iOa 88 (.load false 1 (.t 87)) [10]),
    (iO 89 (.mv (.t 0))),
    (iOa 90 (.nilc (.t 89)) [12]),
    (iOa 91 (.fad 0 0 (.t 90)) [12, 13]),
    (iOa 92 (.load false 1 (.t 91)) [12, 13, 14]),
    (iOa 93 (.len (.t 92)) (rg [12, 4])),
    (iO 94 (.mv (.t 0))),
    (iOa 95 (.nilc (.t 94)) [17]),
    (iOa 96 (.fad 0 0 (.t 95)) [17, 18]),
    (iOa 97 (.load false 1 (.t 96)) [17, 18, 19]),
    (iOa 98 (.len (.t 97)) (rg [17, 4])),
    (iOa 99 (.ment .str (.t 80) (.t 82)) (rg [0, 10, 17, 4])),
    (iOa 100 (.ext (.t 99) 1) (rg [0, 10, 17, 4, 22, 1])),
    (iSa (.mest (.t 80) (.t 100) (.t 93)) (rg [0, 10, 12, 9, 22, 2])),
    (iOa 101 (.ment (.int .i64) (.t 86) (.t 88)) (rg [0, 21, 22, 3])),
    (iOa 102 (.ext (.t 101) 1) (rg [0, 21, 22, 4])),
    (iSa (.mest (.t 86) (.t 102) (.t 98)) (rg [0, 27]))])
  (.seq (.draw [(iO 103 (.mv (.t 0))),
    (iO 104 (.mv (.t 0))),
    (iOa 105 (.nilc (.t 104)) [1]),
    (iOa 106 (.fad 0 0 (.t 105)) [1, 2]),
    (iOa 107 (.load false 1 (.t 106)) [1, 2, 3]),
    (iO 108 (.load true 2 (.t 3))),
    (iOa 109 (.bslice YReader [(.t 108)]) [5]),
    (iOa 110 (.app YReader (.t 107) (.t 109)) (rg [1, 6])),
    (iOa 111 (.nilc (.t 103)) (rg [0, 8])),
    (iOa 112 (.fad 0 0 (.t 111)) (rg [0, 9])),
    (iSa (.store 1 none (.t 112) (.t 110)) (rg [0, 10]))])
  (.seq (.draw [(iO 113 (.mv (.t 0))),
    (iO 114 (.mv (.t 0))),
    (iOa 115 (.nilc (.t 114)) [1]),
    (iOa 116 (.fad 4 4 (.t 115)) [1, 2]),
    (iOa 117 (.load false 1 (.t 116)) [1, 2, 3]),
    (iO 118 (.fad 0 0 (.t 3))),
    (iOa 119 (.load false 1 (.t 118)) [5]),
    (iOa 120 (.lens (.t 119)) [5, 6]),
    (iOa 121 (.mx (.t 117) (.t 120)) (rg [1, 7])),
    (iOa 122 (.nilc (.t 113)) (rg [0, 9])),
    (iOa 123 (.fad 4 4 (.t 122)) (rg [0, 10])),
    (iSa (.store 1 none (.t 123) (.t 121)) (rg [0, 11]))])
  (.seq (.region [(iO 4 (.mv (.c (.tv .bool (true : Bool)))))])
  .ret))))))))
noncomputable def z53f : FDef := ⟨2, 124, [.tmp 4 none], z53b⟩
noncomputable def z53p : XPat := ⟨.normal, [(.ptr 0 []), (.tv YReader)], [(.box (.cons (.row 4) (.cons (.mp 1) (.cons (.mp 2) (.cons (.mp 3) (.cons (.tv (.int .i64)) .nil)))))), (.mp .str), (.mp (.int .i64)), (.mp .str), (.row YReader false)]⟩
noncomputable def z53x : List XPat := [⟨.ret, [(.tv .bool)], [(.box (.cons (.row 4) (.cons (.mp 1) (.cons (.mp 2) (.cons (.mp 3) (.cons (.tv (.int .i64)) .nil)))))), (.mp .str), (.mp (.int .i64)), (.mp .str), (.row YReader false)]⟩]
noncomputable def z53t (k : Nat) (d : z53p.D) : Option (XD z53x) := prefix_Table_add_int k d.1.2 d.2.1.2.2.2.2.1 d.2.2.1 d.2.2.2.1 d.2.2.2.2.1 d.2.2.2.2.2
noncomputable def z53_e (k : Nat) : UEntry := mkU z53p z53x (z53t k) nilU
theorem z53_n (k : Nat) : UNat (z53_e k) := mkU_nat nilU_nat
theorem z53_fu (k : Nat) : FU P GL 97 (z53_e k) :=
  fn_typed (uorc := uorT (z53U3 k)) hmo (T52_ok k).oo (z53U3_k k) (fd := z53f) (AllU.seq (AllU.no (by kernel_rfl)) (AllU.seq (AllU.seq (AllU.no (by kernel_rfl)) (AllU.seq (AllU.unit (uorc := uorT (z53U3 k)) (u := 0) (z53u0_k k)) (AllU.no (by kernel_rfl)))) (AllU.seq (AllU.seq (AllU.no (by kernel_rfl)) (AllU.block (AllU.unit (uorc := uorT (z53U3 k)) (u := 1) (z53u1_k k)))) (AllU.seq (AllU.seq (AllU.no (by kernel_rfl)) (AllU.block (AllU.unit (uorc := uorT (z53U3 k)) (u := 2) (z53u2_k k)))) (AllU.no (by kernel_rfl)))))) (fn := Tryd.f97) (by kernel_rfl) (by kernel_rfl) (fun d => by kernel_rfl) FU_nil
noncomputable def T53 (k : Nat) : List (Nat × Ent) := (97, ⟨z53_e k⟩) :: T52 k
theorem T53_ok (k : Nat) : TabOK P GL (T53 k) := (T52_ok k).cons (z53_fu k) (z53_n k)
end Go.Proofs.YtlemoepklgfjoaaDoor
