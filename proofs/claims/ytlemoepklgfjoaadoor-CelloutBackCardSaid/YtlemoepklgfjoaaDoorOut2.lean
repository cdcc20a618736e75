/-
  The functions of the program as typed functions, further on. Printed by a program of mine.
-/
import Derived.Test.YtlemoepklgfjoaaDoorOut1
set_option maxRecDepth 100000
namespace Go.Proofs.YtlemoepklgfjoaaDoor
open Go Go.Av
/-! ### overspill.prefix.Make[int] -/
noncomputable def z54U0 (_ : Nat) : List (Nat × Ent) := []
theorem z54U0_k (k : Nat) : UTab (z54U0 k) := UTab.nil
noncomputable def z54u0d : UDef := ⟨[(0, none)], [7, 8, 9, 10, 11, 12, 13, 14], [(.normal, [(14, none)])], []⟩
noncomputable def z54u0p : XPat := ⟨.normal, [(.tv (.sl YReader))], []⟩
noncomputable def z54u0x : List XPat := [⟨.normal, [(.tv .bool)], []⟩]
noncomputable def prefix_Make_intu0 (k : Nat) (x0 : List (DReader)) : Option (Bool) :=
  bif (decide (((List.length x0 : Nat) : Int) = 0)) then
    some true
  else
  some (decide ((256 : Int) < ((List.length x0 : Nat) : Int)))
noncomputable def z54u0b : AC :=
  (.region [(iO 7 (.mv (.t 0))),
    (iO 8 (.len (.t 7))),
    (iO 9 (.bin .eql (.t 8) (nI 0))),
    (iO 10 (.mv (.t 9))),
    ⟨some 11, some (3, 10, false), (.op (.mv (.t 0))), []⟩,
    ⟨some 12, some (3, 10, false), (.op (.len (.t 11))), []⟩,
    ⟨some 13, some (3, 10, false), (.op (.bin .gtr (.t 12) (nI 256))), []⟩,
    (iO 14 (.pick (.t 10) (.c (.tv .bool (true : Bool))) (.t 13)))])
noncomputable def z54u0t (k : Nat) (d : z54u0p.D) : Option (XD z54u0x) := prefix_Make_intu0 k d
theorem z54u0_k (k : Nat) : UOK P GL (mkU z54u0p z54u0x (z54u0t k) nilU) z54u0d false z54u0b :=
  unit_typed (ud := z54u0d) (body := z54u0b) (uorc := uorT (z54U0 k)) hmo (T53_ok k).oo (z54U0_k k) (AllU.no (by kernel_rfl)) (fun d => by kernel_rfl)
noncomputable def z54U1 (k : Nat) : List (Nat × Ent) := (0, ⟨mkU z54u0p z54u0x (z54u0t k) nilU⟩) :: z54U0 k
theorem z54U1_k (k : Nat) : UTab (z54U1 k) := (z54U0_k k).cons (mkU_nat nilU_nat)
noncomputable def z54u1d : UDef := ⟨[(4, none), (20, none), (21, none), (22, none)], [2, 3, 6, 22, 23, 24, 25, 26, 27, 28, 29, 30], [(.ret, [(2, none), (3, none)]), ((.exit 0), [])], []⟩
noncomputable def z54u1p : XPat := ⟨.normal, [(.ptr 0 []), (.tv (.sl YReader)), (.tv (.int .i64)), (.tv (.int .i64))], [(.box (.cons (.row 4) (.cons (.mp 1) (.cons (.mp 2) (.cons (.mp 3) (.cons (.tv (.int .i64)) .nil)))))), (.mp .str), (.mp (.int .i64)), (.mp .str), (.row YReader false)]⟩
noncomputable def z54u1x : List XPat := [⟨.ret, [.nilp, (.tv (.int .i64))], [(.box (.cons (.row 4) (.cons (.mp 1) (.cons (.mp 2) (.cons (.mp 3) (.cons (.tv (.int .i64)) .nil)))))), (.mp .str), (.mp (.int .i64)), (.mp .str), (.row YReader false)]⟩, ⟨(.exit 0), [], [(.box (.cons (.row 4) (.cons (.mp 1) (.cons (.mp 2) (.cons (.mp 3) (.cons (.tv (.int .i64)) .nil)))))), (.mp .str), (.mp (.int .i64)), (.mp .str), (.row YReader false)]⟩]
noncomputable def prefix_Make_intu1 (k : Nat) : Nat → (List (DReader)) → (Int) → (Int) → (Int) → (List ((List UInt8) × Int)) → (List ((Int) × Int)) → (List ((List UInt8) × Int)) → (List (DReader)) → Option ((((Unit) × (Int)) × (((Unit) × ((Unit) × ((Unit) × ((Unit) × ((Int) × (Unit)))))) × ((List ((List UInt8) × Int)) × ((List ((Int) × Int)) × ((List ((List UInt8) × Int)) × (List (DReader))))))) ⊕ ((Unit) × (((Unit) × ((Unit) × ((Unit) × ((Unit) × ((Int) × (Unit)))))) × ((List ((List UInt8) × Int)) × ((List ((Int) × Int)) × ((List ((List UInt8) × Int)) × (List (DReader))))))))
  | 0, _, _, _, _, _, _, _, _ => none
  | n + 1, x0, x1, x2, x3, x4, x5, x6, x7 =>
    bif (decide (x2 < x1)) then
      bif (inR x2 (List.length x0)) then
        Option.bind (prefix_Table_add_int k (List.getD x0 (Int.toNat x2) (([] : List UInt8), (0, ()))) x3 x4 x5 x6 x7) fun (v191 : (Bool) × (((Unit) × ((Unit) × ((Unit) × ((Unit) × ((Int) × (Unit)))))) × ((List ((List UInt8) × Int)) × ((List ((Int) × Int)) × ((List ((List UInt8) × Int)) × (List (DReader))))))) =>
        bif (!v191.1) then
          some (Sum.inl (((), 1), (((), ((), ((), ((), (v191.2.1.2.2.2.2.1, ()))))), (v191.2.2.1, (v191.2.2.2.1, (v191.2.2.2.2.1, v191.2.2.2.2.2))))))
        else
        Option.bind (prefix_Make_intu1 k n x0 x1 (wr .i64 (x2 + 1)) v191.2.1.2.2.2.2.1 v191.2.2.1 v191.2.2.2.1 v191.2.2.2.2.1 v191.2.2.2.2.2) fun r => Sum.elim (fun w => some (Sum.inl w)) (fun w => some (Sum.inr w)) r
      else
        none
    else
    some (Sum.inr ((), (((), ((), ((), ((), (x3, ()))))), (x4, (x5, (x6, x7))))))
noncomputable def z54u1b : AC :=
  (.seq (.region [(iO 23 (.bin .lss (.t 22) (.t 21)))])
  (.seq (.cond (.t 23)
  .skip
  (.exit 0))
  (.seq (.block 1 (.seq (.region [(iO 24 (.iads YReader (.t 20) (.t 22))),
    (iO 25 (.load true 2 (.t 24))),
    (iO 6 (.alloc 122 (.tv YReader))),
    (iS (.store 2 none (.t 6) (.t 25)))])
  (.seq (.region [(iO 26 (.mv (.t 4))),
    (iO 27 (.load true 2 (.t 6))),
    (iC 28 97 [((.t 26), none), ((.t 27), some YReader)]),
    (iO 29 (.un .not (.t 28)))])
  (.cond (.t 29)
  (.seq (.region [(iO 2 (.mv (.c .nilp))),
      (iO 3 (.mv (nI 1)))])
    .ret)
  .skip))))
  (.region [(iO 30 (.bin .add (.t 22) (nI 1))),
    (iO 22 (.mv (.t 30)))]))))
noncomputable def z54u1t (k n : Nat) (d : z54u1p.D) : Option (XD z54u1x) := prefix_Make_intu1 k n d.1.2.1 d.1.2.2.1 d.1.2.2.2 d.2.1.2.2.2.2.1 d.2.2.1 d.2.2.2.1 d.2.2.2.2.1 d.2.2.2.2.2
theorem z54u1_k (k : Nat) : UOK P GL (mkU z54u1p z54u1x (z54u1t k k) nilU) z54u1d true z54u1b :=
  loop_typed (ud := z54u1d) (body := z54u1b) (uorc := uorT (z54U1 k)) hmo (T53_ok k).oo (z54U1_k k) (AllU.no (by kernel_rfl)) (t := z54u1t k) (fun d => by kernel_rfl) (fun n d => by kernel_rfl) k
noncomputable def z54U2 (k : Nat) : List (Nat × Ent) := (1, ⟨mkU z54u1p z54u1x (z54u1t k k) nilU⟩) :: z54U1 k
theorem z54U2_k (k : Nat) : UTab (z54U2 k) := (z54U1_k k).cons (mkU_nat nilU_nat)
noncomputable def prefix_Make_int (k : Nat) (x0 : List (DReader)) : Option (((Unit) × ((Int) × (Unit))) ⊕ (((Unit) × ((Int) × (Unit))) × (((Unit) × ((Unit) × ((Unit) × ((Unit) × ((Int) × (Unit)))))) × ((List ((List UInt8) × Int)) × ((List ((Int) × Int)) × ((List ((List UInt8) × Int)) × (List (DReader)))))))) :=
  Option.bind (prefix_Make_intu0 k x0) fun (v165 : Bool) =>
  bif v165 then
    some (Sum.inl ((), (1, ())))
  else
  Option.bind (prefix_Make_intu1 k k x0 ((List.length x0 : Nat) : Int) 0 0 ([] : List ((List UInt8) × Int)) ([] : List ((Int) × Int)) ([] : List ((List UInt8) × Int)) ([] : List (DReader))) fun r =>
  Sum.elim (fun (v192 : ((Unit) × (Int)) × (((Unit) × ((Unit) × ((Unit) × ((Unit) × ((Int) × (Unit)))))) × ((List ((List UInt8) × Int)) × ((List ((Int) × Int)) × ((List ((List UInt8) × Int)) × (List (DReader))))))) =>
    some (Sum.inl ((), (v192.1.2, ()))))
    (fun (v193 : (Unit) × (((Unit) × ((Unit) × ((Unit) × ((Unit) × ((Int) × (Unit)))))) × ((List ((List UInt8) × Int)) × ((List ((Int) × Int)) × ((List ((List UInt8) × Int)) × (List (DReader))))))) =>
    some (Sum.inr (((), (0, ())), (((), ((), ((), ((), (v193.2.1.2.2.2.2.1, ()))))), (v193.2.2.1, (v193.2.2.2.1, (v193.2.2.2.2.1, v193.2.2.2.2.2))))))) r
noncomputable def z54b : AC :=
  (.seq (.region [(iO 2 (.mv (.c .nilp))),
    (iO 3 (.mv (nI 0)))])
  (.seq (.seq (.unit 0 z54u0d false z54u0b)
  (.cond (.t 14)
  (.seq (.region [(iO 2 (.mv (.c .nilp))),
      (iO 3 (.mv (nI 1)))])
    .ret)
  .skip))
  (.seq (.region [(iO 15 (.mkmap .str)),
    (iO 16 (.mkmap (.int .i64))),
    (iO 17 (.mkmap .str)),
    (iO 18 (.build 148 (.cons (.row YReader) (.cons .junk (.cons .junk (.cons .junk (.cons (.tv (.int .i64)) .nil))))) [(1, (.fld 1 1), 1, (.t 15)), (2, (.fld 2 2), 1, (.t 16)), (3, (.fld 3 3), 1, (.t 17))])),
    (iO 19 (.box (.t 18))),
    (iO 4 (.mv (.t 19)))])
  (.seq (.seq (.region [(iO 20 (.mv (.t 0))),
    (iO 21 (.len (.t 20))),
    (iO 22 (.mv (nI 0)))])
  (.block 0 (.unit 1 z54u1d true z54u1b)))
  (.seq (.region [(iO 31 (.mv (.t 4))),
    (iO 2 (.mv (.t 31))),
    (iO 3 (.mv (nI 0)))])
  .ret)))))
noncomputable def z54f : FDef := ⟨1, 32, [.tmp 2 none, .tmp 3 none], z54b⟩
noncomputable def z54p : XPat := ⟨.normal, [(.tv (.sl YReader))], []⟩
noncomputable def z54x : List XPat := [⟨.ret, [(.tup (.cons .nilp (.cons (.tv (.int .i64)) .nil)))], []⟩, ⟨.ret, [(.tup (.cons (.ptr 0 []) (.cons (.tv (.int .i64)) .nil)))], [(.box (.cons (.row 4) (.cons (.mp 1) (.cons (.mp 2) (.cons (.mp 3) (.cons (.tv (.int .i64)) .nil)))))), (.mp .str), (.mp (.int .i64)), (.mp .str), (.row YReader false)]⟩]
noncomputable def z54t (k : Nat) (d : z54p.D) : Option (XD z54x) := prefix_Make_int k d
noncomputable def z54_e (k : Nat) : UEntry := mkU z54p z54x (z54t k) nilU
theorem z54_n (k : Nat) : UNat (z54_e k) := mkU_nat nilU_nat
theorem z54_fu (k : Nat) : FU P GL 75 (z54_e k) :=
  fn_typed (uorc := uorT (z54U2 k)) hmo (T53_ok k).oo (z54U2_k k) (fd := z54f) (AllU.seq (AllU.no (by kernel_rfl)) (AllU.seq (AllU.seq (AllU.unit (uorc := uorT (z54U2 k)) (u := 0) (z54u0_k k)) (AllU.no (by kernel_rfl))) (AllU.seq (AllU.no (by kernel_rfl)) (AllU.seq (AllU.seq (AllU.no (by kernel_rfl)) (AllU.block (AllU.unit (uorc := uorT (z54U2 k)) (u := 1) (z54u1_k k)))) (AllU.no (by kernel_rfl)))))) (fn := Tryd.f75) (by kernel_rfl) (by kernel_rfl) (fun d => by kernel_rfl) FU_nil
noncomputable def T54 (k : Nat) : List (Nat × Ent) := (75, ⟨z54_e k⟩) :: T53 k
theorem T54_ok (k : Nat) : TabOK P GL (T54 k) := (T53_ok k).cons (z54_fu k) (z54_n k)
/-! ### overspill.mcbpc.table -/
noncomputable def z55U0 (_ : Nat) : List (Nat × Ent) := []
theorem z55U0_k (k : Nat) : UTab (z55U0 k) := UTab.nil
noncomputable def z55u0d : UDef := ⟨[(4, none), (9, none)], [5, 9, 10, 11, 12, 13, 14, 15], [((.exit 0), [])], []⟩
noncomputable def z55u0p : XPat := ⟨.normal, [(.fn 96 .nil (.cons (.ptr 0 []) (.cons (.ptr 1 []) .nil))), (.tv (.int .i64))], [(.box (.tv .bool)), (.box (.row 2)), (.row YReader false)]⟩
noncomputable def z55u0x : List XPat := [⟨(.exit 0), [], [(.box (.tv .bool)), (.box (.row 2)), (.row YReader false)]⟩]
noncomputable def mcbpc_tableu0 (k : Nat) : Nat → (Int) → (Bool) → (List (DReader)) → Option ((Unit) × ((Bool) × ((Unit) × (List (DReader)))))
  | 0, _, _, _ => none
  | n + 1, x0, x1, x2 =>
    bif (decide (x0 < 6)) then
      Option.bind (mcbpc_table_f1 k x0 x1 x2) fun (v163 : (Unit) × ((Bool) × ((Unit) × (List (DReader))))) =>
      Option.bind (mcbpc_tableu0 k n (wr .i64 (x0 + 1)) v163.2.1 v163.2.2.2) fun r => some r
    else
    some ((), (x1, ((), x2)))
noncomputable def z55u0b : AC :=
  (.seq (.region [(iO 10 (.bin .lss (.t 9) (nI 6)))])
  (.seq (.cond (.t 10)
  .skip
  (.exit 0))
  (.seq (.block 1 (.seq (.region [(iO 11 (.mv (.t 9))),
    (iO 5 (.mv (.t 11)))])
  (.region [(iO 12 (.mv (.t 4))),
    (iO 13 (.mv (.t 5))),
    ⟨some 14, none, (.call (.t 12) [((.t 13), none)]), []⟩])))
  (.region [(iO 15 (.bin .add (.t 9) (nI 1))),
    (iO 9 (.mv (.t 15)))]))))
noncomputable def z55u0t (k n : Nat) (d : z55u0p.D) : Option (XD z55u0x) := mcbpc_tableu0 k n d.1.2 d.2.1 d.2.2.2
theorem z55u0_k (k : Nat) : UOK P GL (mkU z55u0p z55u0x (z55u0t k k) nilU) z55u0d true z55u0b :=
  loop_typed (ud := z55u0d) (body := z55u0b) (uorc := uorT (z55U0 k)) hmo (T54_ok k).oo (z55U0_k k) (AllU.no (by kernel_rfl)) (t := z55u0t k) (fun d => by kernel_rfl) (fun n d => by kernel_rfl) k
noncomputable def z55U1 (k : Nat) : List (Nat × Ent) := (0, ⟨mkU z55u0p z55u0x (z55u0t k k) nilU⟩) :: z55U0 k
theorem z55U1_k (k : Nat) : UTab (z55U1 k) := (z55U0_k k).cons (mkU_nat nilU_nat)
noncomputable def mcbpc_table (k : Nat) (x0 : Bool) : Option ((Unit) ⊕ ((Unit) × (((Unit) × ((Unit) × ((Unit) × ((Unit) × ((Int) × (Unit)))))) × ((List ((List UInt8) × Int)) × ((List ((Int) × Int)) × ((List ((List UInt8) × Int)) × (List (DReader)))))))) :=
  Option.bind (mcbpc_tableu0 k k 0 x0 ([] : List (DReader))) fun (v164 : (Unit) × ((Bool) × ((Unit) × (List (DReader))))) =>
  Option.bind (prefix_Make_int k v164.2.2.2) fun r =>
  Sum.elim (fun (v194 : (Unit) × ((Int) × (Unit))) =>
    some (Sum.inl ()))
    (fun (v195 : ((Unit) × ((Int) × (Unit))) × (((Unit) × ((Unit) × ((Unit) × ((Unit) × ((Int) × (Unit)))))) × ((List ((List UInt8) × Int)) × ((List ((Int) × Int)) × ((List ((List UInt8) × Int)) × (List (DReader))))))) =>
    some (Sum.inr ((), (((), ((), ((), ((), (v195.2.1.2.2.2.2.1, ()))))), (v195.2.2.1, (v195.2.2.2.1, (v195.2.2.2.2.1, v195.2.2.2.2.2))))))) r
noncomputable def z55b : AC :=
  (.seq (.region [(iO 1 (.box (.t 0))),
    (iO 2 (.mv (.c .nilp)))])
  (.seq (.region [(iO 3 (.alloc 120 (.row YReader)))])
  (.seq (.region [(iO 8 (.mkfn 96 [] [(.t 1), (.t 3)])),
    (iO 4 (.mv (.t 8)))])
  (.seq (.seq (.region [(iO 9 (.mv (nI 0)))])
  (.block 0 (.unit 0 z55u0d true z55u0b)))
  (.seq (.region [(iO 17 (.load false 1 (.t 3))),
    (iC 18 75 [((.t 17), some (.sl YReader))]),
    (iO 16 (.mv (.t 18))),
    (iO 19 (.ext (.t 16) 0)),
    (iO 20 (.ext (.t 16) 1)),
    (iO 6 (.mv (.t 19))),
    (iO 7 (.mv (.t 20)))])
  (.seq (.region [(iO 21 (.mv (.t 6))),
    (iO 2 (.mv (.t 21)))])
  .ret))))))
noncomputable def z55f : FDef := ⟨1, 22, [.tmp 2 none], z55b⟩
noncomputable def z55p : XPat := ⟨.normal, [(.tv .bool)], []⟩
noncomputable def z55x : List XPat := [⟨.ret, [.nilp], []⟩, ⟨.ret, [(.ptr 0 [])], [(.box (.cons (.row 4) (.cons (.mp 1) (.cons (.mp 2) (.cons (.mp 3) (.cons (.tv (.int .i64)) .nil)))))), (.mp .str), (.mp (.int .i64)), (.mp .str), (.row YReader false)]⟩]
noncomputable def z55t (k : Nat) (d : z55p.D) : Option (XD z55x) := mcbpc_table k d
noncomputable def z55_e (k : Nat) : UEntry := mkU z55p z55x (z55t k) nilU
theorem z55_n (k : Nat) : UNat (z55_e k) := mkU_nat nilU_nat
theorem z55_fu (k : Nat) : FU P GL 73 (z55_e k) :=
  fn_typed (uorc := uorT (z55U1 k)) hmo (T54_ok k).oo (z55U1_k k) (fd := z55f) (AllU.seq (AllU.no (by kernel_rfl)) (AllU.seq (AllU.no (by kernel_rfl)) (AllU.seq (AllU.no (by kernel_rfl)) (AllU.seq (AllU.seq (AllU.no (by kernel_rfl)) (AllU.block (AllU.unit (uorc := uorT (z55U1 k)) (u := 0) (z55u0_k k)))) (AllU.no (by kernel_rfl)))))) (fn := Tryd.f73) (by kernel_rfl) (by kernel_rfl) (fun d => by kernel_rfl) FU_nil
noncomputable def T55 (k : Nat) : List (Nat × Ent) := (73, ⟨z55_e k⟩) :: T54 k
theorem T55_ok (k : Nat) : TabOK P GL (T55 k) := (T54_ok k).cons (z55_fu k) (z55_n k)
/-! ### (*overspill.prefix.Table[int]).Take -/
noncomputable def z56U0 (_ : Nat) : List (Nat × Ent) := []
theorem z56U0_k (k : Nat) : UTab (z56U0 k) := UTab.nil
noncomputable def z56u0d : UDef := ⟨[(0, none), (1, none)], [13, 14, 15, 16, 17, 18], [(.normal, [(18, none)])], []⟩
noncomputable def z56u0p : XPat := ⟨.normal, [.nilp, (.ptr 0 [])], [(.box (.tv YReader))]⟩
noncomputable def z56u0x : List XPat := [⟨.normal, [(.tv .bool)], [(.box (.tv YReader))]⟩]
noncomputable def prefix_Table_Take_intu0 (k : Nat) (x0 : DReader) : Option ((Bool) × (DReader)) :=
  some (true, x0)
noncomputable def z56u0b : AC :=
  (.region [(iO 13 (.mv (.t 0))),
    (iO 14 (.eqp false (.t 13) (.c .nilp))),
    (iO 15 (.mv (.t 14))),
    ⟨some 16, some (2, 15, false), (.op .bad), []⟩,
    ⟨some 17, some (2, 15, false), (.op .bad), []⟩,
    (iO 18 (.pick (.t 15) (.c (.tv .bool (true : Bool))) (.t 17)))])
noncomputable def z56u0t (k : Nat) (d : z56u0p.D) : Option (XD z56u0x) := prefix_Table_Take_intu0 k d.2
theorem z56u0_k (k : Nat) : UOK P GL (mkU z56u0p z56u0x (z56u0t k) nilU) z56u0d false z56u0b :=
  unit_typed (ud := z56u0d) (body := z56u0b) (uorc := uorT (z56U0 k)) hmo (T55_ok k).oo (z56U0_k k) (AllU.no (by kernel_rfl)) (fun d => by kernel_rfl)
noncomputable def z56U1 (k : Nat) : List (Nat × Ent) := (0, ⟨mkU z56u0p z56u0x (z56u0t k) nilU⟩) :: z56U0 k
theorem z56U1_k (k : Nat) : UTab (z56U1 k) := (z56U0_k k).cons (mkU_nat nilU_nat)
noncomputable def z56u1d : UDef := ⟨[(0, none), (1, none), (6, none), (7, none), (8, none)], [4, 5, 8, 9, 10, 11, 12, 22, 23, 24, 25, 26, 27, 28, 29, 30, 31, 32, 33, 34, 35, 36, 37, 38, 39, 40, 41, 42, 43, 44, 45, 46, 47, 48, 49, 50, 51, 52, 53, 54, 55, 56, 57, 58, 59, 60, 61, 62, 63, 64, 65, 66, 67, 68], [(.ret, [(4, none), (5, none)])], []⟩
noncomputable def z56u1p : XPat := ⟨.normal, [.nilp, (.ptr 0 []), (.tv (.int .i64)), (.tv (.int .i64)), (.tv .str)], [(.box (.tv YReader))]⟩
noncomputable def z56u1x : List XPat := [⟨.ret, [(.tv (.int .i64)), (.tv (.int .i64))], [(.box (.tv YReader))]⟩]
noncomputable def prefix_Table_Take_intu1 (k : Nat) : Nat → (Int) → (Int) → (List UInt8) → (DReader) → Option (((Int) × (Int)) × (DReader))
  | 0, _, _, _, _ => none
  | n + 1, x0, x1, x2, x3 =>
    Option.bind (inbits_Reader_Take k 1 x3) fun (v201 : ((Int) × ((Int) × (Unit))) × (DReader)) =>
    bif (!(decide (v201.1.2.1 = 0))) then
      Option.bind (inbits_Reader_Seek k x1 v201.2) fun (v202 : (Int) × (DReader)) =>
      some ((x0, v201.1.2.1), v202.2)
    else
    bif (decide ((0 : Int) ≤ v201.1.1 ∧ v201.1.1 ≤ (wr .i64 (v201.1.1 + 1)) ∧ (wr .i64 (v201.1.1 + 1)) ≤ ((2 : Nat) : Int))) then
      bif (decide ((List.length x2) + (List.length (List.drop (Int.toNat v201.1.1) (List.take (Int.toNat (wr .i64 (v201.1.1 + 1))) ([48, 49] : List UInt8)))) ≤ strMax)) then
        none
      else
        none
    else
      none
noncomputable def z56u1b : AC :=
  (.block 1 (.seq (.region [(iO 23 (.mv (.t 1))),
    (iC 24 72 [((.t 23), none), ((nI 1), none)]),
    (iO 22 (.mv (.t 24))),
    (iO 25 (.ext (.t 22) 0)),
    (iO 26 (.ext (.t 22) 1)),
    (iO 9 (.mv (.t 25))),
    (iO 10 (.mv (.t 26)))])
  (.seq (.seq (.region [(iO 27 (.mv (.t 10))),
    (iO 28 (.bin .neq (.t 27) (nI 0)))])
  (.cond (.t 28)
  (.seq (.region [(iO 29 (.mv (.t 1))),
      (iO 30 (.mv (.t 7))),
      (iC 31 8 [((.t 29), none), ((.t 30), none)])])
    (.seq (.region [(iO 32 (.mv (.t 6))),
      (iO 33 (.mv (.t 10))),
      (iO 4 (.mv (.t 32))),
      (iO 5 (.mv (.t 33)))])
    .ret))
  .skip))
  (.seq (.region [(iO 34 (.mv (.t 8))),
    (iO 35 (.mv (.t 9))),
    (iO 36 (.mv (.t 9))),
    (iO 37 (.bin .add (.t 36) (nI 1))),
    (iO 38 (.slis (.c (.tv .str (([48, 49] : List UInt8) : List UInt8))) (some (.t 35)) (some (.t 37)))),
    (iO 39 (.bin .add (.t 34) (.t 38))),
    (iO 8 (.mv (.t 39)))])
  (.seq (.seq (.region [(iO 41 (.mv (.t 0))),
    (iO 42 (.nilc (.t 41))),
    (iO 43 .bad),
    (iO 44 .bad),
    (iO 45 .bad),
    (iO 46 .bad),
    (iO 40 .bad),
    (iO 47 .bad),
    (iO 48 .bad),
    (iO 11 .bad),
    (iO 12 .bad)])
  (.seq (.region [(iO 49 .bad)])
  (.cond (.t 49)
  (.seq (.region [(iO 50 .bad),
      (iO 51 .bad),
      (iO 52 .bad),
      (iO 53 .bad),
      (iO 54 .bad),
      (iO 55 .bad),
      (iO 56 .bad),
      (iO 57 .bad),
      (iO 4 .bad),
      (iO 5 .bad)])
    .ret)
  .skip)))
  (.seq (.region [(iO 58 .bad),
    (iO 59 .bad),
    (iO 60 .bad),
    (iO 61 .bad),
    (iO 62 .bad),
    (iO 63 .bad),
    (iO 64 .bad)])
  (.cond (.t 64)
  (.seq (.region [(iO 65 .bad),
      (iO 66 .bad),
      (iO 67 .bad)])
    (.seq (.region [(iO 68 .bad),
      (iO 4 .bad),
      (iO 5 .bad)])
    .ret))
  .skip)))))))
noncomputable def z56u1t (k n : Nat) (d : z56u1p.D) : Option (XD z56u1x) := prefix_Table_Take_intu1 k n d.1.2.2.1 d.1.2.2.2.1 d.1.2.2.2.2 d.2
theorem z56u1_k (k : Nat) : UOK P GL (mkU z56u1p z56u1x (z56u1t k k) nilU) z56u1d true z56u1b :=
  loop_typed (ud := z56u1d) (body := z56u1b) (uorc := uorT (z56U1 k)) hmo (T55_ok k).oo (z56U1_k k) (AllU.no (by kernel_rfl)) (t := z56u1t k) (fun d => by kernel_rfl) (fun n d => by kernel_rfl) k
noncomputable def z56U2 (k : Nat) : List (Nat × Ent) := (1, ⟨mkU z56u1p z56u1x (z56u1t k k) nilU⟩) :: z56U1 k
theorem z56U2_k (k : Nat) : UTab (z56U2 k) := (z56U1_k k).cons (mkU_nat nilU_nat)
noncomputable def prefix_Table_Take_int (k : Nat) (x0 : DReader) : Option (((Int) × ((Int) × (Unit))) × (DReader)) :=
  Option.bind (prefix_Table_Take_intu0 k x0) fun (v197 : (Bool) × (DReader)) =>
  bif v197.1 then
    some ((0, (1, ())), v197.2)
  else
  Option.bind (inbits_Reader_At k v197.2) fun (v198 : (Int) × (DReader)) =>
  Option.bind (prefix_Table_Take_intu1 k k 0 v198.1 ([] : List UInt8) v198.2) fun (v203 : ((Int) × (Int)) × (DReader)) =>
  some ((v203.1.1, (v203.1.2, ())), v203.2)
noncomputable def z56b : AC :=
  (.seq (.region [(iO 4 (.mv (nI 0))),
    (iO 5 (.mv (nI 0)))])
  (.seq (.region [(iO 6 (.mv (nI 0)))])
  (.seq (.seq (.unit 0 z56u0d false z56u0b)
  (.cond (.t 18)
  (.seq (.region [(iO 19 (.mv (.t 6))),
      (iO 4 (.mv (.t 19))),
      (iO 5 (.mv (nI 1)))])
    .ret)
  .skip))
  (.seq (.region [(iO 20 (.mv (.t 1))),
    (iC 21 14 [((.t 20), none)]),
    (iO 7 (.mv (.t 21))),
    (iO 8 (.mv (.c (.tv .str (([] : List UInt8) : List UInt8)))))])
  (.block 0 (.unit 1 z56u1d true z56u1b))))))
noncomputable def z56f : FDef := ⟨2, 69, [.tmp 4 none, .tmp 5 none], z56b⟩
noncomputable def z56p : XPat := ⟨.normal, [.nilp, (.ptr 0 [])], [(.box (.tv YReader))]⟩
noncomputable def z56x : List XPat := [⟨.ret, [(.tup (.cons (.tv (.int .i64)) (.cons (.tv (.int .i64)) .nil)))], [(.box (.tv YReader))]⟩]
noncomputable def z56t (k : Nat) (d : z56p.D) : Option (XD z56x) := prefix_Table_Take_int k d.2
noncomputable def z56_e (k : Nat) : UEntry := mkU z56p z56x (z56t k) nilU
theorem z56_n (k : Nat) : UNat (z56_e k) := mkU_nat nilU_nat
theorem z56_fu (k : Nat) : FU P GL 74 (z56_e k) :=
  fn_typed (uorc := uorT (z56U2 k)) hmo (T55_ok k).oo (z56U2_k k) (fd := z56f) (AllU.seq (AllU.no (by kernel_rfl)) (AllU.seq (AllU.no (by kernel_rfl)) (AllU.seq (AllU.seq (AllU.unit (uorc := uorT (z56U2 k)) (u := 0) (z56u0_k k)) (AllU.no (by kernel_rfl))) (AllU.seq (AllU.no (by kernel_rfl)) (AllU.block (AllU.unit (uorc := uorT (z56U2 k)) (u := 1) (z56u1_k k))))))) (fn := Tryd.f74) (by kernel_rfl) (by kernel_rfl) (fun d => by kernel_rfl) FU_nil
noncomputable def T56 (k : Nat) : List (Nat × Ent) := (74, ⟨z56_e k⟩) :: T55 k
theorem T56_ok (k : Nat) : TabOK P GL (T56 k) := (T55_ok k).cons (z56_fu k) (z56_n k)
/-! ### (*overspill.prefix.Table[int]).Take -/
noncomputable def z57U0 (_ : Nat) : List (Nat × Ent) := []
theorem z57U0_k (k : Nat) : UTab (z57U0 k) := UTab.nil
noncomputable def z57u0d : UDef := ⟨[(0, none), (1, none)], [13, 14, 15, 16, 17, 18], [(.normal, [(18, none)])], []⟩
noncomputable def z57u0p : XPat := ⟨.normal, [(.ptr 0 []), (.ptr 4 [])], [(.box (.cons (.row 5) (.cons (.mp 1) (.cons (.mp 2) (.cons (.mp 3) (.cons (.tv (.int .i64)) .nil)))))), (.mp .str), (.mp (.int .i64)), (.mp .str), (.box (.tv YReader)), (.row YReader false)]⟩
noncomputable def z57u0x : List XPat := [⟨.normal, [(.tv .bool)], [(.box (.cons (.row 5) (.cons (.mp 1) (.cons (.mp 2) (.cons (.mp 3) (.cons (.tv (.int .i64)) .nil)))))), (.mp .str), (.mp (.int .i64)), (.mp .str), (.box (.tv YReader)), (.row YReader false)]⟩]
noncomputable def prefix_Table_Take_int_2u0 (k : Nat) (x0 : Int) (x1 : List ((List UInt8) × Int)) (x2 : List ((Int) × Int)) (x3 : List ((List UInt8) × Int)) (x4 : DReader) (x5 : List (DReader)) : Option ((Bool) × (((Unit) × ((Unit) × ((Unit) × ((Unit) × ((Int) × (Unit)))))) × ((List ((List UInt8) × Int)) × ((List ((Int) × Int)) × ((List ((List UInt8) × Int)) × ((DReader) × (List (DReader)))))))) :=
  some (false, (((), ((), ((), ((), (x0, ()))))), (x1, (x2, (x3, (x4, x5))))))
noncomputable def z57u0b : AC :=
  (.region [(iO 13 (.mv (.t 0))),
    (iO 14 (.eqp false (.t 13) (.c .nilp))),
    (iO 15 (.mv (.t 14))),
    ⟨some 16, some (2, 15, false), (.op (.mv (.t 1))), []⟩,
    ⟨some 17, some (2, 15, false), (.op (.eqp false (.t 16) (.c .nilp))), []⟩,
    (iO 18 (.pick (.t 15) (.c (.tv .bool (true : Bool))) (.t 17)))])
noncomputable def z57u0t (k : Nat) (d : z57u0p.D) : Option (XD z57u0x) := prefix_Table_Take_int_2u0 k d.2.1.2.2.2.2.1 d.2.2.1 d.2.2.2.1 d.2.2.2.2.1 d.2.2.2.2.2.1 d.2.2.2.2.2.2
theorem z57u0_k (k : Nat) : UOK P GL (mkU z57u0p z57u0x (z57u0t k) nilU) z57u0d false z57u0b :=
  unit_typed (ud := z57u0d) (body := z57u0b) (uorc := uorT (z57U0 k)) hmo (T56_ok k).oo (z57U0_k k) (AllU.no (by kernel_rfl)) (fun d => by kernel_rfl)
noncomputable def z57U1 (k : Nat) : List (Nat × Ent) := (0, ⟨mkU z57u0p z57u0x (z57u0t k) nilU⟩) :: z57U0 k
theorem z57U1_k (k : Nat) : UTab (z57U1 k) := (z57U0_k k).cons (mkU_nat nilU_nat)
noncomputable def z57u1d : UDef := ⟨[(0, none), (1, none), (6, none), (7, none), (8, none)], [4, 5, 8, 9, 10, 11, 12, 22, 23, 24, 25, 26, 27, 28, 29, 30, 31, 32, 33, 34, 35, 36, 37, 38, 39, 40, 41, 42, 43, 44, 45, 46, 47, 48, 49, 50, 51, 52, 53, 54, 55, 56, 57, 58, 59, 60, 61, 62, 63, 64, 65, 66, 67, 68], [(.ret, [(4, none), (5, none)])], []⟩
noncomputable def z57u1p : XPat := ⟨.normal, [(.ptr 0 []), (.ptr 4 []), (.tv (.int .i64)), (.tv (.int .i64)), (.tv .str)], [(.box (.cons (.row 5) (.cons (.mp 1) (.cons (.mp 2) (.cons (.mp 3) (.cons (.tv (.int .i64)) .nil)))))), (.mp .str), (.mp (.int .i64)), (.mp .str), (.box (.tv YReader)), (.row YReader false)]⟩
noncomputable def z57u1x : List XPat := [⟨.ret, [(.tv (.int .i64)), (.tv (.int .i64))], [(.box (.cons (.row 5) (.cons (.mp 1) (.cons (.mp 2) (.cons (.mp 3) (.cons (.tv (.int .i64)) .nil)))))), (.mp .str), (.mp (.int .i64)), (.mp .str), (.box (.tv YReader)), (.row YReader false)]⟩]
noncomputable def prefix_Table_Take_int_2u1 (k : Nat) : Nat → (Int) → (Int) → (List UInt8) → (Int) → (List ((List UInt8) × Int)) → (List ((Int) × Int)) → (List ((List UInt8) × Int)) → (DReader) → (List (DReader)) → Option (((Int) × (Int)) × (((Unit) × ((Unit) × ((Unit) × ((Unit) × ((Int) × (Unit)))))) × ((List ((List UInt8) × Int)) × ((List ((Int) × Int)) × ((List ((List UInt8) × Int)) × ((DReader) × (List (DReader))))))))
  | 0, _, _, _, _, _, _, _, _, _ => none
  | n + 1, x0, x1, x2, x3, x4, x5, x6, x7, x8 =>
    Option.bind (inbits_Reader_Take k 1 x7) fun (v212 : ((Int) × ((Int) × (Unit))) × (DReader)) =>
    bif (!(decide (v212.1.2.1 = 0))) then
      Option.bind (inbits_Reader_Seek k x1 v212.2) fun (v213 : (Int) × (DReader)) =>
      some ((x0, v212.1.2.1), (((), ((), ((), ((), (x3, ()))))), (x4, (x5, (x6, (v213.2, x8))))))
    else
    bif (decide ((0 : Int) ≤ v212.1.1 ∧ v212.1.1 ≤ (wr .i64 (v212.1.1 + 1)) ∧ (wr .i64 (v212.1.1 + 1)) ≤ ((2 : Nat) : Int))) then
      bif (decide ((List.length x2) + (List.length (List.drop (Int.toNat v212.1.1) (List.take (Int.toNat (wr .i64 (v212.1.1 + 1))) ([48, 49] : List UInt8)))) ≤ strMax)) then
        bif (mhas .str (x2 ++ (List.drop (Int.toNat v212.1.1) (List.take (Int.toNat (wr .i64 (v212.1.1 + 1))) ([48, 49] : List UInt8)))) x4) then
          bif (inR (mval .str (x2 ++ (List.drop (Int.toNat v212.1.1) (List.take (Int.toNat (wr .i64 (v212.1.1 + 1))) ([48, 49] : List UInt8)))) x4) (List.length x8)) then
            some (((List.getD x8 (Int.toNat (mval .str (x2 ++ (List.drop (Int.toNat v212.1.1) (List.take (Int.toNat (wr .i64 (v212.1.1 + 1))) ([48, 49] : List UInt8)))) x4)) (([] : List UInt8), (0, ()))).2.1, 0), (((), ((), ((), ((), (x3, ()))))), (x4, (x5, (x6, (v212.2, x8))))))
          else
            none
        else
        bif (decide ((mval .str (x2 ++ (List.drop (Int.toNat v212.1.1) (List.take (Int.toNat (wr .i64 (v212.1.1 + 1))) ([48, 49] : List UInt8)))) x6) = 0)) then
          Option.bind (inbits_Reader_Seek k x1 v212.2) fun (v214 : (Int) × (DReader)) =>
          some ((x0, 3), (((), ((), ((), ((), (x3, ()))))), (x4, (x5, (x6, (v214.2, x8))))))
        else
        Option.bind (prefix_Table_Take_int_2u1 k n x0 x1 (x2 ++ (List.drop (Int.toNat v212.1.1) (List.take (Int.toNat (wr .i64 (v212.1.1 + 1))) ([48, 49] : List UInt8)))) x3 x4 x5 x6 v212.2 x8) fun r => some r
      else
        none
    else
      none
noncomputable def z57u1b : AC :=
  (.block 1 (.seq (.region [(iO 23 (.mv (.t 1))),
    (iC 24 72 [((.t 23), none), ((nI 1), none)]),
    (iO 22 (.mv (.t 24))),
    (iO 25 (.ext (.t 22) 0)),
    (iO 26 (.ext (.t 22) 1)),
    (iO 9 (.mv (.t 25))),
    (iO 10 (.mv (.t 26)))])
  (.seq (.seq (.region [(iO 27 (.mv (.t 10))),
    (iO 28 (.bin .neq (.t 27) (nI 0)))])
  (.cond (.t 28)
  (.seq (.region [(iO 29 (.mv (.t 1))),
      (iO 30 (.mv (.t 7))),
      (iC 31 8 [((.t 29), none), ((.t 30), none)])])
    (.seq (.region [(iO 32 (.mv (.t 6))),
      (iO 33 (.mv (.t 10))),
      (iO 4 (.mv (.t 32))),
      (iO 5 (.mv (.t 33)))])
    .ret))
  .skip))
  (.seq (.region [(iO 34 (.mv (.t 8))),
    (iO 35 (.mv (.t 9))),
    (iO 36 (.mv (.t 9))),
    (iO 37 (.bin .add (.t 36) (nI 1))),
    (iO 38 (.slis (.c (.tv .str (([48, 49] : List UInt8) : List UInt8))) (some (.t 35)) (some (.t 37)))),
    (iO 39 (.bin .add (.t 34) (.t 38))),
    (iO 8 (.mv (.t 39)))])
  (.seq (.seq (.region [(iO 41 (.mv (.t 0))),
    (iO 42 (.nilc (.t 41))),
    (iO 43 (.fad 1 1 (.t 42))),
    (iO 44 (.load false 1 (.t 43))),
    (iO 45 (.mv (.t 8))),
    (iO 46 (.mlook .str true (.t 44) (.t 45))),
    (iO 40 (.mv (.t 46))),
    (iO 47 (.ext (.t 40) 0)),
    (iO 48 (.ext (.t 40) 1)),
    (iO 11 (.mv (.t 47))),
    (iO 12 (.mv (.t 48)))])
  (.seq (.region [(iO 49 (.mv (.t 12)))])
  (.cond (.t 49)
  (.seq (.region [(iO 50 (.mv (.t 0))),
      (iO 51 (.nilc (.t 50))),
      (iO 52 (.fad 0 0 (.t 51))),
      (iO 53 (.load false 1 (.t 52))),
      (iO 54 (.mv (.t 11))),
      (iO 55 (.iads YReader (.t 53) (.t 54))),
      (iO 56 (.fad 1 1 (.t 55))),
      (iO 57 (.load false 1 (.t 56))),
      (iO 4 (.mv (.t 57))),
      (iO 5 (.mv (nI 0)))])
    .ret)
  .skip)))
  (.seq (.region [(iO 58 (.mv (.t 0))),
    (iO 59 (.nilc (.t 58))),
    (iO 60 (.fad 3 3 (.t 59))),
    (iO 61 (.load false 1 (.t 60))),
    (iO 62 (.mv (.t 8))),
    (iO 63 (.mlook .str false (.t 61) (.t 62))),
    (iO 64 (.bin .eql (.t 63) (nI 0)))])
  (.cond (.t 64)
  (.seq (.region [(iO 65 (.mv (.t 1))),
      (iO 66 (.mv (.t 7))),
      (iC 67 8 [((.t 65), none), ((.t 66), none)])])
    (.seq (.region [(iO 68 (.mv (.t 6))),
      (iO 4 (.mv (.t 68))),
      (iO 5 (.mv (nI 3)))])
    .ret))
  .skip)))))))
noncomputable def z57u1t (k n : Nat) (d : z57u1p.D) : Option (XD z57u1x) := prefix_Table_Take_int_2u1 k n d.1.2.2.1 d.1.2.2.2.1 d.1.2.2.2.2 d.2.1.2.2.2.2.1 d.2.2.1 d.2.2.2.1 d.2.2.2.2.1 d.2.2.2.2.2.1 d.2.2.2.2.2.2
theorem z57u1_k (k : Nat) : UOK P GL (mkU z57u1p z57u1x (z57u1t k k) nilU) z57u1d true z57u1b :=
  loop_typed (ud := z57u1d) (body := z57u1b) (uorc := uorT (z57U1 k)) hmo (T56_ok k).oo (z57U1_k k) (AllU.no (by kernel_rfl)) (t := z57u1t k) (fun d => by kernel_rfl) (fun n d => by kernel_rfl) k
noncomputable def z57U2 (k : Nat) : List (Nat × Ent) := (1, ⟨mkU z57u1p z57u1x (z57u1t k k) nilU⟩) :: z57U1 k
theorem z57U2_k (k : Nat) : UTab (z57U2 k) := (z57U1_k k).cons (mkU_nat nilU_nat)
noncomputable def prefix_Table_Take_int_2 (k : Nat) (x0 : Int) (x1 : List ((List UInt8) × Int)) (x2 : List ((Int) × Int)) (x3 : List ((List UInt8) × Int)) (x4 : DReader) (x5 : List (DReader)) : Option (((Int) × ((Int) × (Unit))) × (((Unit) × ((Unit) × ((Unit) × ((Unit) × ((Int) × (Unit)))))) × ((List ((List UInt8) × Int)) × ((List ((Int) × Int)) × ((List ((List UInt8) × Int)) × ((DReader) × (List (DReader)))))))) :=
  Option.bind (prefix_Table_Take_int_2u0 k x0 x1 x2 x3 x4 x5) fun (v207 : (Bool) × (((Unit) × ((Unit) × ((Unit) × ((Unit) × ((Int) × (Unit)))))) × ((List ((List UInt8) × Int)) × ((List ((Int) × Int)) × ((List ((List UInt8) × Int)) × ((DReader) × (List (DReader)))))))) =>
  bif v207.1 then
    some ((0, (1, ())), (((), ((), ((), ((), (v207.2.1.2.2.2.2.1, ()))))), (v207.2.2.1, (v207.2.2.2.1, (v207.2.2.2.2.1, (v207.2.2.2.2.2.1, v207.2.2.2.2.2.2))))))
  else
  Option.bind (inbits_Reader_At k v207.2.2.2.2.2.1) fun (v208 : (Int) × (DReader)) =>
  Option.bind (prefix_Table_Take_int_2u1 k k 0 v208.1 ([] : List UInt8) v207.2.1.2.2.2.2.1 v207.2.2.1 v207.2.2.2.1 v207.2.2.2.2.1 v208.2 v207.2.2.2.2.2.2) fun (v215 : ((Int) × (Int)) × (((Unit) × ((Unit) × ((Unit) × ((Unit) × ((Int) × (Unit)))))) × ((List ((List UInt8) × Int)) × ((List ((Int) × Int)) × ((List ((List UInt8) × Int)) × ((DReader) × (List (DReader)))))))) =>
  some ((v215.1.1, (v215.1.2, ())), (((), ((), ((), ((), (v215.2.1.2.2.2.2.1, ()))))), (v215.2.2.1, (v215.2.2.2.1, (v215.2.2.2.2.1, (v215.2.2.2.2.2.1, v215.2.2.2.2.2.2))))))
noncomputable def z57b : AC :=
  (.seq (.region [(iO 4 (.mv (nI 0))),
    (iO 5 (.mv (nI 0)))])
  (.seq (.region [(iO 6 (.mv (nI 0)))])
  (.seq (.seq (.unit 0 z57u0d false z57u0b)
  (.cond (.t 18)
  (.seq (.region [(iO 19 (.mv (.t 6))),
      (iO 4 (.mv (.t 19))),
      (iO 5 (.mv (nI 1)))])
    .ret)
  .skip))
  (.seq (.region [(iO 20 (.mv (.t 1))),
    (iC 21 14 [((.t 20), none)]),
    (iO 7 (.mv (.t 21))),
    (iO 8 (.mv (.c (.tv .str (([] : List UInt8) : List UInt8)))))])
  (.block 0 (.unit 1 z57u1d true z57u1b))))))
noncomputable def z57f : FDef := ⟨2, 69, [.tmp 4 none, .tmp 5 none], z57b⟩
noncomputable def z57p : XPat := ⟨.normal, [(.ptr 0 []), (.ptr 4 [])], [(.box (.cons (.row 5) (.cons (.mp 1) (.cons (.mp 2) (.cons (.mp 3) (.cons (.tv (.int .i64)) .nil)))))), (.mp .str), (.mp (.int .i64)), (.mp .str), (.box (.tv YReader)), (.row YReader false)]⟩
noncomputable def z57x : List XPat := [⟨.ret, [(.tup (.cons (.tv (.int .i64)) (.cons (.tv (.int .i64)) .nil)))], [(.box (.cons (.row 5) (.cons (.mp 1) (.cons (.mp 2) (.cons (.mp 3) (.cons (.tv (.int .i64)) .nil)))))), (.mp .str), (.mp (.int .i64)), (.mp .str), (.box (.tv YReader)), (.row YReader false)]⟩]
noncomputable def z57t (k : Nat) (d : z57p.D) : Option (XD z57x) := prefix_Table_Take_int_2 k d.2.1.2.2.2.2.1 d.2.2.1 d.2.2.2.1 d.2.2.2.2.1 d.2.2.2.2.2.1 d.2.2.2.2.2.2
noncomputable def z57_e (k : Nat) : UEntry := mkU z57p z57x (z57t k) (z56_e k)
theorem z57_n (k : Nat) : UNat (z57_e k) := mkU_nat (z56_n k)
theorem z57_fu (k : Nat) : FU P GL 74 (z57_e k) :=
  fn_typed (uorc := uorT (z57U2 k)) hmo (T56_ok k).oo (z57U2_k k) (fd := z57f) (AllU.seq (AllU.no (by kernel_rfl)) (AllU.seq (AllU.no (by kernel_rfl)) (AllU.seq (AllU.seq (AllU.unit (uorc := uorT (z57U2 k)) (u := 0) (z57u0_k k)) (AllU.no (by kernel_rfl))) (AllU.seq (AllU.no (by kernel_rfl)) (AllU.block (AllU.unit (uorc := uorT (z57U2 k)) (u := 1) (z57u1_k k))))))) (fn := Tryd.f74) (by kernel_rfl) (by kernel_rfl) (fun d => by kernel_rfl) (z56_fu k)
noncomputable def T57 (k : Nat) : List (Nat × Ent) := (74, ⟨z57_e k⟩) :: T56 k
theorem T57_ok (k : Nat) : TabOK P GL (T57 k) := (T56_ok k).cons (z57_fu k) (z57_n k)
/-! ### overspill.mcbpc.Take -/
noncomputable def z58U0 (_ : Nat) : List (Nat × Ent) := []
theorem z58U0_k (k : Nat) : UTab (z58U0 k) := UTab.nil
noncomputable def mcbpc_Take (k : Nat) (x0 : Bool) (x1 : DReader) : Option (((Int) × ((Int) × ((Int) × (Unit)))) × (DReader)) :=
  Option.bind (inbits_Reader_At k x1) fun (v158 : (Int) × (DReader)) =>
  Option.bind (mcbpc_table k x0) fun r =>
  Sum.elim (fun (v196 : Unit) =>
    Option.bind (prefix_Table_Take_int k v158.2) fun (v204 : ((Int) × ((Int) × (Unit))) × (DReader)) =>
    bif (!(decide (v204.1.2.1 = 0))) then
      some ((0, (0, (v204.1.2.1, ()))), v204.2)
    else
    bif (decide ((wr .i64 (Int.tdiv v204.1.1 10)) = 2)) then
      Option.bind (inbits_Reader_Seek k v158.1 v204.2) fun (v205 : (Int) × (DReader)) =>
      some ((0, (0, (6, ()))), v205.2)
    else
    some (((wr .i64 (Int.tdiv v204.1.1 10)), ((Int.tmod v204.1.1 10), (0, ()))), v204.2))
    (fun (v206 : (Unit) × (((Unit) × ((Unit) × ((Unit) × ((Unit) × ((Int) × (Unit)))))) × ((List ((List UInt8) × Int)) × ((List ((Int) × Int)) × ((List ((List UInt8) × Int)) × (List (DReader))))))) =>
    Option.bind (prefix_Table_Take_int_2 k v206.2.1.2.2.2.2.1 v206.2.2.1 v206.2.2.2.1 v206.2.2.2.2.1 v158.2 v206.2.2.2.2.2) fun (v216 : ((Int) × ((Int) × (Unit))) × (((Unit) × ((Unit) × ((Unit) × ((Unit) × ((Int) × (Unit)))))) × ((List ((List UInt8) × Int)) × ((List ((Int) × Int)) × ((List ((List UInt8) × Int)) × ((DReader) × (List (DReader)))))))) =>
    bif (!(decide (v216.1.2.1 = 0))) then
      some ((0, (0, (v216.1.2.1, ()))), v216.2.2.2.2.2.1)
    else
    bif (decide ((wr .i64 (Int.tdiv v216.1.1 10)) = 2)) then
      Option.bind (inbits_Reader_Seek k v158.1 v216.2.2.2.2.2.1) fun (v217 : (Int) × (DReader)) =>
      some ((0, (0, (6, ()))), v217.2)
    else
    some (((wr .i64 (Int.tdiv v216.1.1 10)), ((Int.tmod v216.1.1 10), (0, ()))), v216.2.2.2.2.2.1)) r
noncomputable def z58b : AC :=
  (.seq (.region [(iO 4 (.mv (nI 0))),
    (iO 5 (.mv (nI 0))),
    (iO 6 (.mv (nI 0)))])
  (.seq (.region [(iO 10 (.mv (.t 0))),
    (iC 11 14 [((.t 10), none)]),
    (iO 7 (.mv (.t 11)))])
  (.seq (.region [(iO 13 (.mv (.t 1))),
    (iC 14 73 [((.t 13), none)]),
    (iO 15 (.mv (.t 0))),
    (iC 16 74 [((.t 14), none), ((.t 15), none)]),
    (iO 12 (.mv (.t 16))),
    (iO 17 (.ext (.t 12) 0)),
    (iO 18 (.ext (.t 12) 1)),
    (iO 8 (.mv (.t 17))),
    (iO 9 (.mv (.t 18)))])
  (.seq (.block 0 (.seq (.region [(iO 20 (.mv (.t 9))),
    (iO 21 (.bin .neq (.t 20) (nI 0))),
    (iO 19 (.mv (.t 21)))])
  (.cond (.t 19)
  (.seq (.region [(iO 22 (.mv (.t 9))),
      (iO 4 (.mv (nI 0))),
      (iO 5 (.mv (nI 0))),
      (iO 6 (.mv (.t 22)))])
    .ret)
  (.seq (.region [(iO 24 (.mv (.t 8))),
      (iO 25 (.bin .quo (.t 24) (nI 10))),
      (iO 26 (.bin .eql (.t 25) (nI 2))),
      (iO 23 (.mv (.t 26)))])
    (.cond (.t 23)
    (.seq (.region [(iO 27 (.mv (.t 0))),
        (iO 28 (.mv (.t 7))),
        (iC 29 8 [((.t 27), none), ((.t 28), none)])])
      (.seq (.region [(iO 4 (.mv (nI 0))),
        (iO 5 (.mv (nI 0))),
        (iO 6 (.mv (nI 6)))])
      .ret))
    .skip)))))
  (.seq (.region [(iO 30 (.mv (.t 8))),
    (iO 31 (.bin .quo (.t 30) (nI 10))),
    (iO 32 (.mv (.t 8))),
    (iO 33 (.bin .rem (.t 32) (nI 10))),
    (iO 4 (.mv (.t 31))),
    (iO 5 (.mv (.t 33))),
    (iO 6 (.mv (nI 0)))])
  .ret)))))
noncomputable def z58f : FDef := ⟨2, 34, [.tmp 4 none, .tmp 5 none, .tmp 6 none], z58b⟩
noncomputable def z58p : XPat := ⟨.normal, [(.ptr 0 []), (.tv .bool)], [(.box (.tv YReader))]⟩
noncomputable def z58x : List XPat := [⟨.ret, [(.tup (.cons (.tv (.int .i64)) (.cons (.tv (.int .i64)) (.cons (.tv (.int .i64)) .nil))))], [(.box (.tv YReader))]⟩]
noncomputable def z58t (k : Nat) (d : z58p.D) : Option (XD z58x) := mcbpc_Take k d.1.2 d.2
noncomputable def z58_e (k : Nat) : UEntry := mkU z58p z58x (z58t k) nilU
theorem z58_n (k : Nat) : UNat (z58_e k) := mkU_nat nilU_nat
theorem z58_fu (k : Nat) : FU P GL 51 (z58_e k) :=
  fn_typed (uorc := uorT (z58U0 k)) hmo (T57_ok k).oo (z58U0_k k) (fd := z58f) (AllU.no (by kernel_rfl)) (fn := Tryd.f51) (by kernel_rfl) (by kernel_rfl) (fun d => by kernel_rfl) FU_nil
noncomputable def T58 (k : Nat) : List (Nat × Ent) := (51, ⟨z58_e k⟩) :: T57 k
theorem T58_ok (k : Nat) : TabOK P GL (T58 k) := (T57_ok k).cons (z58_fu k) (z58_n k)
/-! ### (*overspill.cellin.reader).head -/
noncomputable def z59U0 (_ : Nat) : List (Nat × Ent) := []
theorem z59U0_k (k : Nat) : UTab (z59U0 k) := UTab.nil
noncomputable def z59u0d : UDef := ⟨[(0, none), (1, none)], [16, 17, 18, 19, 20, 21], [(.normal, [(21, none)])], []⟩
noncomputable def z59u0p : XPat := ⟨.normal, [(.ptr 0 []), (.tv .bool)], [(.box (.cons (.ptr 1 []) (.cons (.tv (.int .i64)) .nil))), (.box (.tv YReader))]⟩
noncomputable def z59u0x : List XPat := [⟨.normal, [(.tv .bool)], [(.box (.cons (.ptr 1 []) (.cons (.tv (.int .i64)) .nil))), (.box (.tv YReader))]⟩]
noncomputable def cellin_reader_headu0 (k : Nat) (x0 : Bool) (x1 : Int) (x2 : DReader) : Option ((Bool) × (((Unit) × ((Int) × (Unit))) × (DReader))) :=
  bif x0 then
    Option.bind (cellin_reader_bit k x1 x2) fun (v156 : (Int) × (((Unit) × ((Int) × (Unit))) × (DReader))) =>
    some ((decide (v156.1 = 1)), (((), (v156.2.1.2.1, ())), v156.2.2))
  else
  some (false, (((), (x1, ())), x2))
noncomputable def z59u0b : AC :=
  (.region [(iO 16 (.mv (.t 1))),
    (iO 17 (.mv (.t 16))),
    ⟨some 18, some (1, 17, true), (.op (.mv (.t 0))), []⟩,
    ⟨some 19, some (1, 17, true), (.call (.c (.fn 50 .nil .nil)) [((.t 18), none)]), []⟩,
    ⟨some 20, some (1, 17, true), (.op (.bin .eql (.t 19) (nI 1))), []⟩,
    (iO 21 (.pick (.t 17) (.t 20) (.c (.tv .bool (false : Bool)))))])
noncomputable def z59u0t (k : Nat) (d : z59u0p.D) : Option (XD z59u0x) := cellin_reader_headu0 k d.1.2 d.2.1.2.1 d.2.2
theorem z59u0_k (k : Nat) : UOK P GL (mkU z59u0p z59u0x (z59u0t k) nilU) z59u0d false z59u0b :=
  unit_typed (ud := z59u0d) (body := z59u0b) (uorc := uorT (z59U0 k)) hmo (T58_ok k).oo (z59U0_k k) (AllU.no (by kernel_rfl)) (fun d => by kernel_rfl)
noncomputable def z59U1 (k : Nat) : List (Nat × Ent) := (0, ⟨mkU z59u0p z59u0x (z59u0t k) nilU⟩) :: z59U0 k
theorem z59U1_k (k : Nat) : UTab (z59U1 k) := (z59U0_k k).cons (mkU_nat nilU_nat)
noncomputable def z59u1d : UDef := ⟨[(0, none), (1, none), (2, none)], [6, 7, 8, 9, 10, 11, 12, 13, 14, 15, 16, 17, 18, 19, 20, 21, 22, 23, 24, 25, 26, 27, 28, 29, 30, 31, 32, 33, 34, 35, 36, 37, 38, 39, 40, 41, 42, 43, 44, 45, 46, 47, 48, 49, 50, 51, 52, 53, 54, 55, 56, 57, 58, 59, 60, 61, 62, 63, 64, 65, 66, 67], [(.ret, [(6, none), (7, none)]), ((.exit 0), [])], []⟩
noncomputable def z59u1p : XPat := ⟨.normal, [(.ptr 0 []), (.tv .bool), (.ptr 2 [])], [(.box (.cons (.ptr 1 []) (.cons (.tv (.int .i64)) .nil))), (.box (.tv YReader)), (.box (.tv YCell))]⟩
noncomputable def z59u1x : List XPat := [⟨.ret, [(.tv (.int .i64)), (.tv .bool)], [(.box (.cons (.ptr 1 []) (.cons (.tv (.int .i64)) .nil))), (.box (.tv YReader)), (.box (.tv YCell))]⟩, ⟨(.exit 0), [], [(.box (.cons (.ptr 1 []) (.cons (.tv (.int .i64)) .nil))), (.box (.tv YReader)), (.box (.tv YCell))]⟩]
noncomputable def cellin_reader_headu1 (k : Nat) : Nat → (Bool) → (Int) → (DReader) → (DCell) → Option ((((Int) × (Bool)) × (((Unit) × ((Int) × (Unit))) × ((DReader) × (DCell)))) ⊕ ((Unit) × (((Unit) × ((Int) × (Unit))) × ((DReader) × (DCell)))))
  | 0, _, _, _, _ => none
  | n + 1, x0, x1, x2, x3 =>
    bif (decide (x1 = 0)) then
      Option.bind (cellin_reader_headu0 k x0 x1 x2) fun (v219 : (Bool) × (((Unit) × ((Int) × (Unit))) × (DReader))) =>
      bif v219.1 then
        some (Sum.inl ((0, false), (((), (v219.2.1.2.1, ())), (v219.2.2, (x3.1, (true, x3.2.2))))))
      else
      bif (!(decide (v219.2.1.2.1 = 0))) then
        some (Sum.inr ((), (((), (v219.2.1.2.1, ())), (v219.2.2, x3))))
      else
      Option.bind (mcbpc_Take k x0 v219.2.2) fun (v220 : ((Int) × ((Int) × ((Int) × (Unit)))) × (DReader)) =>
      bif (!(decide (v220.1.2.2.1 = 0))) then
        some (Sum.inr ((), (((), (v220.1.2.2.1, ())), (v220.2, x3))))
      else
      bif (!(decide (v220.1.1 = 5))) then
        some (Sum.inl ((v220.1.2.1, true), (((), (v219.2.1.2.1, ())), (v220.2, (x3.1, (x3.2.1, (v220.1.1, x3.2.2.2)))))))
      else
      bif (decide (x3.1 = 64)) then
        some (Sum.inr ((), (((), (13, ())), (v220.2, x3))))
      else
      Option.bind (cellin_reader_headu1 k n x0 v219.2.1.2.1 v220.2 ((wr .i64 (x3.1 + 1)), x3.2)) fun r => Sum.elim (fun w => some (Sum.inl w)) (fun w => some (Sum.inr w)) r
    else
    some (Sum.inr ((), (((), (x1, ())), (x2, x3))))
noncomputable def z59u1b : AC :=
  (.seq (.seq (.region [(iO 11 (.mv (.t 0))),
    (iO 12 (.nilc (.t 11))),
    (iO 13 (.fad 1 1 (.t 12))),
    (iO 14 (.load false 1 (.t 13))),
    (iO 15 (.bin .eql (.t 14) (nI 0)))])
  (.cond (.t 15)
  .skip
  (.exit 0)))
  (.block 1 (.seq (.seq (.unit 0 z59u0d false z59u0b)
  (.cond (.t 21)
  (.seq (.region [(iO 22 (.mv (.t 2))),
      (iO 23 (.nilc (.t 22))),
      (iO 24 (.fad 1 1 (.t 23))),
      (iS (.store 1 none (.t 24) (.c (.tv .bool (true : Bool)))))])
    (.seq (.region [(iO 6 (.mv (nI 0))),
      (iO 7 (.mv (.c (.tv .bool (false : Bool)))))])
    .ret))
  .skip))
  (.seq (.seq (.region [(iO 25 (.mv (.t 0))),
    (iO 26 (.nilc (.t 25))),
    (iO 27 (.fad 1 1 (.t 26))),
    (iO 28 (.load false 1 (.t 27))),
    (iO 29 (.bin .neq (.t 28) (nI 0)))])
  (.cond (.t 29)
  (.exit 0)
  .skip))
  (.seq (.region [(iO 31 (.mv (.t 0))),
    (iO 32 (.nilc (.t 31))),
    (iO 33 (.fad 0 0 (.t 32))),
    (iO 34 (.load false 1 (.t 33))),
    (iO 35 (.mv (.t 1))),
    (iC 36 51 [((.t 34), none), ((.t 35), none)]),
    (iO 30 (.mv (.t 36))),
    (iO 37 (.ext (.t 30) 0)),
    (iO 38 (.ext (.t 30) 1)),
    (iO 39 (.ext (.t 30) 2)),
    (iO 8 (.mv (.t 37))),
    (iO 9 (.mv (.t 38))),
    (iO 10 (.mv (.t 39)))])
  (.seq (.seq (.region [(iO 40 (.mv (.t 10))),
    (iO 41 (.bin .neq (.t 40) (nI 0)))])
  (.cond (.t 41)
  (.seq (.region [(iO 42 (.mv (.t 0))),
      (iO 43 (.mv (.t 10))),
      (iO 44 (.nilc (.t 42))),
      (iO 45 (.fad 1 1 (.t 44))),
      (iS (.store 1 none (.t 45) (.t 43)))])
    (.exit 0))
  .skip))
  (.seq (.seq (.region [(iO 46 (.mv (.t 8))),
    (iO 47 (.bin .neq (.t 46) (nI 5)))])
  (.cond (.t 47)
  (.seq (.region [(iO 48 (.mv (.t 2))),
      (iO 49 (.mv (.t 8))),
      (iO 50 (.nilc (.t 48))),
      (iO 51 (.fad 2 2 (.t 50))),
      (iS (.store 1 none (.t 51) (.t 49)))])
    (.seq (.region [(iO 52 (.mv (.t 9))),
      (iO 6 (.mv (.t 52))),
      (iO 7 (.mv (.c (.tv .bool (true : Bool)))))])
    .ret))
  .skip))
  (.seq (.seq (.region [(iO 53 (.mv (.t 2))),
    (iO 54 (.nilc (.t 53))),
    (iO 55 (.fad 0 0 (.t 54))),
    (iO 56 (.load false 1 (.t 55))),
    (iO 57 (.bin .eql (.t 56) (nI 64)))])
  (.cond (.t 57)
  (.seq (.region [(iO 58 (.mv (.t 0))),
      (iO 59 (.nilc (.t 58))),
      (iO 60 (.fad 1 1 (.t 59))),
      (iS (.store 1 none (.t 60) (nI 13)))])
    (.exit 0))
  .skip))
  (.region [(iO 61 (.mv (.t 2))),
    (iO 62 (.nilc (.t 61))),
    (iO 63 (.fad 0 0 (.t 62))),
    (iO 64 (.load false 1 (.t 63))),
    (iO 65 (.bin .add (.t 64) (nI 1))),
    (iO 66 (.nilc (.t 61))),
    (iO 67 (.fad 0 0 (.t 66))),
    (iS (.store 1 none (.t 67) (.t 65)))])))))))))
noncomputable def z59u1t (k n : Nat) (d : z59u1p.D) : Option (XD z59u1x) := cellin_reader_headu1 k n d.1.2.1 d.2.1.2.1 d.2.2.1 d.2.2.2
theorem z59u1_k (k : Nat) : UOK P GL (mkU z59u1p z59u1x (z59u1t k k) nilU) z59u1d true z59u1b :=
  loop_typed (ud := z59u1d) (body := z59u1b) (uorc := uorT (z59U1 k)) hmo (T58_ok k).oo (z59U1_k k) (AllU.seq (AllU.no (by kernel_rfl)) (AllU.block (AllU.seq (AllU.seq (AllU.unit (uorc := uorT (z59U1 k)) (u := 0) (z59u0_k k)) (AllU.no (by kernel_rfl))) (AllU.no (by kernel_rfl))))) (t := z59u1t k) (fun d => by kernel_rfl) (fun n d => by kernel_rfl) k
noncomputable def z59U2 (k : Nat) : List (Nat × Ent) := (1, ⟨mkU z59u1p z59u1x (z59u1t k k) nilU⟩) :: z59U1 k
theorem z59U2_k (k : Nat) : UTab (z59U2 k) := (z59U1_k k).cons (mkU_nat nilU_nat)
noncomputable def cellin_reader_head (k : Nat) (x0 : Bool) (x1 : Int) (x2 : DReader) (x3 : DCell) : Option (((Int) × ((Bool) × (Unit))) × (((Unit) × ((Int) × (Unit))) × ((DReader) × (DCell)))) :=
  Option.bind (cellin_reader_headu1 k k x0 x1 x2 x3) fun r =>
  Sum.elim (fun (v221 : ((Int) × (Bool)) × (((Unit) × ((Int) × (Unit))) × ((DReader) × (DCell)))) =>
    some ((v221.1.1, (v221.1.2, ())), (((), (v221.2.1.2.1, ())), (v221.2.2.1, v221.2.2.2))))
    (fun (v222 : (Unit) × (((Unit) × ((Int) × (Unit))) × ((DReader) × (DCell)))) =>
    some ((0, (false, ())), (((), (v222.2.1.2.1, ())), (v222.2.2.1, v222.2.2.2)))) r
noncomputable def z59b : AC :=
  (.seq (.region [(iO 6 (.mv (nI 0))),
    (iO 7 (.mv (.c (.tv .bool (false : Bool)))))])
  (.seq (.block 0 (.unit 1 z59u1d true z59u1b))
  (.seq (.region [(iO 6 (.mv (nI 0))),
    (iO 7 (.mv (.c (.tv .bool (false : Bool)))))])
  .ret)))
noncomputable def z59f : FDef := ⟨3, 68, [.tmp 6 none, .tmp 7 none], z59b⟩
noncomputable def z59p : XPat := ⟨.normal, [(.ptr 0 []), (.tv .bool), (.ptr 2 [])], [(.box (.cons (.ptr 1 []) (.cons (.tv (.int .i64)) .nil))), (.box (.tv YReader)), (.box (.tv YCell))]⟩
noncomputable def z59x : List XPat := [⟨.ret, [(.tup (.cons (.tv (.int .i64)) (.cons (.tv .bool) .nil)))], [(.box (.cons (.ptr 1 []) (.cons (.tv (.int .i64)) .nil))), (.box (.tv YReader)), (.box (.tv YCell))]⟩]
noncomputable def z59t (k : Nat) (d : z59p.D) : Option (XD z59x) := cellin_reader_head k d.1.2.1 d.2.1.2.1 d.2.2.1 d.2.2.2
noncomputable def z59_e (k : Nat) : UEntry := mkU z59p z59x (z59t k) nilU
theorem z59_n (k : Nat) : UNat (z59_e k) := mkU_nat nilU_nat
theorem z59_fu (k : Nat) : FU P GL 24 (z59_e k) :=
  fn_typed (uorc := uorT (z59U2 k)) hmo (T58_ok k).oo (z59U2_k k) (fd := z59f) (AllU.seq (AllU.no (by kernel_rfl)) (AllU.seq (AllU.block (AllU.unit (uorc := uorT (z59U2 k)) (u := 1) (z59u1_k k))) (AllU.no (by kernel_rfl)))) (fn := Tryd.f24) (by kernel_rfl) (by kernel_rfl) (fun d => by kernel_rfl) FU_nil
noncomputable def T59 (k : Nat) : List (Nat × Ent) := (24, ⟨z59_e k⟩) :: T58 k
theorem T59_ok (k : Nat) : TabOK P GL (T59 k) := (T58_ok k).cons (z59_fu k) (z59_n k)
/-! ### overspill.cellin.intra -/
noncomputable def z60U0 (_ : Nat) : List (Nat × Ent) := []
theorem z60U0_k (k : Nat) : UTab (z60U0 k) := UTab.nil
noncomputable def cellin_intra (k : Nat) (x0 : Int) : Option (Bool) :=
  bif (decide (x0 = 3)) then
    some true
  else
  some (decide (x0 = 4))
noncomputable def z60b : AC :=
  (.seq (.region [(iO 2 (.mv (.c (.tv .bool (false : Bool)))))])
  (.seq (.region [(iO 3 (.mv (.t 0))),
    (iO 4 (.bin .eql (.t 3) (nI 3))),
    (iO 5 (.mv (.t 4))),
    ⟨some 6, some (2, 5, false), (.op (.mv (.t 0))), []⟩,
    ⟨some 7, some (2, 5, false), (.op (.bin .eql (.t 6) (nI 4))), []⟩,
    (iO 8 (.pick (.t 5) (.c (.tv .bool (true : Bool))) (.t 7))),
    (iO 2 (.mv (.t 8)))])
  .ret))
noncomputable def z60f : FDef := ⟨1, 9, [.tmp 2 none], z60b⟩
noncomputable def z60p : XPat := ⟨.normal, [(.tv (.int .i64))], []⟩
noncomputable def z60x : List XPat := [⟨.ret, [(.tv .bool)], []⟩]
noncomputable def z60t (k : Nat) (d : z60p.D) : Option (XD z60x) := cellin_intra k d
noncomputable def z60_e (k : Nat) : UEntry := mkU z60p z60x (z60t k) nilU
theorem z60_n (k : Nat) : UNat (z60_e k) := mkU_nat nilU_nat
theorem z60_fu (k : Nat) : FU P GL 53 (z60_e k) :=
  fn_typed (uorc := uorT (z60U0 k)) hmo (T59_ok k).oo (z60U0_k k) (fd := z60f) (AllU.no (by kernel_rfl)) (fn := Tryd.f53) (by kernel_rfl) (by kernel_rfl) (fun d => by kernel_rfl) FU_nil
noncomputable def T60 (k : Nat) : List (Nat × Ent) := (53, ⟨z60_e k⟩) :: T59 k
theorem T60_ok (k : Nat) : TabOK P GL (T60 k) := (T59_ok k).cons (z60_fu k) (z60_n k)
/-! ### overspill.cbpy.Take -/
noncomputable def z61U0 (_ : Nat) : List (Nat × Ent) := []
theorem z61U0_k (k : Nat) : UTab (z61U0 k) := UTab.nil
noncomputable def z61u0d : UDef := ⟨[(1, none), (6, none), (12, none), (13, none)], [6, 7, 8, 13, 14, 15, 16, 17, 18, 19, 20, 21, 22, 23, 24, 25], [((.exit 0), [(6, none)])], []⟩
noncomputable def z61u0p : XPat := ⟨.normal, [(.tv .bool), (.row 0), (.tv (.arr 16 .str)), (.tv (.int .i64))], [(.row YReader false)]⟩
noncomputable def z61u0x : List XPat := [⟨(.exit 0), [(.row 0)], [(.row YReader false)]⟩]
noncomputable def cbpy_Takeu0 (k : Nat) : Nat → (Bool) → (List (List UInt8)) → (Int) → (List (DReader)) → Option ((Unit) × (List (DReader)))
  | 0, _, _, _, _ => none
  | n + 1, x0, x1, x2, x3 =>
    bif (decide (x2 < 16)) then
      bif (inR x2 16) then
        Option.bind (cbpy_turned k x0 x2) fun (v227 : Int) =>
        bif (decide ((List.length x3) + 1 ≤ rowMax)) then
          Option.bind (cbpy_Takeu0 k n x0 x1 (wr .i64 (x2 + 1)) (x3 ++ ([((List.getD x1 (Int.toNat x2) ([] : List UInt8)), (v227, ()))] : List (DReader)))) fun r => some r
        else
          none
      else
        none
    else
    some ((), x3)
noncomputable def z61u0b : AC :=
  (.seq (.region [(iO 14 (.bin .lss (.t 13) (nI 16)))])
  (.seq (.cond (.t 14)
  .skip
  (.exit 0))
  (.seq (.block 1 (.seq (.region [(iO 15 (.mv (.t 13))),
    (iO 16 (.ix 16 1 false (.t 12) (.t 13))),
    (iO 7 (.mv (.t 15))),
    (iO 8 (.mv (.t 16)))])
  (.region [(iO 17 (.mv (.t 6))),
    (iO 18 (.mv (.t 8))),
    (iO 19 (.mv (.t 1))),
    (iO 20 (.mv (.t 7))),
    (iC 21 66 [((.t 19), none), ((.t 20), none)]),
    (iO 22 (.build 122 (.tv YReader) [(0, (.fld 0 0), 1, (.t 18)), (1, (.fld 1 1), 1, (.t 21))])),
    (iO 23 (.bslice YReader [(.t 22)])),
    (iO 24 (.app YReader (.t 17) (.t 23))),
    (iO 6 (.mv (.t 24)))])))
  (.region [(iO 25 (.bin .add (.t 13) (nI 1))),
    (iO 13 (.mv (.t 25)))]))))
noncomputable def z61u0t (k n : Nat) (d : z61u0p.D) : Option (XD z61u0x) := cbpy_Takeu0 k n d.1.1 d.1.2.2.1 d.1.2.2.2 d.2
theorem z61u0_k (k : Nat) : UOK P GL (mkU z61u0p z61u0x (z61u0t k k) nilU) z61u0d true z61u0b :=
  loop_typed (ud := z61u0d) (body := z61u0b) (uorc := uorT (z61U0 k)) hmo (T60_ok k).oo (z61U0_k k) (AllU.no (by kernel_rfl)) (t := z61u0t k) (fun d => by kernel_rfl) (fun n d => by kernel_rfl) k
noncomputable def z61U1 (k : Nat) : List (Nat × Ent) := (0, ⟨mkU z61u0p z61u0x (z61u0t k k) nilU⟩) :: z61U0 k
theorem z61U1_k (k : Nat) : UTab (z61U1 k) := (z61U0_k k).cons (mkU_nat nilU_nat)
noncomputable def cbpy_Take (k : Nat) (x0 : Bool) (x1 : DReader) : Option (((Int) × ((Int) × (Unit))) × (DReader)) :=
  Option.bind (cbpy_rows k) fun (v225 : List (List UInt8)) =>
  Option.bind (cbpy_Takeu0 k k x0 v225 0 ([] : List (DReader))) fun (v228 : (Unit) × (List (DReader))) =>
  Option.bind (prefix_Make_int k v228.2) fun r =>
  Sum.elim (fun (v229 : (Unit) × ((Int) × (Unit))) =>
    Option.bind (prefix_Table_Take_int k x1) fun (v230 : ((Int) × ((Int) × (Unit))) × (DReader)) =>
    some ((v230.1.1, (v230.1.2.1, ())), v230.2))
    (fun (v231 : ((Unit) × ((Int) × (Unit))) × (((Unit) × ((Unit) × ((Unit) × ((Unit) × ((Int) × (Unit)))))) × ((List ((List UInt8) × Int)) × ((List ((Int) × Int)) × ((List ((List UInt8) × Int)) × (List (DReader))))))) =>
    Option.bind (prefix_Table_Take_int_2 k v231.2.1.2.2.2.2.1 v231.2.2.1 v231.2.2.2.1 v231.2.2.2.2.1 x1 v231.2.2.2.2.2) fun (v232 : ((Int) × ((Int) × (Unit))) × (((Unit) × ((Unit) × ((Unit) × ((Unit) × ((Int) × (Unit)))))) × ((List ((List UInt8) × Int)) × ((List ((Int) × Int)) × ((List ((List UInt8) × Int)) × ((DReader) × (List (DReader)))))))) =>
    some ((v232.1.1, (v232.1.2.1, ())), v232.2.2.2.2.2.1)) r
noncomputable def z61b : AC :=
  (.seq (.region [(iO 4 (.mv (nI 0))),
    (iO 5 (.mv (nI 0)))])
  (.seq (.region [(iO 11 (.mkslice YReader (nI 0) (nI 16))),
    (iO 6 (.mv (.t 11)))])
  (.seq (.seq (.region [(iC 12 65 []),
    (iO 13 (.mv (nI 0)))])
  (.block 0 (.unit 0 z61u0d true z61u0b)))
  (.seq (.region [(iO 27 (.mv (.t 6))),
    (iC 28 75 [((.t 27), some (.sl YReader))]),
    (iO 26 (.mv (.t 28))),
    (iO 29 (.ext (.t 26) 0)),
    (iO 30 (.ext (.t 26) 1)),
    (iO 9 (.mv (.t 29))),
    (iO 10 (.mv (.t 30)))])
  (.seq (.region [(iO 31 (.mv (.t 9))),
    (iO 32 (.mv (.t 0))),
    (iC 33 74 [((.t 31), none), ((.t 32), none)]),
    (iO 34 (.ext (.t 33) 0)),
    (iO 35 (.ext (.t 33) 1)),
    (iO 4 (.mv (.t 34))),
    (iO 5 (.mv (.t 35)))])
  .ret)))))
noncomputable def z61f : FDef := ⟨2, 36, [.tmp 4 none, .tmp 5 none], z61b⟩
noncomputable def z61p : XPat := ⟨.normal, [(.ptr 0 []), (.tv .bool)], [(.box (.tv YReader))]⟩
noncomputable def z61x : List XPat := [⟨.ret, [(.tup (.cons (.tv (.int .i64)) (.cons (.tv (.int .i64)) .nil)))], [(.box (.tv YReader))]⟩]
noncomputable def z61t (k : Nat) (d : z61p.D) : Option (XD z61x) := cbpy_Take k d.1.2 d.2
noncomputable def z61_e (k : Nat) : UEntry := mkU z61p z61x (z61t k) nilU
theorem z61_n (k : Nat) : UNat (z61_e k) := mkU_nat nilU_nat
theorem z61_fu (k : Nat) : FU P GL 52 (z61_e k) :=
  fn_typed (uorc := uorT (z61U1 k)) hmo (T60_ok k).oo (z61U1_k k) (fd := z61f) (AllU.seq (AllU.no (by kernel_rfl)) (AllU.seq (AllU.no (by kernel_rfl)) (AllU.seq (AllU.seq (AllU.no (by kernel_rfl)) (AllU.block (AllU.unit (uorc := uorT (z61U1 k)) (u := 0) (z61u0_k k)))) (AllU.no (by kernel_rfl))))) (fn := Tryd.f52) (by kernel_rfl) (by kernel_rfl) (fun d => by kernel_rfl) FU_nil
noncomputable def T61 (k : Nat) : List (Nat × Ent) := (52, ⟨z61_e k⟩) :: T60 k
theorem T61_ok (k : Nat) : TabOK P GL (T61 k) := (T60_ok k).cons (z61_fu k) (z61_n k)
/-! ### overspill.steps.Take -/
noncomputable def z62U0 (_ : Nat) : List (Nat × Ent) := []
theorem z62U0_k (k : Nat) : UTab (z62U0 k) := UTab.nil
noncomputable def steps_Take (k : Nat) (x0 : DReader) : Option (((Int) × ((Int) × (Unit))) × (DReader)) :=
  Option.bind (inbits_Reader_Take k 2 x0) fun (v235 : ((Int) × ((Int) × (Unit))) × (DReader)) =>
  bif (!(decide (v235.1.2.1 = 0))) then
    some ((0, (v235.1.2.1, ())), v235.2)
  else
  bif (decide ((2 : Int) ≤ v235.1.1)) then
    some (((wr .i64 (v235.1.1 - 1)), (0, ())), v235.2)
  else
  some (((wr .i64 ((-1) - v235.1.1)), (0, ())), v235.2)
noncomputable def z62b : AC :=
  (.seq (.region [(iO 2 (.mv (nI 0))),
    (iO 3 (.mv (nI 0)))])
  (.seq (.region [(iO 7 (.mv (.t 0))),
    (iC 8 72 [((.t 7), none), ((nI 2), none)]),
    (iO 6 (.mv (.t 8))),
    (iO 9 (.ext (.t 6) 0)),
    (iO 10 (.ext (.t 6) 1)),
    (iO 4 (.mv (.t 9))),
    (iO 5 (.mv (.t 10)))])
  (.seq (.block 0 (.seq (.region [(iO 12 (.mv (.t 5))),
    (iO 13 (.bin .neq (.t 12) (nI 0))),
    (iO 11 (.mv (.t 13)))])
  (.cond (.t 11)
  (.seq (.region [(iO 14 (.mv (.t 5))),
      (iO 2 (.mv (nI 0))),
      (iO 3 (.mv (.t 14)))])
    .ret)
  (.seq (.region [(iO 16 (.mv (.t 4))),
      (iO 17 (.bin .geq (.t 16) (nI 2))),
      (iO 15 (.mv (.t 17)))])
    (.cond (.t 15)
    (.seq (.region [(iO 18 (.mv (.t 4))),
        (iO 19 (.bin .sub (.t 18) (nI 1))),
        (iO 2 (.mv (.t 19))),
        (iO 3 (.mv (nI 0)))])
      .ret)
    .skip)))))
  (.seq (.region [(iO 20 (.mv (.t 4))),
    (iO 21 (.bin .sub (nI (-1)) (.t 20))),
    (iO 2 (.mv (.t 21))),
    (iO 3 (.mv (nI 0)))])
  .ret))))
noncomputable def z62f : FDef := ⟨1, 22, [.tmp 2 none, .tmp 3 none], z62b⟩
noncomputable def z62p : XPat := ⟨.normal, [(.ptr 0 [])], [(.box (.tv YReader))]⟩
noncomputable def z62x : List XPat := [⟨.ret, [(.tup (.cons (.tv (.int .i64)) (.cons (.tv (.int .i64)) .nil)))], [(.box (.tv YReader))]⟩]
noncomputable def z62t (k : Nat) (d : z62p.D) : Option (XD z62x) := steps_Take k d.2
noncomputable def z62_e (k : Nat) : UEntry := mkU z62p z62x (z62t k) nilU
theorem z62_n (k : Nat) : UNat (z62_e k) := mkU_nat nilU_nat
theorem z62_fu (k : Nat) : FU P GL 54 (z62_e k) :=
  fn_typed (uorc := uorT (z62U0 k)) hmo (T61_ok k).oo (z62U0_k k) (fd := z62f) (AllU.no (by kernel_rfl)) (fn := Tryd.f54) (by kernel_rfl) (by kernel_rfl) (fun d => by kernel_rfl) FU_nil
noncomputable def T62 (k : Nat) : List (Nat × Ent) := (54, ⟨z62_e k⟩) :: T61 k
theorem T62_ok (k : Nat) : TabOK P GL (T62 k) := (T61_ok k).cons (z62_fu k) (z62_n k)
/-! ### overspill.mvd.found -/
noncomputable def z63U0 (_ : Nat) : List (Nat × Ent) := []
theorem z63U0_k (k : Nat) : UTab (z63U0 k) := UTab.nil
noncomputable def z63u0d : UDef := ⟨[(0, none), (1, none), (7, none), (8, none)], [14, 15, 16, 17, 18, 19, 20, 21, 22, 23, 24], [(.normal, [(14, none)])], []⟩
noncomputable def z63u0p : XPat := ⟨.normal, [(.tv (.int .i64)), (.tv (.int .i64)), (.tv (.int .i64)), (.tv (.int .i64))], []⟩
noncomputable def z63u0x : List XPat := [⟨.normal, [(.tv .bool)], []⟩]
noncomputable def mvd_foundu0 (k : Nat) (x0 : Int) (x1 : Int) (x2 : Int) (x3 : Int) : Option (Bool) :=
  bif (decide (x3 = x1)) then
    bif (inR x2 33) then
      some (decide ((List.getD tbl0 (Int.toNat x2) 0) = x0))
    else
      none
  else
  some false
noncomputable def z63u0b : AC :=
  (.region [(iO 15 (.mv (.t 8))),
    (iO 16 (.mv (.t 1))),
    (iO 17 (.bin .eql (.t 15) (.t 16))),
    (iO 18 (.mv (.t 17))),
    ⟨some 19, some (3, 18, true), (.op (.mv (.t 7))), []⟩,
    ⟨some 20, some (3, 18, true), (.op (.iad 33 1 (.g 0) (.t 19))), []⟩,
    ⟨some 21, some (3, 18, true), (.op (.load false 1 (.t 20))), []⟩,
    ⟨some 22, some (3, 18, true), (.op (.mv (.t 0))), []⟩,
    ⟨some 23, some (3, 18, true), (.op (.bin .eql (.t 21) (.t 22))), []⟩,
    (iO 24 (.pick (.t 18) (.t 23) (.c (.tv .bool (false : Bool))))),
    (iO 14 (.mv (.t 24)))])
noncomputable def z63u0t (k : Nat) (d : z63u0p.D) : Option (XD z63u0x) := mvd_foundu0 k d.1 d.2.1 d.2.2.1 d.2.2.2
theorem z63u0_k (k : Nat) : UOK P GL (mkU z63u0p z63u0x (z63u0t k) nilU) z63u0d false z63u0b :=
  unit_typed (ud := z63u0d) (body := z63u0b) (uorc := uorT (z63U0 k)) hmo (T62_ok k).oo (z63U0_k k) (AllU.no (by kernel_rfl)) (fun d => by kernel_rfl)
noncomputable def z63U1 (k : Nat) : List (Nat × Ent) := (0, ⟨mkU z63u0p z63u0x (z63u0t k) nilU⟩) :: z63U0 k
theorem z63U1_k (k : Nat) : UTab (z63U1 k) := (z63U0_k k).cons (mkU_nat nilU_nat)
noncomputable def z63u1d : UDef := ⟨[(0, none), (1, none), (6, none), (9, none)], [4, 5, 6, 7, 8, 9, 10, 11, 12, 13, 14, 15, 16, 17, 18, 19, 20, 21, 22, 23, 24, 25, 26, 27, 28, 29, 30, 31, 32, 33, 34, 35, 36, 37, 38, 39, 40, 41, 42], [(.ret, [(4, none), (5, none), (6, none)]), ((.exit 0), [(6, none)])], []⟩
noncomputable def z63u1p : XPat := ⟨.normal, [(.tv (.int .i64)), (.tv (.int .i64)), (.tv .bool), (.tv (.int .i64))], []⟩
noncomputable def z63u1x : List XPat := [⟨.ret, [(.tv (.int .i64)), (.tv .bool), (.tv .bool)], []⟩, ⟨(.exit 0), [(.tv .bool)], []⟩]
noncomputable def mvd_foundu1 (k : Nat) : Nat → (Int) → (Int) → (Bool) → (Int) → Option (((Int) × ((Bool) × (Bool))) ⊕ (Bool))
  | 0, _, _, _, _ => none
  | n + 1, x0, x1, x2, x3 =>
    bif (decide (x3 < 33)) then
      Option.bind (mvd_length k x3) fun (v246 : Int) =>
      Option.bind (mvd_foundu0 k x0 x1 x3 v246) fun (v247 : Bool) =>
      bif v247 then
        some (Sum.inl (x3, (true, true)))
      else
      bif (decide (x1 < v246)) then
        bif (inR x3 33) then
          bif (decide ((wr .u64 (wr .i64 (v246 - x1))) < 0)) then
            none
          else
          bif (decide ((shrI .i64 (List.getD tbl0 (Int.toNat x3) 0) (wr .u64 (wr .i64 (v246 - x1)))) = x0)) then
            Option.bind (mvd_foundu1 k n x0 x1 true (wr .i64 (x3 + 1))) fun r => Sum.elim (fun w => some (Sum.inl w)) (fun w => some (Sum.inr w)) r
          else
          Option.bind (mvd_foundu1 k n x0 x1 x2 (wr .i64 (x3 + 1))) fun r => Sum.elim (fun w => some (Sum.inl w)) (fun w => some (Sum.inr w)) r
        else
          none
      else
      Option.bind (mvd_foundu1 k n x0 x1 x2 (wr .i64 (x3 + 1))) fun r => Sum.elim (fun w => some (Sum.inl w)) (fun w => some (Sum.inr w)) r
    else
    some (Sum.inr x2)
noncomputable def z63u1b : AC :=
  (.seq (.region [(iO 10 (.bin .lss (.t 9) (nI 33)))])
  (.seq (.cond (.t 10)
  .skip
  (.exit 0))
  (.seq (.block 1 (.seq (.region [(iO 11 (.mv (.t 9))),
    (iO 7 (.mv (.t 11)))])
  (.seq (.region [(iO 12 (.mv (.t 7))),
    (iC 13 68 [((.t 12), none)]),
    (iO 8 (.mv (.t 13)))])
  (.block 2 (.seq (.unit 0 z63u0d false z63u0b)
  (.cond (.t 14)
  (.seq (.region [(iO 25 (.mv (.t 7))),
      (iO 4 (.mv (.t 25))),
      (iO 5 (.mv (.c (.tv .bool (true : Bool))))),
      (iO 6 (.mv (.c (.tv .bool (true : Bool)))))])
    .ret)
  (.seq (.region [(iO 27 (.mv (.t 8))),
      (iO 28 (.mv (.t 1))),
      (iO 29 (.bin .gtr (.t 27) (.t 28))),
      (iO 30 (.mv (.t 29))),
      ⟨some 31, some (3, 30, true), (.op (.mv (.t 7))), []⟩,
      ⟨some 32, some (3, 30, true), (.op (.iad 33 1 (.g 0) (.t 31))), []⟩,
      ⟨some 33, some (3, 30, true), (.op (.load false 1 (.t 32))), []⟩,
      ⟨some 34, some (3, 30, true), (.op (.mv (.t 8))), []⟩,
      ⟨some 35, some (3, 30, true), (.op (.mv (.t 1))), []⟩,
      ⟨some 36, some (3, 30, true), (.op (.bin .sub (.t 34) (.t 35))), []⟩,
      ⟨some 37, some (3, 30, true), (.op (.conv .u64 (.t 36))), []⟩,
      ⟨some 38, some (3, 30, true), (.op (.bin .shr (.t 33) (.t 37))), []⟩,
      ⟨some 39, some (3, 30, true), (.op (.mv (.t 0))), []⟩,
      ⟨some 40, some (3, 30, true), (.op (.bin .eql (.t 38) (.t 39))), []⟩,
      (iO 41 (.pick (.t 30) (.t 40) (.c (.tv .bool (false : Bool))))),
      (iO 26 (.mv (.t 41)))])
    (.cond (.t 26)
    (.region [(iO 6 (.mv (.c (.tv .bool (true : Bool)))))])
    .skip))))))))
  (.region [(iO 42 (.bin .add (.t 9) (nI 1))),
    (iO 9 (.mv (.t 42)))]))))
noncomputable def z63u1t (k n : Nat) (d : z63u1p.D) : Option (XD z63u1x) := mvd_foundu1 k n d.1 d.2.1 d.2.2.1 d.2.2.2
theorem z63u1_k (k : Nat) : UOK P GL (mkU z63u1p z63u1x (z63u1t k k) nilU) z63u1d true z63u1b :=
  loop_typed (ud := z63u1d) (body := z63u1b) (uorc := uorT (z63U1 k)) hmo (T62_ok k).oo (z63U1_k k) (AllU.seq (AllU.no (by kernel_rfl)) (AllU.seq (AllU.no (by kernel_rfl)) (AllU.seq (AllU.block (AllU.seq (AllU.no (by kernel_rfl)) (AllU.seq (AllU.no (by kernel_rfl)) (AllU.block (AllU.seq (AllU.unit (uorc := uorT (z63U1 k)) (u := 0) (z63u0_k k)) (AllU.no (by kernel_rfl))))))) (AllU.no (by kernel_rfl))))) (t := z63u1t k) (fun d => by kernel_rfl) (fun n d => by kernel_rfl) k
noncomputable def z63U2 (k : Nat) : List (Nat × Ent) := (1, ⟨mkU z63u1p z63u1x (z63u1t k k) nilU⟩) :: z63U1 k
theorem z63U2_k (k : Nat) : UTab (z63U2 k) := (z63U1_k k).cons (mkU_nat nilU_nat)
noncomputable def mvd_found (k : Nat) (x0 : Int) (x1 : Int) : Option ((Int) × ((Bool) × ((Bool) × (Unit)))) :=
  Option.bind (mvd_foundu1 k k x0 x1 false 0) fun r =>
  Sum.elim (fun (v248 : (Int) × ((Bool) × (Bool))) =>
    some (v248.1, (v248.2.1, (v248.2.2, ()))))
    (fun (v249 : Bool) =>
    some (0, (false, (v249, ())))) r
noncomputable def z63b : AC :=
  (.seq (.region [(iO 4 (.mv (nI 0))),
    (iO 5 (.mv (.c (.tv .bool (false : Bool))))),
    (iO 6 (.mv (.c (.tv .bool (false : Bool)))))])
  (.seq (.seq (.region [(iO 9 (.mv (nI 0)))])
  (.block 0 (.unit 1 z63u1d true z63u1b)))
  (.seq (.region [(iO 43 (.mv (.t 6))),
    (iO 4 (.mv (nI 0))),
    (iO 5 (.mv (.c (.tv .bool (false : Bool))))),
    (iO 6 (.mv (.t 43)))])
  .ret)))
noncomputable def z63f : FDef := ⟨2, 44, [.tmp 4 none, .tmp 5 none, .tmp 6 none], z63b⟩
noncomputable def z63p : XPat := ⟨.normal, [(.tv (.int .i64)), (.tv (.int .i64))], []⟩
noncomputable def z63x : List XPat := [⟨.ret, [(.tup (.cons (.tv (.int .i64)) (.cons (.tv .bool) (.cons (.tv .bool) .nil))))], []⟩]
noncomputable def z63t (k : Nat) (d : z63p.D) : Option (XD z63x) := mvd_found k d.1 d.2
noncomputable def z63_e (k : Nat) : UEntry := mkU z63p z63x (z63t k) nilU
theorem z63_n (k : Nat) : UNat (z63_e k) := mkU_nat nilU_nat
theorem z63_fu (k : Nat) : FU P GL 76 (z63_e k) :=
  fn_typed (uorc := uorT (z63U2 k)) hmo (T62_ok k).oo (z63U2_k k) (fd := z63f) (AllU.seq (AllU.no (by kernel_rfl)) (AllU.seq (AllU.seq (AllU.no (by kernel_rfl)) (AllU.block (AllU.unit (uorc := uorT (z63U2 k)) (u := 1) (z63u1_k k)))) (AllU.no (by kernel_rfl)))) (fn := Tryd.f76) (by kernel_rfl) (by kernel_rfl) (fun d => by kernel_rfl) FU_nil
noncomputable def T63 (k : Nat) : List (Nat × Ent) := (76, ⟨z63_e k⟩) :: T62 k
theorem T63_ok (k : Nat) : TabOK P GL (T63 k) := (T62_ok k).cons (z63_fu k) (z63_n k)
/-! ### overspill.mvd.signed -/
noncomputable def z64U0 (_ : Nat) : List (Nat × Ent) := []
theorem z64U0_k (k : Nat) : UTab (z64U0 k) := UTab.nil
noncomputable def mvd_signed (k : Nat) (x0 : Int) (x1 : DReader) : Option (((Int) × ((Int) × (Unit))) × (DReader)) :=
  bif (decide (x0 = 0)) then
    some ((0, (0, ())), x1)
  else
  Option.bind (inbits_Reader_Take k 1 x1) fun (v254 : ((Int) × ((Int) × (Unit))) × (DReader)) =>
  bif (!(decide (v254.1.2.1 = 0))) then
    some ((0, (v254.1.2.1, ())), v254.2)
  else
  bif (decide (v254.1.1 = 1)) then
    some (((wr .i64 (0 - x0)), (0, ())), v254.2)
  else
  bif (decide ((31 : Int) < x0)) then
    some ((0, (3, ())), v254.2)
  else
  some ((x0, (0, ())), v254.2)
noncomputable def z64b : AC :=
  (.seq (.region [(iO 4 (.mv (nI 0))),
    (iO 5 (.mv (nI 0)))])
  (.seq (.seq (.region [(iO 8 (.mv (.t 1))),
    (iO 9 (.bin .eql (.t 8) (nI 0)))])
  (.cond (.t 9)
  (.seq (.region [(iO 4 (.mv (nI 0))),
      (iO 5 (.mv (nI 0)))])
    .ret)
  .skip))
  (.seq (.region [(iO 11 (.mv (.t 0))),
    (iC 12 72 [((.t 11), none), ((nI 1), none)]),
    (iO 10 (.mv (.t 12))),
    (iO 13 (.ext (.t 10) 0)),
    (iO 14 (.ext (.t 10) 1)),
    (iO 6 (.mv (.t 13))),
    (iO 7 (.mv (.t 14)))])
  (.seq (.block 0 (.seq (.region [(iO 16 (.mv (.t 7))),
    (iO 17 (.bin .neq (.t 16) (nI 0))),
    (iO 15 (.mv (.t 17)))])
  (.cond (.t 15)
  (.seq (.region [(iO 18 (.mv (.t 7))),
      (iO 4 (.mv (nI 0))),
      (iO 5 (.mv (.t 18)))])
    .ret)
  (.seq (.region [(iO 20 (.mv (.t 6))),
      (iO 21 (.bin .eql (.t 20) (nI 1))),
      (iO 19 (.mv (.t 21)))])
    (.cond (.t 19)
    (.seq (.region [(iO 22 (.mv (.t 1))),
        (iO 23 (.un .neg (.t 22))),
        (iO 4 (.mv (.t 23))),
        (iO 5 (.mv (nI 0)))])
      .ret)
    (.seq (.region [(iO 25 (.mv (.t 1))),
        (iO 26 (.bin .gtr (.t 25) (nI 31))),
        (iO 24 (.mv (.t 26)))])
      (.cond (.t 24)
      (.seq (.region [(iO 4 (.mv (nI 0))),
          (iO 5 (.mv (nI 3)))])
        .ret)
      .skip)))))))
  (.seq (.region [(iO 27 (.mv (.t 1))),
    (iO 4 (.mv (.t 27))),
    (iO 5 (.mv (nI 0)))])
  .ret)))))
noncomputable def z64f : FDef := ⟨2, 28, [.tmp 4 none, .tmp 5 none], z64b⟩
noncomputable def z64p : XPat := ⟨.normal, [(.ptr 0 []), (.tv (.int .i64))], [(.box (.tv YReader))]⟩
noncomputable def z64x : List XPat := [⟨.ret, [(.tup (.cons (.tv (.int .i64)) (.cons (.tv (.int .i64)) .nil)))], [(.box (.tv YReader))]⟩]
noncomputable def z64t (k : Nat) (d : z64p.D) : Option (XD z64x) := mvd_signed k d.1.2 d.2
noncomputable def z64_e (k : Nat) : UEntry := mkU z64p z64x (z64t k) nilU
theorem z64_n (k : Nat) : UNat (z64_e k) := mkU_nat nilU_nat
theorem z64_fu (k : Nat) : FU P GL 77 (z64_e k) :=
  fn_typed (uorc := uorT (z64U0 k)) hmo (T63_ok k).oo (z64U0_k k) (fd := z64f) (AllU.no (by kernel_rfl)) (fn := Tryd.f77) (by kernel_rfl) (by kernel_rfl) (fun d => by kernel_rfl) FU_nil
noncomputable def T64 (k : Nat) : List (Nat × Ent) := (77, ⟨z64_e k⟩) :: T63 k
theorem T64_ok (k : Nat) : TabOK P GL (T64 k) := (T63_ok k).cons (z64_fu k) (z64_n k)
/-! ### overspill.mvd.Take -/
noncomputable def z65U0 (_ : Nat) : List (Nat × Ent) := []
theorem z65U0_k (k : Nat) : UTab (z65U0 k) := UTab.nil
noncomputable def z65u0d : UDef := ⟨[(8, none), (11, none)], [35, 36, 37, 38, 39, 40], [(.normal, [(40, none)])], []⟩
noncomputable def z65u0p : XPat := ⟨.normal, [(.tv (.int .i64)), (.tv .bool)], []⟩
noncomputable def z65u0x : List XPat := [⟨.normal, [(.tv .bool)], []⟩]
noncomputable def mvd_Takeu0 (k : Nat) (x0 : Int) (x1 : Bool) : Option (Bool) :=
  bif (decide (x0 = 0)) then
    some (!x1)
  else
  some false
noncomputable def z65u0b : AC :=
  (.region [(iO 35 (.mv (.t 8))),
    (iO 36 (.bin .eql (.t 35) (nI 0))),
    (iO 37 (.mv (.t 36))),
    ⟨some 38, some (2, 37, true), (.op (.mv (.t 11))), []⟩,
    ⟨some 39, some (2, 37, true), (.op (.un .not (.t 38))), []⟩,
    (iO 40 (.pick (.t 37) (.t 39) (.c (.tv .bool (false : Bool)))))])
noncomputable def z65u0t (k : Nat) (d : z65u0p.D) : Option (XD z65u0x) := mvd_Takeu0 k d.1 d.2
theorem z65u0_k (k : Nat) : UOK P GL (mkU z65u0p z65u0x (z65u0t k) nilU) z65u0d false z65u0b :=
  unit_typed (ud := z65u0d) (body := z65u0b) (uorc := uorT (z65U0 k)) hmo (T64_ok k).oo (z65U0_k k) (AllU.no (by kernel_rfl)) (fun d => by kernel_rfl)
noncomputable def z65U1 (k : Nat) : List (Nat × Ent) := (0, ⟨mkU z65u0p z65u0x (z65u0t k) nilU⟩) :: z65U0 k
theorem z65U1_k (k : Nat) : UTab (z65U1 k) := (z65U0_k k).cons (mkU_nat nilU_nat)
noncomputable def z65u1d : UDef := ⟨[(8, none), (40, none)], [8], [(.normal, [(8, none)])], []⟩
noncomputable def z65u1p : XPat := ⟨.normal, [(.tv (.int .i64)), (.tv .bool)], []⟩
noncomputable def z65u1x : List XPat := [⟨.normal, [(.tv (.int .i64))], []⟩]
noncomputable def mvd_Takeu1 (k : Nat) (x0 : Int) (x1 : Bool) : Option (Int) :=
  bif x1 then
    some 3
  else
  some x0
noncomputable def z65u1b : AC :=
  (.cond (.t 40)
  (.region [(iO 8 (.mv (nI 3)))])
  .skip)
noncomputable def z65u1t (k : Nat) (d : z65u1p.D) : Option (XD z65u1x) := mvd_Takeu1 k d.1 d.2
theorem z65u1_k (k : Nat) : UOK P GL (mkU z65u1p z65u1x (z65u1t k) nilU) z65u1d false z65u1b :=
  unit_typed (ud := z65u1d) (body := z65u1b) (uorc := uorT (z65U1 k)) hmo (T64_ok k).oo (z65U1_k k) (AllU.no (by kernel_rfl)) (fun d => by kernel_rfl)
noncomputable def z65U2 (k : Nat) : List (Nat × Ent) := (1, ⟨mkU z65u1p z65u1x (z65u1t k) nilU⟩) :: z65U1 k
theorem z65U2_k (k : Nat) : UTab (z65U2 k) := (z65U1_k k).cons (mkU_nat nilU_nat)
noncomputable def z65u2d : UDef := ⟨[(8, none), (10, none)], [41, 42, 43, 44, 45], [(.normal, [(45, none)])], []⟩
noncomputable def z65u2p : XPat := ⟨.normal, [(.tv (.int .i64)), (.tv .bool)], []⟩
noncomputable def z65u2x : List XPat := [⟨.normal, [(.tv .bool)], []⟩]
noncomputable def mvd_Takeu2 (k : Nat) (x0 : Int) (x1 : Bool) : Option (Bool) :=
  bif (decide (x0 = 0)) then
    some x1
  else
  some false
noncomputable def z65u2b : AC :=
  (.region [(iO 41 (.mv (.t 8))),
    (iO 42 (.bin .eql (.t 41) (nI 0))),
    (iO 43 (.mv (.t 42))),
    ⟨some 44, some (2, 43, true), (.op (.mv (.t 10))), []⟩,
    (iO 45 (.pick (.t 43) (.t 44) (.c (.tv .bool (false : Bool)))))])
noncomputable def z65u2t (k : Nat) (d : z65u2p.D) : Option (XD z65u2x) := mvd_Takeu2 k d.1 d.2
theorem z65u2_k (k : Nat) : UOK P GL (mkU z65u2p z65u2x (z65u2t k) nilU) z65u2d false z65u2b :=
  unit_typed (ud := z65u2d) (body := z65u2b) (uorc := uorT (z65U2 k)) hmo (T64_ok k).oo (z65U2_k k) (AllU.no (by kernel_rfl)) (fun d => by kernel_rfl)
noncomputable def z65U3 (k : Nat) : List (Nat × Ent) := (2, ⟨mkU z65u2p z65u2x (z65u2t k) nilU⟩) :: z65U2 k
theorem z65U3_k (k : Nat) : UTab (z65U3 k) := (z65U2_k k).cons (mkU_nat nilU_nat)
noncomputable def z65u3d : UDef := ⟨[(0, none), (8, none), (9, none), (12, none), (45, none)], [8, 12, 46, 47, 48, 49, 50, 51], [(.normal, [(8, none), (12, none)])], []⟩
noncomputable def z65u3p : XPat := ⟨.normal, [(.ptr 0 []), (.tv (.int .i64)), (.tv (.int .i64)), (.tv (.int .i64)), (.tv .bool)], [(.box (.tv YReader))]⟩
noncomputable def z65u3x : List XPat := [⟨.normal, [(.tv (.int .i64)), (.tv (.int .i64))], [(.box (.tv YReader))]⟩]
noncomputable def mvd_Takeu3 (k : Nat) (x0 : Int) (x1 : Int) (x2 : Int) (x3 : Bool) (x4 : DReader) : Option (((Int) × (Int)) × (DReader)) :=
  bif x3 then
    Option.bind (mvd_signed k x1 x4) fun (v256 : ((Int) × ((Int) × (Unit))) × (DReader)) =>
    some ((v256.1.2.1, v256.1.1), v256.2)
  else
  some ((x0, x2), x4)
noncomputable def z65u3b : AC :=
  (.cond (.t 45)
  (.region [(iO 47 (.mv (.t 0))),
      (iO 48 (.mv (.t 9))),
      (iC 49 77 [((.t 47), none), ((.t 48), none)]),
      (iO 46 (.mv (.t 49))),
      (iO 50 (.ext (.t 46) 0)),
      (iO 51 (.ext (.t 46) 1)),
      (iO 12 (.mv (.t 50))),
      (iO 8 (.mv (.t 51)))])
  .skip)
noncomputable def z65u3t (k : Nat) (d : z65u3p.D) : Option (XD z65u3x) := mvd_Takeu3 k d.1.2.1 d.1.2.2.1 d.1.2.2.2.1 d.1.2.2.2.2 d.2
theorem z65u3_k (k : Nat) : UOK P GL (mkU z65u3p z65u3x (z65u3t k) nilU) z65u3d false z65u3b :=
  unit_typed (ud := z65u3d) (body := z65u3b) (uorc := uorT (z65U3 k)) hmo (T64_ok k).oo (z65U3_k k) (AllU.no (by kernel_rfl)) (fun d => by kernel_rfl)
noncomputable def z65U4 (k : Nat) : List (Nat × Ent) := (3, ⟨mkU z65u3p z65u3x (z65u3t k) nilU⟩) :: z65U3 k
theorem z65U4_k (k : Nat) : UTab (z65U4 k) := (z65U3_k k).cons (mkU_nat nilU_nat)
noncomputable def z65u4d : UDef := ⟨[(0, none), (4, none), (5, none), (6, none)], [2, 3, 5, 6, 7, 8, 9, 10, 11, 12, 17, 18, 19, 20, 21, 22, 23, 24, 25, 26, 27, 28, 29, 30, 31, 32, 33, 34, 35, 36, 37, 38, 39, 40, 41, 42, 43, 44, 45, 46, 47, 48, 49, 50, 51, 52, 53, 54, 55, 56, 57, 58, 59], [(.ret, [(2, none), (3, none)])], []⟩
noncomputable def z65u4p : XPat := ⟨.normal, [(.ptr 0 []), (.tv (.int .i64)), (.tv (.int .i64)), (.tv (.int .i64))], [(.box (.tv YReader))]⟩
noncomputable def z65u4x : List XPat := [⟨.ret, [(.tv (.int .i64)), (.tv (.int .i64))], [(.box (.tv YReader))]⟩]
noncomputable def mvd_Takeu4 (k : Nat) : Nat → (Int) → (Int) → (Int) → (DReader) → Option (((Int) × (Int)) × (DReader))
  | 0, _, _, _, _ => none
  | n + 1, x0, x1, x2, x3 =>
    Option.bind (inbits_Reader_Take k 1 x3) fun (v259 : ((Int) × ((Int) × (Unit))) × (DReader)) =>
    Option.bind (mvd_found k (bitop .or .i64 (shlI .i64 x1 1) v259.1.1) x2) fun (v260 : (Int) × ((Bool) × ((Bool) × (Unit)))) =>
    Option.bind (mvd_Takeu0 k v259.1.2.1 v260.2.2.1) fun (v261 : Bool) =>
    Option.bind (mvd_Takeu1 k v259.1.2.1 v261) fun (v262 : Int) =>
    Option.bind (mvd_Takeu2 k v262 v260.2.1) fun (v263 : Bool) =>
    Option.bind (mvd_Takeu3 k v262 v260.1 0 v263 v259.2) fun (v264 : ((Int) × (Int)) × (DReader)) =>
    bif (!(decide (v264.1.1 = 0))) then
      Option.bind (inbits_Reader_Seek k x0 v264.2) fun (v265 : (Int) × (DReader)) =>
      some ((0, v264.1.1), v265.2)
    else
    bif v260.2.1 then
      some ((v264.1.2, 0), v264.2)
    else
    Option.bind (mvd_Takeu4 k n x0 (bitop .or .i64 (shlI .i64 x1 1) v259.1.1) (wr .i64 (x2 + 1)) v264.2) fun r => some r
noncomputable def z65u4b : AC :=
  (.seq (.block 1 (.seq (.region [(iO 20 (.mv (.t 0))),
    (iC 21 72 [((.t 20), none), ((nI 1), none)]),
    (iO 19 (.mv (.t 21))),
    (iO 22 (.ext (.t 19) 0)),
    (iO 23 (.ext (.t 19) 1)),
    (iO 7 (.mv (.t 22))),
    (iO 8 (.mv (.t 23)))])
  (.seq (.region [(iO 24 (.mv (.t 5))),
    (iO 25 (.bin .shl (.t 24) (.c (.tv (.int .u64) (1 : Int))))),
    (iO 26 (.mv (.t 7))),
    (iO 27 (.bin .or (.t 25) (.t 26))),
    (iO 5 (.mv (.t 27)))])
  (.seq (.region [(iO 29 (.mv (.t 5))),
    (iO 30 (.mv (.t 6))),
    (iC 31 76 [((.t 29), none), ((.t 30), none)]),
    (iO 28 (.mv (.t 31))),
    (iO 32 (.ext (.t 28) 0)),
    (iO 33 (.ext (.t 28) 1)),
    (iO 34 (.ext (.t 28) 2)),
    (iO 9 (.mv (.t 32))),
    (iO 10 (.mv (.t 33))),
    (iO 11 (.mv (.t 34)))])
  (.seq (.seq (.unit 0 z65u0d false z65u0b)
  (.unit 1 z65u1d false z65u1b))
  (.seq (.region [(iO 12 (.mv (nI 0)))])
  (.seq (.seq (.unit 2 z65u2d false z65u2b)
  (.unit 3 z65u3d false z65u3b))
  (.seq (.seq (.region [(iO 52 (.mv (.t 8))),
    (iO 53 (.bin .neq (.t 52) (nI 0)))])
  (.cond (.t 53)
  (.seq (.region [(iO 54 (.mv (.t 0))),
      (iO 55 (.mv (.t 4))),
      (iC 56 8 [((.t 54), none), ((.t 55), none)])])
    (.seq (.region [(iO 57 (.mv (.t 8))),
      (iO 2 (.mv (nI 0))),
      (iO 3 (.mv (.t 57)))])
    .ret))
  .skip))
  (.seq (.region [(iO 58 (.mv (.t 10)))])
  (.cond (.t 58)
  (.seq (.region [(iO 59 (.mv (.t 12))),
      (iO 2 (.mv (.t 59))),
      (iO 3 (.mv (nI 0)))])
    .ret)
  .skip))))))))))
  (.region [(iO 17 (.mv (.t 6))),
    (iO 18 (.bin .add (.t 17) (nI 1))),
    (iO 6 (.mv (.t 18)))]))
noncomputable def z65u4t (k n : Nat) (d : z65u4p.D) : Option (XD z65u4x) := mvd_Takeu4 k n d.1.2.1 d.1.2.2.1 d.1.2.2.2 d.2
theorem z65u4_k (k : Nat) : UOK P GL (mkU z65u4p z65u4x (z65u4t k k) nilU) z65u4d true z65u4b :=
  loop_typed (ud := z65u4d) (body := z65u4b) (uorc := uorT (z65U4 k)) hmo (T64_ok k).oo (z65U4_k k) (AllU.seq (AllU.block (AllU.seq (AllU.no (by kernel_rfl)) (AllU.seq (AllU.no (by kernel_rfl)) (AllU.seq (AllU.no (by kernel_rfl)) (AllU.seq (AllU.seq (AllU.unit (uorc := uorT (z65U4 k)) (u := 0) (z65u0_k k)) (AllU.unit (uorc := uorT (z65U4 k)) (u := 1) (z65u1_k k))) (AllU.seq (AllU.no (by kernel_rfl)) (AllU.seq (AllU.seq (AllU.unit (uorc := uorT (z65U4 k)) (u := 2) (z65u2_k k)) (AllU.unit (uorc := uorT (z65U4 k)) (u := 3) (z65u3_k k))) (AllU.no (by kernel_rfl))))))))) (AllU.no (by kernel_rfl))) (t := z65u4t k) (fun d => by kernel_rfl) (fun n d => by kernel_rfl) k
noncomputable def z65U5 (k : Nat) : List (Nat × Ent) := (4, ⟨mkU z65u4p z65u4x (z65u4t k k) nilU⟩) :: z65U4 k
theorem z65U5_k (k : Nat) : UTab (z65U5 k) := (z65U4_k k).cons (mkU_nat nilU_nat)
noncomputable def mvd_Take (k : Nat) (x0 : DReader) : Option (((Int) × ((Int) × (Unit))) × (DReader)) :=
  Option.bind (inbits_Reader_At k x0) fun (v242 : (Int) × (DReader)) =>
  Option.bind (mvd_Takeu4 k k v242.1 0 1 v242.2) fun (v266 : ((Int) × (Int)) × (DReader)) =>
  some ((v266.1.1, (v266.1.2, ())), v266.2)
noncomputable def z65b : AC :=
  (.seq (.region [(iO 2 (.mv (nI 0))),
    (iO 3 (.mv (nI 0)))])
  (.seq (.seq (.region [(iO 13 (.mv (.t 0))),
    (iO 14 (.eqp false (.t 13) (.c .nilp)))])
  (.cond (.t 14)
  (.seq (.region [(iO 2 .bad),
      (iO 3 .bad)])
    .ret)
  .skip))
  (.seq (.region [(iO 15 (.mv (.t 0))),
    (iC 16 14 [((.t 15), none)]),
    (iO 4 (.mv (.t 16)))])
  (.seq (.region [(iO 5 (.mv (nI 0))),
    (iO 6 (.mv (nI 1)))])
  (.block 0 (.unit 4 z65u4d true z65u4b))))))
noncomputable def z65f : FDef := ⟨1, 60, [.tmp 2 none, .tmp 3 none], z65b⟩
noncomputable def z65p : XPat := ⟨.normal, [(.ptr 0 [])], [(.box (.tv YReader))]⟩
noncomputable def z65x : List XPat := [⟨.ret, [(.tup (.cons (.tv (.int .i64)) (.cons (.tv (.int .i64)) .nil)))], [(.box (.tv YReader))]⟩]
noncomputable def z65t (k : Nat) (d : z65p.D) : Option (XD z65x) := mvd_Take k d.2
noncomputable def z65_e (k : Nat) : UEntry := mkU z65p z65x (z65t k) nilU
theorem z65_n (k : Nat) : UNat (z65_e k) := mkU_nat nilU_nat
theorem z65_fu (k : Nat) : FU P GL 55 (z65_e k) :=
  fn_typed (uorc := uorT (z65U5 k)) hmo (T64_ok k).oo (z65U5_k k) (fd := z65f) (AllU.seq (AllU.no (by kernel_rfl)) (AllU.seq (AllU.no (by kernel_rfl)) (AllU.seq (AllU.no (by kernel_rfl)) (AllU.seq (AllU.no (by kernel_rfl)) (AllU.block (AllU.unit (uorc := uorT (z65U5 k)) (u := 4) (z65u4_k k))))))) (fn := Tryd.f55) (by kernel_rfl) (by kernel_rfl) (fun d => by kernel_rfl) FU_nil
noncomputable def T65 (k : Nat) : List (Nat × Ent) := (55, ⟨z65_e k⟩) :: T64 k
theorem T65_ok (k : Nat) : TabOK P GL (T65 k) := (T64_ok k).cons (z65_fu k) (z65_n k)
/-! ### (*overspill.cellin.reader).middle -/
noncomputable def z66U0 (_ : Nat) : List (Nat × Ent) := []
theorem z66U0_k (k : Nat) : UTab (z66U0 k) := UTab.nil
noncomputable def z66u0d : UDef := ⟨[(1, none), (8, none)], [24, 25, 26, 27, 28, 29, 30, 31, 32, 33, 34, 35, 36, 37, 38, 39], [(.normal, [(39, none)])], []⟩
noncomputable def z66u0p : XPat := ⟨.normal, [(.ptr 0 []), (.tv (.int .i64))], [(.box (.tv YCell))]⟩
noncomputable def z66u0x : List XPat := [⟨.normal, [(.tv .bool)], [(.box (.tv YCell))]⟩]
noncomputable def cellin_reader_middleu0 (k : Nat) (x0 : Int) (x1 : DCell) : Option ((Bool) × (DCell)) :=
  bif (decide (x0 = 0)) then
    bif (decide (x1.2.2.1 = 1)) then
      some (true, x1)
    else
    some ((decide (x1.2.2.1 = 4)), x1)
  else
  some (false, x1)
noncomputable def z66u0b : AC :=
  (.region [(iO 24 (.mv (.t 8))),
    (iO 25 (.bin .eql (.t 24) (nI 0))),
    (iO 26 (.mv (.t 25))),
    ⟨some 27, some (2, 26, true), (.op (.mv (.t 1))), []⟩,
    ⟨some 28, some (2, 26, true), (.op (.nilc (.t 27))), []⟩,
    ⟨some 29, some (2, 26, true), (.op (.fad 2 2 (.t 28))), []⟩,
    ⟨some 30, some (2, 26, true), (.op (.load false 1 (.t 29))), []⟩,
    ⟨some 31, some (2, 26, true), (.op (.bin .eql (.t 30) (nI 1))), []⟩,
    ⟨some 32, some (2, 26, true), (.op (.mv (.t 31))), []⟩,
    ⟨some 33, some (8, 32, false), (.op (.mv (.t 1))), []⟩,
    ⟨some 34, some (8, 32, false), (.op (.nilc (.t 33))), []⟩,
    ⟨some 35, some (8, 32, false), (.op (.fad 2 2 (.t 34))), []⟩,
    ⟨some 36, some (8, 32, false), (.op (.load false 1 (.t 35))), []⟩,
    ⟨some 37, some (8, 32, false), (.op (.bin .eql (.t 36) (nI 4))), []⟩,
    ⟨some 38, some (2, 26, true), (.op (.pick (.t 32) (.c (.tv .bool (true : Bool))) (.t 37))), []⟩,
    (iO 39 (.pick (.t 26) (.t 38) (.c (.tv .bool (false : Bool)))))])
noncomputable def z66u0t (k : Nat) (d : z66u0p.D) : Option (XD z66u0x) := cellin_reader_middleu0 k d.1.2 d.2
theorem z66u0_k (k : Nat) : UOK P GL (mkU z66u0p z66u0x (z66u0t k) nilU) z66u0d false z66u0b :=
  unit_typed (ud := z66u0d) (body := z66u0b) (uorc := uorT (z66U0 k)) hmo (T65_ok k).oo (z66U0_k k) (AllU.no (by kernel_rfl)) (fun d => by kernel_rfl)
noncomputable def z66U1 (k : Nat) : List (Nat × Ent) := (0, ⟨mkU z66u0p z66u0x (z66u0t k) nilU⟩) :: z66U0 k
theorem z66U1_k (k : Nat) : UTab (z66U1 k) := (z66U0_k k).cons (mkU_nat nilU_nat)
noncomputable def z66u1d : UDef := ⟨[(0, none), (1, none), (8, none), (39, none)], [8, 40, 41, 42, 43, 44, 45, 46, 47, 48, 49, 50], [(.normal, [(8, none)])], []⟩
noncomputable def z66u1p : XPat := ⟨.normal, [(.ptr 0 []), (.ptr 2 []), (.tv (.int .i64)), (.tv .bool)], [(.box (.cons (.ptr 1 []) (.cons (.tv (.int .i64)) .nil))), (.box (.tv YReader)), (.box (.tv YCell))]⟩
noncomputable def z66u1x : List XPat := [⟨.normal, [(.tv (.int .i64))], [(.box (.cons (.ptr 1 []) (.cons (.tv (.int .i64)) .nil))), (.box (.tv YReader)), (.box (.tv YCell))]⟩]
noncomputable def cellin_reader_middleu1 (k : Nat) (x0 : Int) (x1 : Bool) (x2 : Int) (x3 : DReader) (x4 : DCell) : Option ((Int) × (((Unit) × ((Int) × (Unit))) × ((DReader) × (DCell)))) :=
  bif x1 then
    Option.bind (steps_Take k x3) fun (v237 : ((Int) × ((Int) × (Unit))) × (DReader)) =>
    some (v237.1.2.1, (((), (x2, ())), (v237.2, (x4.1, (x4.2.1, (x4.2.2.1, (v237.1.1, x4.2.2.2.2)))))))
  else
  some (x0, (((), (x2, ())), (x3, x4)))
noncomputable def z66u1b : AC :=
  (.cond (.t 39)
  (.region [(iO 41 (.mv (.t 1))),
      (iO 42 (.mv (.t 0))),
      (iO 43 (.nilc (.t 42))),
      (iO 44 (.fad 0 0 (.t 43))),
      (iO 45 (.load false 1 (.t 44))),
      (iC 46 54 [((.t 45), none)]),
      (iO 40 (.mv (.t 46))),
      (iO 47 (.ext (.t 40) 0)),
      (iO 48 (.ext (.t 40) 1)),
      (iO 49 (.nilc (.t 41))),
      (iO 50 (.fad 3 3 (.t 49))),
      (iS (.store 1 none (.t 50) (.t 47))),
      (iO 8 (.mv (.t 48)))])
  .skip)
noncomputable def z66u1t (k : Nat) (d : z66u1p.D) : Option (XD z66u1x) := cellin_reader_middleu1 k d.1.2.2.1 d.1.2.2.2 d.2.1.2.1 d.2.2.1 d.2.2.2
theorem z66u1_k (k : Nat) : UOK P GL (mkU z66u1p z66u1x (z66u1t k) nilU) z66u1d false z66u1b :=
  unit_typed (ud := z66u1d) (body := z66u1b) (uorc := uorT (z66U1 k)) hmo (T65_ok k).oo (z66U1_k k) (AllU.no (by kernel_rfl)) (fun d => by kernel_rfl)
noncomputable def z66U2 (k : Nat) : List (Nat × Ent) := (1, ⟨mkU z66u1p z66u1x (z66u1t k) nilU⟩) :: z66U1 k
theorem z66U2_k (k : Nat) : UTab (z66U2 k) := (z66U1_k k).cons (mkU_nat nilU_nat)
noncomputable def z66u2d : UDef := ⟨[(1, none), (8, none)], [54, 55, 56, 57, 58, 59, 60, 61, 62, 63], [(.normal, [(63, none)])], []⟩
noncomputable def z66u2p : XPat := ⟨.normal, [(.ptr 0 []), (.tv (.int .i64))], [(.box (.tv YCell))]⟩
noncomputable def z66u2x : List XPat := [⟨.normal, [(.tv .bool)], [(.box (.tv YCell))]⟩]
noncomputable def cellin_reader_middleu2 (k : Nat) (x0 : Int) (x1 : DCell) : Option ((Bool) × (DCell)) :=
  bif (decide (x0 = 0)) then
    Option.bind (cellin_intra k x1.2.2.1) fun (v240 : Bool) =>
    some ((!v240), x1)
  else
  some (false, x1)
noncomputable def z66u2b : AC :=
  (.region [(iO 54 (.mv (.t 8))),
    (iO 55 (.bin .eql (.t 54) (nI 0))),
    (iO 56 (.mv (.t 55))),
    ⟨some 57, some (2, 56, true), (.op (.mv (.t 1))), []⟩,
    ⟨some 58, some (2, 56, true), (.op (.nilc (.t 57))), []⟩,
    ⟨some 59, some (2, 56, true), (.op (.fad 2 2 (.t 58))), []⟩,
    ⟨some 60, some (2, 56, true), (.op (.load false 1 (.t 59))), []⟩,
    ⟨some 61, some (2, 56, true), (.call (.c (.fn 53 .nil .nil)) [((.t 60), none)]), []⟩,
    ⟨some 62, some (2, 56, true), (.op (.un .not (.t 61))), []⟩,
    (iO 63 (.pick (.t 56) (.t 62) (.c (.tv .bool (false : Bool)))))])
noncomputable def z66u2t (k : Nat) (d : z66u2p.D) : Option (XD z66u2x) := cellin_reader_middleu2 k d.1.2 d.2
theorem z66u2_k (k : Nat) : UOK P GL (mkU z66u2p z66u2x (z66u2t k) nilU) z66u2d false z66u2b :=
  unit_typed (ud := z66u2d) (body := z66u2b) (uorc := uorT (z66U2 k)) hmo (T65_ok k).oo (z66U2_k k) (AllU.no (by kernel_rfl)) (fun d => by kernel_rfl)
noncomputable def z66U3 (k : Nat) : List (Nat × Ent) := (2, ⟨mkU z66u2p z66u2x (z66u2t k) nilU⟩) :: z66U2 k
theorem z66U3_k (k : Nat) : UTab (z66U3 k) := (z66U2_k k).cons (mkU_nat nilU_nat)
noncomputable def z66u3d : UDef := ⟨[(0, none), (1, none), (5, none), (8, none), (51, none)], [8, 9, 10, 51, 52, 53, 54, 55, 56, 57, 58, 59, 60, 61, 62, 63, 64, 65, 66, 67, 68, 69, 70, 71, 72, 73, 74, 75, 76, 77, 78, 79, 80, 81, 82, 83, 84], [((.exit 0), [(8, none)])], []⟩
noncomputable def z66u3p : XPat := ⟨.normal, [(.ptr 0 []), (.ptr 2 []), (.ptr 3 []), (.tv (.int .i64)), (.tv (.int .i64))], [(.box (.cons (.ptr 1 []) (.cons (.tv (.int .i64)) .nil))), (.box (.tv YReader)), (.box (.tv YCell)), (.box (.tv (.arr 2 (.int .i64))))]⟩
noncomputable def z66u3x : List XPat := [⟨(.exit 0), [(.tv (.int .i64))], [(.box (.cons (.ptr 1 []) (.cons (.tv (.int .i64)) .nil))), (.box (.tv YReader)), (.box (.tv YCell)), (.box (.tv (.arr 2 (.int .i64))))]⟩]
noncomputable def cellin_reader_middleu3 (k : Nat) : Nat → (Int) → (Int) → (Int) → (DReader) → (DCell) → (List (Int)) → Option ((Int) × (((Unit) × ((Int) × (Unit))) × ((DReader) × ((DCell) × (List (Int))))))
  | 0, _, _, _, _, _, _ => none
  | n + 1, x0, x1, x2, x3, x4, x5 =>
    bif (decide (x1 < 2)) then
      Option.bind (cellin_reader_middleu2 k x0 x4) fun (v270 : (Bool) × (DCell)) =>
      bif v270.1 then
        Option.bind (mvd_Take k x3) fun (v271 : ((Int) × ((Int) × (Unit))) × (DReader)) =>
        bif (inR x1 2) then
          Option.bind (whole_Wrap k (List.getD x5 (Int.toNat x1) 0)) fun (v272 : Int) =>
          Option.bind (whole_Wrap k (wr .i64 (v272 + v271.1.1))) fun (v273 : Int) =>
          bif (inR x1 2) then
            Option.bind (cellin_reader_middleu3 k n v271.1.2.1 (wr .i64 (x1 + 1)) x2 v271.2 (v270.2.1, (v270.2.2.1, (v270.2.2.2.1, (v270.2.2.2.2.1, ((List.set v270.2.2.2.2.2.1 (Int.toNat x1) v273), v270.2.2.2.2.2.2))))) x5) fun r => some r
          else
            none
        else
          none
      else
      Option.bind (cellin_reader_middleu3 k n x0 (wr .i64 (x1 + 1)) x2 x3 v270.2 x5) fun r => some r
    else
    some (x0, (((), (x2, ())), (x3, (x4, x5))))
noncomputable def z66u3b : AC :=
  (.seq (.region [(iO 52 (.bin .lss (.t 51) (nI 2)))])
  (.seq (.cond (.t 52)
  .skip
  (.exit 0))
  (.seq (.block 1 (.seq (.region [(iO 53 (.mv (.t 51))),
    (iO 9 (.mv (.t 53)))])
  (.seq (.unit 2 z66u2d false z66u2b)
  (.cond (.t 63)
  (.seq (.region [(iO 10 (.mv (nI 0)))])
    (.seq (.region [(iO 65 (.mv (.t 0))),
      (iO 66 (.nilc (.t 65))),
      (iO 67 (.fad 0 0 (.t 66))),
      (iO 68 (.load false 1 (.t 67))),
      (iC 69 55 [((.t 68), none)]),
      (iO 64 (.mv (.t 69))),
      (iO 70 (.ext (.t 64) 0)),
      (iO 71 (.ext (.t 64) 1)),
      (iO 10 (.mv (.t 70))),
      (iO 8 (.mv (.t 71)))])
    (.draw [(iO 72 (.mv (.t 1))),
      (iO 73 (.mv (.t 9))),
      (iO 74 (.mv (.t 9))),
      (iOa 75 (.iad 2 1 (.t 5) (.t 74)) [2]),
      (iOa 76 (.load false 1 (.t 75)) [2, 3]),
      (iCa 77 44 [((.t 76), none)] [2, 3, 4]),
      (iO 78 (.mv (.t 10))),
      (iOa 79 (.bin .add (.t 77) (.t 78)) (rg [2, 5])),
      (iCa 80 44 [((.t 79), none)] (rg [2, 6])),
      (iOa 81 (.nilc (.t 72)) [0]),
      (iOa 82 (.fad 4 4 (.t 81)) [0, 9]),
      (iOa 83 (.iad 2 1 (.t 82) (.t 73)) (rg [0, 11])),
      (iSa (.store 1 none (.t 83) (.t 80)) (rg [0, 12]))])))
  .skip))))
  (.region [(iO 84 (.bin .add (.t 51) (nI 1))),
    (iO 51 (.mv (.t 84)))]))))
noncomputable def z66u3t (k n : Nat) (d : z66u3p.D) : Option (XD z66u3x) := cellin_reader_middleu3 k n d.1.2.2.2.1 d.1.2.2.2.2 d.2.1.2.1 d.2.2.1 d.2.2.2.1 d.2.2.2.2
theorem z66u3_k (k : Nat) : UOK P GL (mkU z66u3p z66u3x (z66u3t k k) nilU) z66u3d true z66u3b :=
  loop_typed (ud := z66u3d) (body := z66u3b) (uorc := uorT (z66U3 k)) hmo (T65_ok k).oo (z66U3_k k) (AllU.seq (AllU.no (by kernel_rfl)) (AllU.seq (AllU.no (by kernel_rfl)) (AllU.seq (AllU.block (AllU.seq (AllU.no (by kernel_rfl)) (AllU.seq (AllU.unit (uorc := uorT (z66U3 k)) (u := 2) (z66u2_k k)) (AllU.no (by kernel_rfl))))) (AllU.no (by kernel_rfl))))) (t := z66u3t k) (fun d => by kernel_rfl) (fun n d => by kernel_rfl) k
noncomputable def z66U4 (k : Nat) : List (Nat × Ent) := (3, ⟨mkU z66u3p z66u3x (z66u3t k k) nilU⟩) :: z66U3 k
theorem z66U4_k (k : Nat) : UTab (z66U4 k) := (z66U3_k k).cons (mkU_nat nilU_nat)
noncomputable def cellin_reader_middle (k : Nat) (x0 : List (Int)) (x1 : Int) (x2 : DReader) (x3 : DCell) : Option ((Int) × (((Unit) × ((Int) × (Unit))) × ((DReader) × (DCell)))) :=
  Option.bind (cellin_intra k x3.2.2.1) fun (v224 : Bool) =>
  Option.bind (cbpy_Take k v224 x2) fun (v233 : ((Int) × ((Int) × (Unit))) × (DReader)) =>
  Option.bind (cellin_reader_middleu0 k v233.1.2.1 x3) fun (v234 : (Bool) × (DCell)) =>
  Option.bind (cellin_reader_middleu1 k v233.1.2.1 v234.1 x1 v233.2 v234.2) fun (v238 : (Int) × (((Unit) × ((Int) × (Unit))) × ((DReader) × (DCell)))) =>
  Option.bind (cellin_reader_middleu3 k k v238.1 0 v238.2.1.2.1 v238.2.2.1 v238.2.2.2 x0) fun (v274 : (Int) × (((Unit) × ((Int) × (Unit))) × ((DReader) × ((DCell) × (List (Int)))))) =>
  some (v233.1.1, (((), (v274.1, ())), (v274.2.2.1, v274.2.2.2.1)))
noncomputable def z66b : AC :=
  (.seq (.region [(iO 5 (.box (.t 2))),
    (iO 6 (.mv (nI 0)))])
  (.seq (.draw [(iO 12 (.mv (.t 0))),
    (iOa 13 (.nilc (.t 12)) [0]),
    (iOa 14 (.fad 0 0 (.t 13)) [0, 1]),
    (iOa 15 (.load false 1 (.t 14)) [0, 1, 2]),
    (iO 16 (.mv (.t 1))),
    (iOa 17 (.nilc (.t 16)) [4]),
    (iOa 18 (.fad 2 2 (.t 17)) [4, 5]),
    (iOa 19 (.load false 1 (.t 18)) [4, 5, 6]),
    (iCa 20 53 [((.t 19), none)] (rg [4, 4])),
    (iCa 21 52 [((.t 15), none), ((.t 20), none)] (rg [0, 9])),
    (iOa 11 (.mv (.t 21)) (rg [0, 10])),
    (iOa 22 (.ext (.t 11) 0) (rg [0, 11])),
    (iOa 23 (.ext (.t 11) 1) (rg [0, 11])),
    (iOa 7 (.mv (.t 22)) (rg [0, 12])),
    (iOa 8 (.mv (.t 23)) (rg [0, 14]))])
  (.seq (.seq (.unit 0 z66u0d false z66u0b)
  (.unit 1 z66u1d false z66u1b))
  (.seq (.seq (.region [(iO 51 (.mv (nI 0)))])
  (.block 0 (.unit 3 z66u3d true z66u3b)))
  (.seq (.region [(iO 85 (.mv (.t 0))),
    (iO 86 (.mv (.t 8))),
    (iO 87 (.nilc (.t 85))),
    (iO 88 (.fad 1 1 (.t 87))),
    (iS (.store 1 none (.t 88) (.t 86)))])
  (.seq (.region [(iO 89 (.mv (.t 7))),
    (iO 6 (.mv (.t 89)))])
  .ret))))))
noncomputable def z66f : FDef := ⟨3, 90, [.tmp 6 none], z66b⟩
noncomputable def z66p : XPat := ⟨.normal, [(.ptr 0 []), (.ptr 2 []), (.tv (.arr 2 (.int .i64)))], [(.box (.cons (.ptr 1 []) (.cons (.tv (.int .i64)) .nil))), (.box (.tv YReader)), (.box (.tv YCell))]⟩
noncomputable def z66x : List XPat := [⟨.ret, [(.tv (.int .i64))], [(.box (.cons (.ptr 1 []) (.cons (.tv (.int .i64)) .nil))), (.box (.tv YReader)), (.box (.tv YCell))]⟩]
noncomputable def z66t (k : Nat) (d : z66p.D) : Option (XD z66x) := cellin_reader_middle k d.1.2.2 d.2.1.2.1 d.2.2.1 d.2.2.2
noncomputable def z66_e (k : Nat) : UEntry := mkU z66p z66x (z66t k) nilU
theorem z66_n (k : Nat) : UNat (z66_e k) := mkU_nat nilU_nat
theorem z66_fu (k : Nat) : FU P GL 25 (z66_e k) :=
  fn_typed (uorc := uorT (z66U4 k)) hmo (T65_ok k).oo (z66U4_k k) (fd := z66f) (AllU.seq (AllU.no (by kernel_rfl)) (AllU.seq (AllU.no (by kernel_rfl)) (AllU.seq (AllU.seq (AllU.unit (uorc := uorT (z66U4 k)) (u := 0) (z66u0_k k)) (AllU.unit (uorc := uorT (z66U4 k)) (u := 1) (z66u1_k k))) (AllU.seq (AllU.seq (AllU.no (by kernel_rfl)) (AllU.block (AllU.unit (uorc := uorT (z66U4 k)) (u := 3) (z66u3_k k)))) (AllU.no (by kernel_rfl)))))) (fn := Tryd.f25) (by kernel_rfl) (by kernel_rfl) (fun d => by kernel_rfl) FU_nil
noncomputable def T66 (k : Nat) : List (Nat × Ent) := (25, ⟨z66_e k⟩) :: T65 k
theorem T66_ok (k : Nat) : TabOK P GL (T66 k) := (T65_ok k).cons (z66_fu k) (z66_n k)
/-! ### overspill.blocks.first -/
noncomputable def z67U0 (_ : Nat) : List (Nat × Ent) := []
theorem z67U0_k (k : Nat) : UTab (z67U0 k) := UTab.nil
noncomputable def z67u0d : UDef := ⟨[(4, none), (15, none)], [15, 18, 19], [(.normal, [(15, none)])], []⟩
noncomputable def z67u0p : XPat := ⟨.normal, [(.tv (.int .i64)), (.tv .bool)], []⟩
noncomputable def z67u0x : List XPat := [⟨.normal, [(.tv .bool)], []⟩]
noncomputable def blocks_firstu0 (k : Nat) (x0 : Int) (x1 : Bool) : Option (Bool) :=
  bif x1 then
    some x1
  else
  some (decide (x0 = 128))
noncomputable def z67u0b : AC :=
  (.cond (.t 15)
  .skip
  (.region [(iO 18 (.mv (.t 4))),
      (iO 19 (.bin .eql (.t 18) (nI 128))),
      (iO 15 (.mv (.t 19)))]))
noncomputable def z67u0t (k : Nat) (d : z67u0p.D) : Option (XD z67u0x) := blocks_firstu0 k d.1 d.2
theorem z67u0_k (k : Nat) : UOK P GL (mkU z67u0p z67u0x (z67u0t k) nilU) z67u0d false z67u0b :=
  unit_typed (ud := z67u0d) (body := z67u0b) (uorc := uorT (z67U0 k)) hmo (T66_ok k).oo (z67U0_k k) (AllU.no (by kernel_rfl)) (fun d => by kernel_rfl)
noncomputable def z67U1 (k : Nat) : List (Nat × Ent) := (0, ⟨mkU z67u0p z67u0x (z67u0t k) nilU⟩) :: z67U0 k
theorem z67U1_k (k : Nat) : UTab (z67U1 k) := (z67U0_k k).cons (mkU_nat nilU_nat)
noncomputable def blocks_first (k : Nat) (x0 : DReader) : Option (((Int) × ((Int) × (Unit))) × (DReader)) :=
  Option.bind (inbits_Reader_Take k 8 x0) fun (v278 : ((Int) × ((Int) × (Unit))) × (DReader)) =>
  bif (!(decide (v278.1.2.1 = 0))) then
    some ((0, (v278.1.2.1, ())), v278.2)
  else
  Option.bind (blocks_firstu0 k v278.1.1 (decide (v278.1.1 = 0))) fun (v279 : Bool) =>
  bif v279 then
    some ((0, (7, ())), v278.2)
  else
  bif (decide (v278.1.1 = 255)) then
    some ((128, (0, ())), v278.2)
  else
  some ((v278.1.1, (0, ())), v278.2)
noncomputable def z67b : AC :=
  (.seq (.region [(iO 2 (.mv (nI 0))),
    (iO 3 (.mv (nI 0)))])
  (.seq (.region [(iO 7 (.mv (.t 0))),
    (iC 8 72 [((.t 7), none), ((nI 8), none)]),
    (iO 6 (.mv (.t 8))),
    (iO 9 (.ext (.t 6) 0)),
    (iO 10 (.ext (.t 6) 1)),
    (iO 4 (.mv (.t 9))),
    (iO 5 (.mv (.t 10)))])
  (.seq (.block 0 (.seq (.region [(iO 12 (.mv (.t 5))),
    (iO 13 (.bin .neq (.t 12) (nI 0))),
    (iO 11 (.mv (.t 13)))])
  (.cond (.t 11)
  (.seq (.region [(iO 14 (.mv (.t 5))),
      (iO 2 (.mv (nI 0))),
      (iO 3 (.mv (.t 14)))])
    .ret)
  (.seq (.seq (.region [(iO 16 (.mv (.t 4))),
      (iO 17 (.bin .eql (.t 16) (nI 0))),
      (iO 15 (.mv (.t 17)))])
    (.unit 0 z67u0d false z67u0b))
    (.cond (.t 15)
    (.seq (.region [(iO 2 (.mv (nI 0))),
        (iO 3 (.mv (nI 7)))])
      .ret)
    (.seq (.region [(iO 21 (.mv (.t 4))),
        (iO 22 (.bin .eql (.t 21) (nI 255))),
        (iO 20 (.mv (.t 22)))])
      (.cond (.t 20)
      (.seq (.region [(iO 2 (.mv (nI 128))),
          (iO 3 (.mv (nI 0)))])
        .ret)
      .skip)))))))
  (.seq (.region [(iO 23 (.mv (.t 4))),
    (iO 2 (.mv (.t 23))),
    (iO 3 (.mv (nI 0)))])
  .ret))))
noncomputable def z67f : FDef := ⟨1, 24, [.tmp 2 none, .tmp 3 none], z67b⟩
noncomputable def z67p : XPat := ⟨.normal, [(.ptr 0 [])], [(.box (.tv YReader))]⟩
noncomputable def z67x : List XPat := [⟨.ret, [(.tup (.cons (.tv (.int .i64)) (.cons (.tv (.int .i64)) .nil)))], [(.box (.tv YReader))]⟩]
noncomputable def z67t (k : Nat) (d : z67p.D) : Option (XD z67x) := blocks_first k d.2
noncomputable def z67_e (k : Nat) : UEntry := mkU z67p z67x (z67t k) nilU
theorem z67_n (k : Nat) : UNat (z67_e k) := mkU_nat nilU_nat
theorem z67_fu (k : Nat) : FU P GL 78 (z67_e k) :=
  fn_typed (uorc := uorT (z67U1 k)) hmo (T66_ok k).oo (z67U1_k k) (fd := z67f) (AllU.seq (AllU.no (by kernel_rfl)) (AllU.seq (AllU.no (by kernel_rfl)) (AllU.seq (AllU.block (AllU.seq (AllU.no (by kernel_rfl)) (AllU.cond (AllU.no (by kernel_rfl)) (AllU.seq (AllU.seq (AllU.no (by kernel_rfl)) (AllU.unit (uorc := uorT (z67U1 k)) (u := 0) (z67u0_k k))) (AllU.no (by kernel_rfl)))))) (AllU.no (by kernel_rfl))))) (fn := Tryd.f78) (by kernel_rfl) (by kernel_rfl) (fun d => by kernel_rfl) FU_nil
noncomputable def T67 (k : Nat) : List (Nat × Ent) := (78, ⟨z67_e k⟩) :: T66 k
theorem T67_ok (k : Nat) : TabOK P GL (T67 k) := (T66_ok k).cons (z67_fu k) (z67_n k)
/-! ### overspill.tcoef.escaped -/
noncomputable def z68U0 (_ : Nat) : List (Nat × Ent) := []
theorem z68U0_k (k : Nat) : UTab (z68U0 k) := UTab.nil
noncomputable def z68u0d : UDef := ⟨[(6, none), (20, none)], [6, 21, 22], [(.normal, [(6, none)])], []⟩
noncomputable def z68u0p : XPat := ⟨.normal, [(.tv (.int .i64)), (.tv .bool)], []⟩
noncomputable def z68u0x : List XPat := [⟨.normal, [(.tv (.int .i64))], []⟩]
noncomputable def tcoef_escapedu0 (k : Nat) (x0 : Int) (x1 : Bool) : Option (Int) :=
  bif x1 then
    some (wr .i64 (x0 - 256))
  else
  some x0
noncomputable def z68u0b : AC :=
  (.cond (.t 20)
  (.region [(iO 21 (.mv (.t 6))),
      (iO 22 (.bin .sub (.t 21) (nI 256))),
      (iO 6 (.mv (.t 22)))])
  .skip)
noncomputable def z68u0t (k : Nat) (d : z68u0p.D) : Option (XD z68u0x) := tcoef_escapedu0 k d.1 d.2
theorem z68u0_k (k : Nat) : UOK P GL (mkU z68u0p z68u0x (z68u0t k) nilU) z68u0d false z68u0b :=
  unit_typed (ud := z68u0d) (body := z68u0b) (uorc := uorT (z68U0 k)) hmo (T67_ok k).oo (z68U0_k k) (AllU.no (by kernel_rfl)) (fun d => by kernel_rfl)
noncomputable def z68U1 (k : Nat) : List (Nat × Ent) := (0, ⟨mkU z68u0p z68u0x (z68u0t k) nilU⟩) :: z68U0 k
theorem z68U1_k (k : Nat) : UTab (z68U1 k) := (z68U0_k k).cons (mkU_nat nilU_nat)
noncomputable def tcoef_escaped (k : Nat) (x0 : DReader) : Option (((DEvent) × ((Int) × (Unit))) × (DReader)) :=
  Option.bind (inbits_Reader_Take k 15 x0) fun (v288 : ((Int) × ((Int) × (Unit))) × (DReader)) =>
  bif (!(decide (v288.1.2.1 = 0))) then
    some (((false, (0, (0, ()))), (v288.1.2.1, ())), v288.2)
  else
  Option.bind (tcoef_escapedu0 k (Int.tmod v288.1.1 256) (decide ((128 : Int) ≤ (Int.tmod v288.1.1 256)))) fun (v289 : Int) =>
  Option.bind (tcoef_Right k ((decide ((shrI .i64 v288.1.1 14) = 1)), ((bitop .and .i64 (shrI .i64 v288.1.1 8) 63), (v289, ())))) fun (v290 : Bool) =>
  bif (!v290) then
    some (((false, (0, (0, ()))), (7, ())), v288.2)
  else
  Option.bind (tcoef_place k (decide ((shrI .i64 v288.1.1 14) = 1)) (bitop .and .i64 (shrI .i64 v288.1.1 8) 63) (mxI v289 (wr .i64 (0 - v289)))) fun (v291 : Int) =>
  bif (decide ((0 : Int) ≤ v291)) then
    some (((false, (0, (0, ()))), (7, ())), v288.2)
  else
  some ((((decide ((shrI .i64 v288.1.1 14) = 1)), ((bitop .and .i64 (shrI .i64 v288.1.1 8) 63), (v289, ()))), (0, ())), v288.2)
noncomputable def z68b : AC :=
  (.seq (.region [(iO 2 (.alloc 78 (.tv YEvent))),
    (iO 3 (.mv (nI 0)))])
  (.seq (.region [(iO 9 (.mv (.t 0))),
    (iC 10 72 [((.t 9), none), ((nI 15), none)]),
    (iO 8 (.mv (.t 10))),
    (iO 11 (.ext (.t 8) 0)),
    (iO 12 (.ext (.t 8) 1)),
    (iO 4 (.mv (.t 11))),
    (iO 5 (.mv (.t 12)))])
  (.seq (.seq (.region [(iO 13 (.mv (.t 5))),
    (iO 14 (.bin .neq (.t 13) (nI 0)))])
  (.cond (.t 14)
  (.seq (.region [(iO 15 (.build 78 (.tv YEvent) [])),
      (iO 16 (.mv (.t 5))),
      (iS (.store 3 none (.t 2) (.t 15))),
      (iO 3 (.mv (.t 16)))])
    .ret)
  .skip))
  (.seq (.region [(iO 17 (.mv (.t 4))),
    (iO 18 (.bin .rem (.t 17) (nI 256))),
    (iO 6 (.mv (.t 18)))])
  (.seq (.seq (.region [(iO 19 (.mv (.t 6))),
    (iO 20 (.bin .geq (.t 19) (nI 128)))])
  (.unit 0 z68u0d false z68u0b))
  (.seq (.region [(iO 23 (.mv (.t 4))),
    (iO 24 (.bin .shr (.t 23) (.c (.tv (.int .u64) (14 : Int))))),
    (iO 25 (.bin .eql (.t 24) (nI 1))),
    (iO 26 (.mv (.t 4))),
    (iO 27 (.bin .shr (.t 26) (.c (.tv (.int .u64) (8 : Int))))),
    (iO 28 (.bin .and (.t 27) (nI 63))),
    (iO 29 (.mv (.t 6))),
    (iO 30 (.build 78 (.tv YEvent) [(0, (.fld 0 0), 1, (.t 25)), (1, (.fld 1 1), 1, (.t 28)), (2, (.fld 2 2), 1, (.t 29))])),
    (iO 7 (.alloc 78 (.tv YEvent))),
    (iS (.store 3 none (.t 7) (.t 30)))])
  (.seq (.seq (.region [(iO 31 (.load true 3 (.t 7))),
    (iC 32 92 [((.t 31), some YEvent)]),
    (iO 33 (.un .not (.t 32))),
    (iO 34 (.mv (.t 33))),
    ⟨some 35, some (3, 34, false), (.op (.fad 0 0 (.t 7))), []⟩,
    ⟨some 36, some (3, 34, false), (.op (.load false 1 (.t 35))), []⟩,
    ⟨some 37, some (3, 34, false), (.op (.fad 1 1 (.t 7))), []⟩,
    ⟨some 38, some (3, 34, false), (.op (.load false 1 (.t 37))), []⟩,
    ⟨some 39, some (3, 34, false), (.op (.mv (.t 6))), []⟩,
    ⟨some 40, some (3, 34, false), (.op (.mv (.t 6))), []⟩,
    ⟨some 41, some (3, 34, false), (.op (.un .neg (.t 40))), []⟩,
    ⟨some 42, some (3, 34, false), (.op (.mx (.t 39) (.t 41))), []⟩,
    ⟨some 43, some (3, 34, false), (.call (.c (.fn 93 .nil .nil)) [((.t 36), none), ((.t 38), none), ((.t 42), none)]), []⟩,
    ⟨some 44, some (3, 34, false), (.op (.bin .geq (.t 43) (nI 0))), []⟩,
    (iO 45 (.pick (.t 34) (.c (.tv .bool (true : Bool))) (.t 44)))])
  (.cond (.t 45)
  (.seq (.region [(iO 46 (.build 78 (.tv YEvent) [])),
      (iS (.store 3 none (.t 2) (.t 46))),
      (iO 3 (.mv (nI 7)))])
    .ret)
  .skip))
  (.seq (.region [(iO 47 (.load true 3 (.t 7))),
    (iS (.store 3 none (.t 2) (.t 47))),
    (iO 3 (.mv (nI 0)))])
  .ret))))))))
noncomputable def z68f : FDef := ⟨1, 48, [.cell 2 3 true (some YEvent), .tmp 3 none], z68b⟩
noncomputable def z68p : XPat := ⟨.normal, [(.ptr 0 [])], [(.box (.tv YReader))]⟩
noncomputable def z68x : List XPat := [⟨.ret, [(.tup (.cons (.tv YEvent) (.cons (.tv (.int .i64)) .nil)))], [(.box (.tv YReader))]⟩]
noncomputable def z68t (k : Nat) (d : z68p.D) : Option (XD z68x) := tcoef_escaped k d.2
noncomputable def z68_e (k : Nat) : UEntry := mkU z68p z68x (z68t k) nilU
theorem z68_n (k : Nat) : UNat (z68_e k) := mkU_nat nilU_nat
theorem z68_fu (k : Nat) : FU P GL 109 (z68_e k) :=
  fn_typed (uorc := uorT (z68U1 k)) hmo (T67_ok k).oo (z68U1_k k) (fd := z68f) (AllU.seq (AllU.no (by kernel_rfl)) (AllU.seq (AllU.no (by kernel_rfl)) (AllU.seq (AllU.no (by kernel_rfl)) (AllU.seq (AllU.no (by kernel_rfl)) (AllU.seq (AllU.seq (AllU.no (by kernel_rfl)) (AllU.unit (uorc := uorT (z68U1 k)) (u := 0) (z68u0_k k))) (AllU.no (by kernel_rfl))))))) (fn := Tryd.f109) (by kernel_rfl) (by kernel_rfl) (fun d => by kernel_rfl) FU_nil
noncomputable def T68 (k : Nat) : List (Nat × Ent) := (109, ⟨z68_e k⟩) :: T67 k
theorem T68_ok (k : Nat) : TabOK P GL (T68 k) := (T67_ok k).cons (z68_fu k) (z68_n k)
/-! ### overspill.tcoef.find -/
noncomputable def z69U0 (_ : Nat) : List (Nat × Ent) := []
theorem z69U0_k (k : Nat) : UTab (z69U0 k) := UTab.nil
noncomputable def z69u0d : UDef := ⟨[(0, none), (1, none), (6, none), (7, none)], [14, 15, 16, 17, 18, 19, 20, 21, 22, 23, 24], [(.normal, [(14, none)])], []⟩
noncomputable def z69u0p : XPat := ⟨.normal, [(.tv (.int .i64)), (.tv (.int .i64)), (.tv (.int .i64)), (.tv (.int .i64))], []⟩
noncomputable def z69u0x : List XPat := [⟨.normal, [(.tv .bool)], []⟩]
noncomputable def tcoef_findu0 (k : Nat) (x0 : Int) (x1 : Int) (x2 : Int) (x3 : Int) : Option (Bool) :=
  bif (decide (x3 = x1)) then
    bif (inR x2 102) then
      some (decide ((List.getD tbl1 (Int.toNat x2) 0) = x0))
    else
      none
  else
  some false
noncomputable def z69u0b : AC :=
  (.region [(iO 15 (.mv (.t 7))),
    (iO 16 (.mv (.t 1))),
    (iO 17 (.bin .eql (.t 15) (.t 16))),
    (iO 18 (.mv (.t 17))),
    ⟨some 19, some (3, 18, true), (.op (.mv (.t 6))), []⟩,
    ⟨some 20, some (3, 18, true), (.op (.iad 102 1 (.g 1) (.t 19))), []⟩,
    ⟨some 21, some (3, 18, true), (.op (.load false 1 (.t 20))), []⟩,
    ⟨some 22, some (3, 18, true), (.op (.mv (.t 0))), []⟩,
    ⟨some 23, some (3, 18, true), (.op (.bin .eql (.t 21) (.t 22))), []⟩,
    (iO 24 (.pick (.t 18) (.t 23) (.c (.tv .bool (false : Bool))))),
    (iO 14 (.mv (.t 24)))])
noncomputable def z69u0t (k : Nat) (d : z69u0p.D) : Option (XD z69u0x) := tcoef_findu0 k d.1 d.2.1 d.2.2.1 d.2.2.2
theorem z69u0_k (k : Nat) : UOK P GL (mkU z69u0p z69u0x (z69u0t k) nilU) z69u0d false z69u0b :=
  unit_typed (ud := z69u0d) (body := z69u0b) (uorc := uorT (z69U0 k)) hmo (T68_ok k).oo (z69U0_k k) (AllU.no (by kernel_rfl)) (fun d => by kernel_rfl)
noncomputable def z69U1 (k : Nat) : List (Nat × Ent) := (0, ⟨mkU z69u0p z69u0x (z69u0t k) nilU⟩) :: z69U0 k
theorem z69U1_k (k : Nat) : UTab (z69U1 k) := (z69U0_k k).cons (mkU_nat nilU_nat)
noncomputable def z69u1d : UDef := ⟨[(0, none), (1, none), (5, none), (8, none)], [4, 5, 6, 7, 8, 9, 10, 11, 12, 13, 14, 15, 16, 17, 18, 19, 20, 21, 22, 23, 24, 25, 26, 27, 28, 29, 30, 31, 32, 33, 34, 35, 36, 37, 38, 39, 40, 41, 42], [(.ret, [(4, none), (5, none)]), ((.exit 0), [(5, none)])], []⟩
noncomputable def z69u1p : XPat := ⟨.normal, [(.tv (.int .i64)), (.tv (.int .i64)), (.tv .bool), (.tv (.int .i64))], []⟩
noncomputable def z69u1x : List XPat := [⟨.ret, [(.tv (.int .i64)), (.tv .bool)], []⟩, ⟨(.exit 0), [(.tv .bool)], []⟩]
noncomputable def tcoef_findu1 (k : Nat) : Nat → (Int) → (Int) → (Bool) → (Int) → Option (((Int) × (Bool)) ⊕ (Bool))
  | 0, _, _, _, _ => none
  | n + 1, x0, x1, x2, x3 =>
    bif (decide (x3 < 102)) then
      bif (inR x3 102) then
        Option.bind (tcoef_findu0 k x0 x1 x3 (List.getD tbl2 (Int.toNat x3) 0)) fun (v294 : Bool) =>
        bif v294 then
          some (Sum.inl (x3, true))
        else
        bif (decide (x1 < (List.getD tbl2 (Int.toNat x3) 0))) then
          bif (inR x3 102) then
            bif (decide ((wr .u64 (wr .i64 ((List.getD tbl2 (Int.toNat x3) 0) - x1))) < 0)) then
              none
            else
            bif (decide ((shrI .i64 (List.getD tbl1 (Int.toNat x3) 0) (wr .u64 (wr .i64 ((List.getD tbl2 (Int.toNat x3) 0) - x1)))) = x0)) then
              Option.bind (tcoef_findu1 k n x0 x1 true (wr .i64 (x3 + 1))) fun r => Sum.elim (fun w => some (Sum.inl w)) (fun w => some (Sum.inr w)) r
            else
            Option.bind (tcoef_findu1 k n x0 x1 x2 (wr .i64 (x3 + 1))) fun r => Sum.elim (fun w => some (Sum.inl w)) (fun w => some (Sum.inr w)) r
          else
            none
        else
        Option.bind (tcoef_findu1 k n x0 x1 x2 (wr .i64 (x3 + 1))) fun r => Sum.elim (fun w => some (Sum.inl w)) (fun w => some (Sum.inr w)) r
      else
        none
    else
    some (Sum.inr x2)
noncomputable def z69u1b : AC :=
  (.seq (.region [(iO 9 (.bin .lss (.t 8) (nI 102)))])
  (.seq (.cond (.t 9)
  .skip
  (.exit 0))
  (.seq (.block 1 (.seq (.region [(iO 10 (.mv (.t 8))),
    (iO 6 (.mv (.t 10)))])
  (.seq (.region [(iO 11 (.mv (.t 6))),
    (iO 12 (.iad 102 1 (.g 2) (.t 11))),
    (iO 13 (.load false 1 (.t 12))),
    (iO 7 (.mv (.t 13)))])
  (.block 2 (.seq (.unit 0 z69u0d false z69u0b)
  (.cond (.t 14)
  (.seq (.region [(iO 25 (.mv (.t 6))),
      (iO 4 (.mv (.t 25))),
      (iO 5 (.mv (.c (.tv .bool (true : Bool)))))])
    .ret)
  (.seq (.region [(iO 27 (.mv (.t 7))),
      (iO 28 (.mv (.t 1))),
      (iO 29 (.bin .gtr (.t 27) (.t 28))),
      (iO 30 (.mv (.t 29))),
      ⟨some 31, some (3, 30, true), (.op (.mv (.t 6))), []⟩,
      ⟨some 32, some (3, 30, true), (.op (.iad 102 1 (.g 1) (.t 31))), []⟩,
      ⟨some 33, some (3, 30, true), (.op (.load false 1 (.t 32))), []⟩,
      ⟨some 34, some (3, 30, true), (.op (.mv (.t 7))), []⟩,
      ⟨some 35, some (3, 30, true), (.op (.mv (.t 1))), []⟩,
      ⟨some 36, some (3, 30, true), (.op (.bin .sub (.t 34) (.t 35))), []⟩,
      ⟨some 37, some (3, 30, true), (.op (.conv .u64 (.t 36))), []⟩,
      ⟨some 38, some (3, 30, true), (.op (.bin .shr (.t 33) (.t 37))), []⟩,
      ⟨some 39, some (3, 30, true), (.op (.mv (.t 0))), []⟩,
      ⟨some 40, some (3, 30, true), (.op (.bin .eql (.t 38) (.t 39))), []⟩,
      (iO 41 (.pick (.t 30) (.t 40) (.c (.tv .bool (false : Bool))))),
      (iO 26 (.mv (.t 41)))])
    (.cond (.t 26)
    (.region [(iO 5 (.mv (.c (.tv .bool (true : Bool)))))])
    .skip))))))))
  (.region [(iO 42 (.bin .add (.t 8) (nI 1))),
    (iO 8 (.mv (.t 42)))]))))
noncomputable def z69u1t (k n : Nat) (d : z69u1p.D) : Option (XD z69u1x) := tcoef_findu1 k n d.1 d.2.1 d.2.2.1 d.2.2.2
theorem z69u1_k (k : Nat) : UOK P GL (mkU z69u1p z69u1x (z69u1t k k) nilU) z69u1d true z69u1b :=
  loop_typed (ud := z69u1d) (body := z69u1b) (uorc := uorT (z69U1 k)) hmo (T68_ok k).oo (z69U1_k k) (AllU.seq (AllU.no (by kernel_rfl)) (AllU.seq (AllU.no (by kernel_rfl)) (AllU.seq (AllU.block (AllU.seq (AllU.no (by kernel_rfl)) (AllU.seq (AllU.no (by kernel_rfl)) (AllU.block (AllU.seq (AllU.unit (uorc := uorT (z69U1 k)) (u := 0) (z69u0_k k)) (AllU.no (by kernel_rfl))))))) (AllU.no (by kernel_rfl))))) (t := z69u1t k) (fun d => by kernel_rfl) (fun n d => by kernel_rfl) k
noncomputable def z69U2 (k : Nat) : List (Nat × Ent) := (1, ⟨mkU z69u1p z69u1x (z69u1t k k) nilU⟩) :: z69U1 k
theorem z69U2_k (k : Nat) : UTab (z69U2 k) := (z69U1_k k).cons (mkU_nat nilU_nat)
noncomputable def tcoef_find (k : Nat) (x0 : Int) (x1 : Int) : Option ((Int) × ((Bool) × (Unit))) :=
  Option.bind (tcoef_findu1 k k x0 x1 false 0) fun r =>
  Sum.elim (fun (v295 : (Int) × (Bool)) =>
    some (v295.1, (v295.2, ())))
    (fun (v296 : Bool) =>
    bif v296 then
      some ((-1), (true, ()))
    else
    bif (decide (x1 < 7)) then
      bif (decide ((wr .u64 (wr .i64 (7 - x1))) < 0)) then
        none
      else
      some ((-1), ((decide ((shrI .i64 3 (wr .u64 (wr .i64 (7 - x1)))) = x0)), ()))
    else
    some ((-1), (false, ()))) r
noncomputable def z69b : AC :=
  (.seq (.region [(iO 4 (.mv (nI 0))),
    (iO 5 (.mv (.c (.tv .bool (false : Bool)))))])
  (.seq (.seq (.region [(iO 8 (.mv (nI 0)))])
  (.block 0 (.unit 1 z69u1d true z69u1b)))
  (.seq (.region [(iO 43 (.mv (.t 5))),
    (iO 44 (.mv (.t 43))),
    ⟨some 45, some (1, 44, false), (.op (.mv (.t 1))), []⟩,
    ⟨some 46, some (1, 44, false), (.op (.bin .lss (.t 45) (nI 7))), []⟩,
    ⟨some 47, some (1, 44, false), (.op (.mv (.t 46))), []⟩,
    ⟨some 48, some (4, 47, true), (.op (.mv (.t 1))), []⟩,
    ⟨some 49, some (4, 47, true), (.op (.bin .sub (nI 7) (.t 48))), []⟩,
    ⟨some 50, some (4, 47, true), (.op (.conv .u64 (.t 49))), []⟩,
    ⟨some 51, some (4, 47, true), (.op (.bin .shr (nI 3) (.t 50))), []⟩,
    ⟨some 52, some (4, 47, true), (.op (.mv (.t 0))), []⟩,
    ⟨some 53, some (4, 47, true), (.op (.bin .eql (.t 51) (.t 52))), []⟩,
    ⟨some 54, some (1, 44, false), (.op (.pick (.t 47) (.t 53) (.c (.tv .bool (false : Bool))))), []⟩,
    (iO 55 (.pick (.t 44) (.c (.tv .bool (true : Bool))) (.t 54))),
    (iO 4 (.mv (nI (-1)))),
    (iO 5 (.mv (.t 55)))])
  .ret)))
noncomputable def z69f : FDef := ⟨2, 56, [.tmp 4 none, .tmp 5 none], z69b⟩
noncomputable def z69p : XPat := ⟨.normal, [(.tv (.int .i64)), (.tv (.int .i64))], []⟩
noncomputable def z69x : List XPat := [⟨.ret, [(.tup (.cons (.tv (.int .i64)) (.cons (.tv .bool) .nil)))], []⟩]
noncomputable def z69t (k : Nat) (d : z69p.D) : Option (XD z69x) := tcoef_find k d.1 d.2
noncomputable def z69_e (k : Nat) : UEntry := mkU z69p z69x (z69t k) nilU
theorem z69_n (k : Nat) : UNat (z69_e k) := mkU_nat nilU_nat
theorem z69_fu (k : Nat) : FU P GL 110 (z69_e k) :=
  fn_typed (uorc := uorT (z69U2 k)) hmo (T68_ok k).oo (z69U2_k k) (fd := z69f) (AllU.seq (AllU.no (by kernel_rfl)) (AllU.seq (AllU.seq (AllU.no (by kernel_rfl)) (AllU.block (AllU.unit (uorc := uorT (z69U2 k)) (u := 1) (z69u1_k k)))) (AllU.no (by kernel_rfl)))) (fn := Tryd.f110) (by kernel_rfl) (by kernel_rfl) (fun d => by kernel_rfl) FU_nil
noncomputable def T69 (k : Nat) : List (Nat × Ent) := (110, ⟨z69_e k⟩) :: T68 k
theorem T69_ok (k : Nat) : TabOK P GL (T69 k) := (T68_ok k).cons (z69_fu k) (z69_n k)
/-! ### overspill.tcoef.event -/
noncomputable def z70U0 (_ : Nat) : List (Nat × Ent) := []
theorem z70U0_k (k : Nat) : UTab (z70U0 k) := UTab.nil
noncomputable def z70u0d : UDef := ⟨[(0, none), (2, none), (3, none), (4, none)], [0, 3, 4, 5, 6, 7, 8, 9, 10, 11, 12, 13, 14, 15, 16, 17, 18, 19, 20, 21, 22, 23], [(.ret, [])], []⟩
noncomputable def z70u0p : XPat := ⟨.normal, [(.tv (.int .i64)), (.ptr 0 []), (.tv .bool), (.tv (.int .i64))], [(.box (.tv YEvent))]⟩
noncomputable def z70u0x : List XPat := [⟨.ret, [], [(.box (.tv YEvent))]⟩]
noncomputable def tcoef_eventu0 (k : Nat) : Nat → (Int) → (Bool) → (Int) → (DEvent) → Option ((Unit) × (DEvent))
  | 0, _, _, _, _ => none
  | n + 1, x0, x1, x2, x3 =>
    Option.bind (tcoef_many k x1 x2) fun (v300 : Int) =>
    bif (decide (v300 = 0)) then
      Option.bind (tcoef_eventu0 k n x0 true 0 x3) fun r => some r
    else
    bif (decide (x0 < v300)) then
      some ((), (x1, (x2, ((wr .i64 (x0 + 1)), ()))))
    else
    Option.bind (tcoef_eventu0 k n (wr .i64 (x0 - v300)) x1 (wr .i64 (x2 + 1)) x3) fun r => some r
noncomputable def z70u0b : AC :=
  (.seq (.block 1 (.seq (.region [(iO 8 (.mv (.t 3))),
    (iO 9 (.mv (.t 4))),
    (iC 10 104 [((.t 8), none), ((.t 9), none)]),
    (iO 5 (.mv (.t 10)))])
  (.seq (.seq (.region [(iO 11 (.mv (.t 5))),
    (iO 12 (.bin .eql (.t 11) (nI 0)))])
  (.cond (.t 12)
  (.seq (.region [(iO 3 (.mv (.c (.tv .bool (true : Bool))))),
      (iO 4 (.mv (nI (-1))))])
    (.exit 1))
  .skip))
  (.seq (.seq (.region [(iO 13 (.mv (.t 0))),
    (iO 14 (.mv (.t 5))),
    (iO 15 (.bin .lss (.t 13) (.t 14)))])
  (.cond (.t 15)
  (.seq (.region [(iO 16 (.mv (.t 3))),
      (iO 17 (.mv (.t 4))),
      (iO 18 (.mv (.t 0))),
      (iO 19 (.bin .add (.t 18) (nI 1))),
      (iO 20 (.build 78 (.tv YEvent) [(0, (.fld 0 0), 1, (.t 16)), (1, (.fld 1 1), 1, (.t 17)), (2, (.fld 2 2), 1, (.t 19))])),
      (iS (.store 3 none (.t 2) (.t 20)))])
    .ret)
  .skip))
  (.region [(iO 21 (.mv (.t 0))),
    (iO 22 (.mv (.t 5))),
    (iO 23 (.bin .sub (.t 21) (.t 22))),
    (iO 0 (.mv (.t 23)))])))))
  (.region [(iO 6 (.mv (.t 4))),
    (iO 7 (.bin .add (.t 6) (nI 1))),
    (iO 4 (.mv (.t 7)))]))
noncomputable def z70u0t (k n : Nat) (d : z70u0p.D) : Option (XD z70u0x) := tcoef_eventu0 k n d.1.1 d.1.2.2.1 d.1.2.2.2 d.2
theorem z70u0_k (k : Nat) : UOK P GL (mkU z70u0p z70u0x (z70u0t k k) nilU) z70u0d true z70u0b :=
  loop_typed (ud := z70u0d) (body := z70u0b) (uorc := uorT (z70U0 k)) hmo (T69_ok k).oo (z70U0_k k) (AllU.no (by kernel_rfl)) (t := z70u0t k) (fun d => by kernel_rfl) (fun n d => by kernel_rfl) k
noncomputable def z70U1 (k : Nat) : List (Nat × Ent) := (0, ⟨mkU z70u0p z70u0x (z70u0t k k) nilU⟩) :: z70U0 k
theorem z70U1_k (k : Nat) : UTab (z70U1 k) := (z70U0_k k).cons (mkU_nat nilU_nat)
noncomputable def tcoef_event (k : Nat) (x0 : Int) : Option (DEvent) :=
  Option.bind (tcoef_eventu0 k k x0 false 0 (false, (0, (0, ())))) fun (v301 : (Unit) × (DEvent)) =>
  some v301.2
noncomputable def z70b : AC :=
  (.seq (.region [(iO 2 (.alloc 78 (.tv YEvent)))])
  (.seq (.region [(iO 3 (.mv (.c (.tv .bool (false : Bool)))))])
  (.seq (.region [(iO 4 (.mv (nI 0)))])
  (.block 0 (.unit 0 z70u0d true z70u0b)))))
noncomputable def z70f : FDef := ⟨1, 24, [.cell 2 3 true (some YEvent)], z70b⟩
noncomputable def z70p : XPat := ⟨.normal, [(.tv (.int .i64))], []⟩
noncomputable def z70x : List XPat := [⟨.ret, [(.tv YEvent)], []⟩]
noncomputable def z70t (k : Nat) (d : z70p.D) : Option (XD z70x) := tcoef_event k d
noncomputable def z70_e (k : Nat) : UEntry := mkU z70p z70x (z70t k) nilU
theorem z70_n (k : Nat) : UNat (z70_e k) := mkU_nat nilU_nat
theorem z70_fu (k : Nat) : FU P GL 111 (z70_e k) :=
  fn_typed (uorc := uorT (z70U1 k)) hmo (T69_ok k).oo (z70U1_k k) (fd := z70f) (AllU.seq (AllU.no (by kernel_rfl)) (AllU.seq (AllU.no (by kernel_rfl)) (AllU.seq (AllU.no (by kernel_rfl)) (AllU.block (AllU.unit (uorc := uorT (z70U1 k)) (u := 0) (z70u0_k k)))))) (fn := Tryd.f111) (by kernel_rfl) (by kernel_rfl) (fun d => by kernel_rfl) FU_nil
noncomputable def T70 (k : Nat) : List (Nat × Ent) := (111, ⟨z70_e k⟩) :: T69 k
theorem T70_ok (k : Nat) : TabOK P GL (T70 k) := (T69_ok k).cons (z70_fu k) (z70_n k)
/-! ### overspill.tcoef.read -/
noncomputable def z71U0 (_ : Nat) : List (Nat × Ent) := []
theorem z71U0_k (k : Nat) : UTab (z71U0 k) := UTab.nil
noncomputable def z71u0d : UDef := ⟨[(4, none), (5, none)], [30, 31, 32, 33, 34, 35], [(.normal, [(35, none)])], []⟩
noncomputable def z71u0p : XPat := ⟨.normal, [(.tv (.int .i64)), (.tv (.int .i64))], []⟩
noncomputable def z71u0x : List XPat := [⟨.normal, [(.tv .bool)], []⟩]
noncomputable def tcoef_readu0 (k : Nat) (x0 : Int) (x1 : Int) : Option (Bool) :=
  bif (decide (x1 = 7)) then
    some (decide (x0 = 3))
  else
  some false
noncomputable def z71u0b : AC :=
  (.region [(iO 30 (.mv (.t 5))),
    (iO 31 (.bin .eql (.t 30) (nI 7))),
    (iO 32 (.mv (.t 31))),
    ⟨some 33, some (2, 32, true), (.op (.mv (.t 4))), []⟩,
    ⟨some 34, some (2, 32, true), (.op (.bin .eql (.t 33) (nI 3))), []⟩,
    (iO 35 (.pick (.t 32) (.t 34) (.c (.tv .bool (false : Bool)))))])
noncomputable def z71u0t (k : Nat) (d : z71u0p.D) : Option (XD z71u0x) := tcoef_readu0 k d.1 d.2
theorem z71u0_k (k : Nat) : UOK P GL (mkU z71u0p z71u0x (z71u0t k) nilU) z71u0d false z71u0b :=
  unit_typed (ud := z71u0d) (body := z71u0b) (uorc := uorT (z71U0 k)) hmo (T70_ok k).oo (z71U0_k k) (AllU.no (by kernel_rfl)) (fun d => by kernel_rfl)
noncomputable def z71U1 (k : Nat) : List (Nat × Ent) := (0, ⟨mkU z71u0p z71u0x (z71u0t k) nilU⟩) :: z71U0 k
theorem z71U1_k (k : Nat) : UTab (z71U1 k) := (z71U0_k k).cons (mkU_nat nilU_nat)
noncomputable def z71u1d : UDef := ⟨[(0, none), (2, none), (4, none), (5, none)], [3, 4, 5, 6, 7, 8, 9, 10, 11, 12, 13, 14, 15, 16, 17, 18, 19, 20, 21, 22, 23, 24, 25, 26, 27, 28, 29, 30, 31, 32, 33, 34, 35, 36, 37, 38, 39, 40, 41, 42, 43, 44, 45, 46, 47, 48, 49, 50, 51, 52, 53, 54, 55, 56, 57, 58, 59, 60, 61, 62, 63, 64, 65, 66, 67, 68], [(.ret, [(3, none)]), ((.exit 0), [])], []⟩
noncomputable def z71u1p : XPat := ⟨.normal, [(.ptr 0 []), (.ptr 1 []), (.tv (.int .i64)), (.tv (.int .i64))], [(.box (.tv YReader)), (.box (.tv YEvent))]⟩
noncomputable def z71u1x : List XPat := [⟨.ret, [(.tv (.int .i64))], [(.box (.tv YReader)), (.box (.tv YEvent))]⟩, ⟨(.exit 0), [], [(.box (.tv YReader)), (.box (.tv YEvent))]⟩]
noncomputable def tcoef_readu1 (k : Nat) : Nat → (Int) → (Int) → (DReader) → (DEvent) → Option (((Int) × ((DReader) × (DEvent))) ⊕ ((Unit) × ((DReader) × (DEvent))))
  | 0, _, _, _, _ => none
  | n + 1, x0, x1, x2, x3 =>
    bif (decide (x1 ≤ 12)) then
      Option.bind (inbits_Reader_Take k 1 x2) fun (v303 : ((Int) × ((Int) × (Unit))) × (DReader)) =>
      bif (!(decide (v303.1.2.1 = 0))) then
        some (Sum.inl (v303.1.2.1, (v303.2, (false, (0, (0, ()))))))
      else
      Option.bind (tcoef_readu0 k (bitop .or .i64 (shlI .i64 x0 1) v303.1.1) x1) fun (v304 : Bool) =>
      bif v304 then
        Option.bind (tcoef_escaped k v303.2) fun (v305 : ((DEvent) × ((Int) × (Unit))) × (DReader)) =>
        some (Sum.inl (v305.1.2.1, (v305.2, v305.1.1)))
      else
      Option.bind (tcoef_find k (bitop .or .i64 (shlI .i64 x0 1) v303.1.1) x1) fun (v306 : (Int) × ((Bool) × (Unit))) =>
      bif (decide ((0 : Int) ≤ v306.1)) then
        Option.bind (inbits_Reader_Take k 1 v303.2) fun (v307 : ((Int) × ((Int) × (Unit))) × (DReader)) =>
        bif (!(decide (v307.1.2.1 = 0))) then
          some (Sum.inl (v307.1.2.1, (v307.2, (false, (0, (0, ()))))))
        else
        Option.bind (tcoef_event k v306.1) fun (v308 : DEvent) =>
        some (Sum.inl (0, (v307.2, (v308.1, (v308.2.1, ((wr .i64 (v308.2.2.1 * (wr .i64 (1 - (wr .i64 (2 * v307.1.1)))))), v308.2.2.2))))))
      else
      bif (!v306.2.1) then
        some (Sum.inr ((), (v303.2, x3)))
      else
      Option.bind (tcoef_readu1 k n (bitop .or .i64 (shlI .i64 x0 1) v303.1.1) (wr .i64 (x1 + 1)) v303.2 x3) fun r => Sum.elim (fun w => some (Sum.inl w)) (fun w => some (Sum.inr w)) r
    else
    some (Sum.inr ((), (x2, x3)))
noncomputable def z71u1b : AC :=
  (.seq (.seq (.region [(iO 13 (.mv (.t 5))),
    (iO 14 (.bin .leq (.t 13) (nI 12)))])
  (.cond (.t 14)
  .skip
  (.exit 0)))
  (.seq (.block 1 (.seq (.region [(iO 18 (.mv (.t 0))),
    (iC 19 72 [((.t 18), none), ((nI 1), none)]),
    (iO 17 (.mv (.t 19))),
    (iO 20 (.ext (.t 17) 0)),
    (iO 21 (.ext (.t 17) 1)),
    (iO 6 (.mv (.t 20))),
    (iO 7 (.mv (.t 21)))])
  (.seq (.seq (.region [(iO 22 (.mv (.t 7))),
    (iO 23 (.bin .neq (.t 22) (nI 0)))])
  (.cond (.t 23)
  (.seq (.region [(iO 24 (.build 78 (.tv YEvent) [])),
      (iO 25 (.mv (.t 7))),
      (iS (.store 3 none (.t 2) (.t 24))),
      (iO 3 (.mv (.t 25)))])
    .ret)
  .skip))
  (.seq (.region [(iO 26 (.mv (.t 4))),
    (iO 27 (.bin .shl (.t 26) (.c (.tv (.int .u64) (1 : Int))))),
    (iO 28 (.mv (.t 6))),
    (iO 29 (.bin .or (.t 27) (.t 28))),
    (iO 4 (.mv (.t 29)))])
  (.seq (.seq (.unit 0 z71u0d false z71u0b)
  (.cond (.t 35)
  (.seq (.region [(iO 36 (.mv (.t 0))),
      (iC 37 109 [((.t 36), none)]),
      (iO 38 (.ext (.t 37) 0)),
      (iO 39 (.ext (.t 37) 1)),
      (iS (.store 3 none (.t 2) (.t 38))),
      (iO 3 (.mv (.t 39)))])
    .ret)
  .skip))
  (.seq (.region [(iO 41 (.mv (.t 4))),
    (iO 42 (.mv (.t 5))),
    (iC 43 110 [((.t 41), none), ((.t 42), none)]),
    (iO 40 (.mv (.t 43))),
    (iO 44 (.ext (.t 40) 0)),
    (iO 45 (.ext (.t 40) 1)),
    (iO 8 (.mv (.t 44))),
    (iO 9 (.mv (.t 45)))])
  (.seq (.seq (.region [(iO 46 (.mv (.t 8))),
    (iO 47 (.bin .geq (.t 46) (nI 0)))])
  (.cond (.t 47)
  (.seq (.region [(iO 49 (.mv (.t 0))),
      (iC 50 72 [((.t 49), none), ((nI 1), none)]),
      (iO 48 (.mv (.t 50))),
      (iO 51 (.ext (.t 48) 0)),
      (iO 52 (.ext (.t 48) 1)),
      (iO 10 (.mv (.t 51))),
      (iO 11 (.mv (.t 52)))])
    (.seq (.seq (.region [(iO 53 (.mv (.t 11))),
      (iO 54 (.bin .neq (.t 53) (nI 0)))])
    (.cond (.t 54)
    (.seq (.region [(iO 55 (.build 78 (.tv YEvent) [])),
        (iO 56 (.mv (.t 11))),
        (iS (.store 3 none (.t 2) (.t 55))),
        (iO 3 (.mv (.t 56)))])
      .ret)
    .skip))
    (.seq (.region [(iO 57 (.mv (.t 8))),
      (iC 58 111 [((.t 57), none)]),
      (iO 12 (.alloc 78 (.tv YEvent))),
      (iS (.store 3 none (.t 12) (.t 58)))])
    (.seq (.region [(iO 59 (.fad 2 2 (.t 12))),
      (iO 60 (.load false 1 (.t 59))),
      (iO 61 (.mv (.t 10))),
      (iO 62 (.bin .mul (nI 2) (.t 61))),
      (iO 63 (.bin .sub (nI 1) (.t 62))),
      (iO 64 (.bin .mul (.t 60) (.t 63))),
      (iO 65 (.fad 2 2 (.t 12))),
      (iS (.store 1 none (.t 65) (.t 64)))])
    (.seq (.region [(iO 66 (.load true 3 (.t 12))),
      (iS (.store 3 none (.t 2) (.t 66))),
      (iO 3 (.mv (nI 0)))])
    .ret)))))
  .skip))
  (.seq (.region [(iO 67 (.mv (.t 9))),
    (iO 68 (.un .not (.t 67)))])
  (.cond (.t 68)
  (.exit 0)
  .skip)))))))))
  (.region [(iO 15 (.mv (.t 5))),
    (iO 16 (.bin .add (.t 15) (nI 1))),
    (iO 5 (.mv (.t 16)))])))
noncomputable def z71u1t (k n : Nat) (d : z71u1p.D) : Option (XD z71u1x) := tcoef_readu1 k n d.1.2.2.1 d.1.2.2.2 d.2.1 d.2.2
theorem z71u1_k (k : Nat) : UOK P GL (mkU z71u1p z71u1x (z71u1t k k) nilU) z71u1d true z71u1b :=
  loop_typed (ud := z71u1d) (body := z71u1b) (uorc := uorT (z71U1 k)) hmo (T70_ok k).oo (z71U1_k k) (AllU.seq (AllU.no (by kernel_rfl)) (AllU.seq (AllU.block (AllU.seq (AllU.no (by kernel_rfl)) (AllU.seq (AllU.no (by kernel_rfl)) (AllU.seq (AllU.no (by kernel_rfl)) (AllU.seq (AllU.seq (AllU.unit (uorc := uorT (z71U1 k)) (u := 0) (z71u0_k k)) (AllU.no (by kernel_rfl))) (AllU.no (by kernel_rfl))))))) (AllU.no (by kernel_rfl)))) (t := z71u1t k) (fun d => by kernel_rfl) (fun n d => by kernel_rfl) k
noncomputable def z71U2 (k : Nat) : List (Nat × Ent) := (1, ⟨mkU z71u1p z71u1x (z71u1t k k) nilU⟩) :: z71U1 k
theorem z71U2_k (k : Nat) : UTab (z71U2 k) := (z71U1_k k).cons (mkU_nat nilU_nat)
noncomputable def tcoef_read (k : Nat) (x0 : DReader) : Option (((DEvent) × ((Int) × (Unit))) × (DReader)) :=
  Option.bind (tcoef_readu1 k k 0 1 x0 (false, (0, (0, ())))) fun r =>
  Sum.elim (fun (v309 : (Int) × ((DReader) × (DEvent))) =>
    some ((v309.2.2, (v309.1, ())), v309.2.1))
    (fun (v310 : (Unit) × ((DReader) × (DEvent))) =>
    some (((false, (0, (0, ()))), (3, ())), v310.2.1)) r
noncomputable def z71b : AC :=
  (.seq (.region [(iO 2 (.alloc 78 (.tv YEvent))),
    (iO 3 (.mv (nI 0)))])
  (.seq (.seq (.region [(iO 4 (.mv (nI 0))),
    (iO 5 (.mv (nI 1)))])
  (.block 0 (.unit 1 z71u1d true z71u1b)))
  (.seq (.region [(iO 69 (.build 78 (.tv YEvent) [])),
    (iS (.store 3 none (.t 2) (.t 69))),
    (iO 3 (.mv (nI 3)))])
  .ret)))
noncomputable def z71f : FDef := ⟨1, 70, [.cell 2 3 true (some YEvent), .tmp 3 none], z71b⟩
noncomputable def z71p : XPat := ⟨.normal, [(.ptr 0 [])], [(.box (.tv YReader))]⟩
noncomputable def z71x : List XPat := [⟨.ret, [(.tup (.cons (.tv YEvent) (.cons (.tv (.int .i64)) .nil)))], [(.box (.tv YReader))]⟩]
noncomputable def z71t (k : Nat) (d : z71p.D) : Option (XD z71x) := tcoef_read k d.2
noncomputable def z71_e (k : Nat) : UEntry := mkU z71p z71x (z71t k) nilU
theorem z71_n (k : Nat) : UNat (z71_e k) := mkU_nat nilU_nat
theorem z71_fu (k : Nat) : FU P GL 106 (z71_e k) :=
  fn_typed (uorc := uorT (z71U2 k)) hmo (T70_ok k).oo (z71U2_k k) (fd := z71f) (AllU.seq (AllU.no (by kernel_rfl)) (AllU.seq (AllU.seq (AllU.no (by kernel_rfl)) (AllU.block (AllU.unit (uorc := uorT (z71U2 k)) (u := 1) (z71u1_k k)))) (AllU.no (by kernel_rfl)))) (fn := Tryd.f106) (by kernel_rfl) (by kernel_rfl) (fun d => by kernel_rfl) FU_nil
noncomputable def T71 (k : Nat) : List (Nat × Ent) := (106, ⟨z71_e k⟩) :: T70 k
theorem T71_ok (k : Nat) : TabOK P GL (T71 k) := (T70_ok k).cons (z71_fu k) (z71_n k)
/-! ### overspill.tcoef.Take -/
noncomputable def z72U0 (_ : Nat) : List (Nat × Ent) := []
theorem z72U0_k (k : Nat) : UTab (z72U0 k) := UTab.nil
noncomputable def tcoef_Take (k : Nat) (x0 : DReader) : Option (((DEvent) × ((Int) × (Unit))) × (DReader)) :=
  Option.bind (inbits_Reader_At k x0) fun (v285 : (Int) × (DReader)) =>
  Option.bind (tcoef_read k v285.2) fun (v311 : ((DEvent) × ((Int) × (Unit))) × (DReader)) =>
  bif (!(decide (v311.1.2.1 = 0))) then
    Option.bind (inbits_Reader_Seek k v285.1 v311.2) fun (v312 : (Int) × (DReader)) =>
    some ((v311.1.1, (v311.1.2.1, ())), v312.2)
  else
  some ((v311.1.1, (v311.1.2.1, ())), v311.2)
noncomputable def z72b : AC :=
  (.seq (.region [(iO 2 (.alloc 78 (.tv YEvent))),
    (iO 3 (.mv (nI 0)))])
  (.seq (.seq (.region [(iO 7 (.mv (.t 0))),
    (iO 8 (.eqp false (.t 7) (.c .nilp)))])
  (.cond (.t 8)
  (.seq (.region [(iO 9 .bad),
      (iS .bad),
      (iO 3 .bad)])
    .ret)
  .skip))
  (.seq (.region [(iO 10 (.mv (.t 0))),
    (iC 11 14 [((.t 10), none)]),
    (iO 4 (.mv (.t 11)))])
  (.seq (.region [(iO 13 (.mv (.t 0))),
    (iC 14 106 [((.t 13), none)]),
    (iO 12 (.mv (.t 14))),
    (iO 15 (.ext (.t 12) 0)),
    (iO 16 (.ext (.t 12) 1)),
    (iO 5 (.alloc 78 (.tv YEvent))),
    (iS (.store 3 none (.t 5) (.t 15))),
    (iO 6 (.mv (.t 16)))])
  (.seq (.seq (.region [(iO 17 (.mv (.t 6))),
    (iO 18 (.bin .neq (.t 17) (nI 0)))])
  (.cond (.t 18)
  (.region [(iO 19 (.mv (.t 0))),
      (iO 20 (.mv (.t 4))),
      (iC 21 8 [((.t 19), none), ((.t 20), none)])])
  .skip))
  (.seq (.region [(iO 22 (.load true 3 (.t 5))),
    (iO 23 (.mv (.t 6))),
    (iS (.store 3 none (.t 2) (.t 22))),
    (iO 3 (.mv (.t 23)))])
  .ret))))))
noncomputable def z72f : FDef := ⟨1, 24, [.cell 2 3 true (some YEvent), .tmp 3 none], z72b⟩
noncomputable def z72p : XPat := ⟨.normal, [(.ptr 0 [])], [(.box (.tv YReader))]⟩
noncomputable def z72x : List XPat := [⟨.ret, [(.tup (.cons (.tv YEvent) (.cons (.tv (.int .i64)) .nil)))], [(.box (.tv YReader))]⟩]
noncomputable def z72t (k : Nat) (d : z72p.D) : Option (XD z72x) := tcoef_Take k d.2
noncomputable def z72_e (k : Nat) : UEntry := mkU z72p z72x (z72t k) nilU
theorem z72_n (k : Nat) : UNat (z72_e k) := mkU_nat nilU_nat
theorem z72_fu (k : Nat) : FU P GL 98 (z72_e k) :=
  fn_typed (uorc := uorT (z72U0 k)) hmo (T71_ok k).oo (z72U0_k k) (fd := z72f) (AllU.no (by kernel_rfl)) (fn := Tryd.f98) (by kernel_rfl) (by kernel_rfl) (fun d => by kernel_rfl) FU_nil
noncomputable def T72 (k : Nat) : List (Nat × Ent) := (98, ⟨z72_e k⟩) :: T71 k
theorem T72_ok (k : Nat) : TabOK P GL (T72 k) := (T71_ok k).cons (z72_fu k) (z72_n k)
/-! ### overspill.blocks.events -/
noncomputable def z73U0 (_ : Nat) : List (Nat × Ent) := []
theorem z73U0_k (k : Nat) : UTab (z73U0 k) := UTab.nil
noncomputable def z73u0d : UDef := ⟨[(0, none), (1, none), (6, none)], [1, 4, 5, 6, 7, 8, 9, 10, 11, 12, 13, 14, 15, 16, 17, 18, 19, 20, 21, 22, 23, 24, 25, 26, 27, 28, 29], [(.ret, [(4, none), (5, none), (6, none)]), ((.exit 0), [(6, none)])], []⟩
noncomputable def z73u0p : XPat := ⟨.normal, [(.ptr 0 []), (.tv (.int .i64)), (.row 1)], [(.box (.tv YReader)), (.row YEvent false)]⟩
noncomputable def z73u0x : List XPat := [⟨.ret, [(.row 1), (.tv (.int .i64)), (.row 2)], [(.box (.tv YReader)), (.row YEvent false), (.row YEvent false)]⟩, ⟨(.exit 0), [(.row 1)], [(.box (.tv YReader)), (.row YEvent false)]⟩]
noncomputable def blocks_eventsu0 (k : Nat) : Nat → (Int) → (DReader) → (List (DEvent)) → Option ((((Unit) × ((Int) × (Unit))) × ((DReader) × ((List (DEvent)) × (List (DEvent))))) ⊕ ((Unit) × ((DReader) × (List (DEvent)))))
  | 0, _, _, _ => none
  | n + 1, x0, x1, x2 =>
    Option.bind (tcoef_Take k x1) fun (v314 : ((DEvent) × ((Int) × (Unit))) × (DReader)) =>
    bif (!(decide (v314.1.2.1 = 0))) then
      some (Sum.inl (((), (v314.1.2.1, ())), (v314.2, (([] : List (DEvent)), x2))))
    else
    bif (decide ((64 : Int) < (wr .i64 (x0 + (wr .i64 (v314.1.1.2.1 + 1)))))) then
      some (Sum.inl (((), (7, ())), (v314.2, (([] : List (DEvent)), x2))))
    else
    bif (decide ((List.length x2) + 1 ≤ rowMax)) then
      bif v314.1.1.1 then
        some (Sum.inr ((), (v314.2, (x2 ++ ([v314.1.1] : List (DEvent))))))
      else
      Option.bind (blocks_eventsu0 k n (wr .i64 (x0 + (wr .i64 (v314.1.1.2.1 + 1)))) v314.2 (x2 ++ ([v314.1.1] : List (DEvent)))) fun r => Sum.elim (fun w => some (Sum.inl w)) (fun w => some (Sum.inr w)) r
    else
      none
noncomputable def z73u0b : AC :=
  (.block 1 (.seq (.region [(iO 10 (.mv (.t 0))),
    (iC 11 98 [((.t 10), none)]),
    (iO 9 (.mv (.t 11))),
    (iO 12 (.ext (.t 9) 0)),
    (iO 13 (.ext (.t 9) 1)),
    (iO 7 (.alloc 78 (.tv YEvent))),
    (iS (.store 3 none (.t 7) (.t 12))),
    (iO 8 (.mv (.t 13)))])
  (.seq (.seq (.region [(iO 14 (.mv (.t 8))),
    (iO 15 (.bin .neq (.t 14) (nI 0)))])
  (.cond (.t 15)
  (.seq (.region [(iO 16 (.mv (.t 8))),
      (iO 4 (.nrow YEvent)),
      (iO 5 (.mv (.t 16)))])
    .ret)
  .skip))
  (.seq (.region [(iO 17 (.mv (.t 1))),
    (iO 18 (.fad 1 1 (.t 7))),
    (iO 19 (.load false 1 (.t 18))),
    (iO 20 (.bin .add (.t 19) (nI 1))),
    (iO 21 (.bin .add (.t 17) (.t 20))),
    (iO 1 (.mv (.t 21)))])
  (.seq (.seq (.region [(iO 22 (.mv (.t 1))),
    (iO 23 (.bin .gtr (.t 22) (nI 64)))])
  (.cond (.t 23)
  (.seq (.region [(iO 4 (.nrow YEvent)),
      (iO 5 (.mv (nI 7)))])
    .ret)
  .skip))
  (.seq (.region [(iO 24 (.mv (.t 6))),
    (iO 25 (.load true 3 (.t 7))),
    (iO 26 (.bslice YEvent [(.t 25)])),
    (iO 27 (.app YEvent (.t 24) (.t 26))),
    (iO 6 (.mv (.t 27)))])
  (.seq (.region [(iO 28 (.fad 0 0 (.t 7))),
    (iO 29 (.load false 1 (.t 28)))])
  (.cond (.t 29)
  (.exit 0)
  .skip))))))))
noncomputable def z73u0t (k n : Nat) (d : z73u0p.D) : Option (XD z73u0x) := blocks_eventsu0 k n d.1.2.1 d.2.1 d.2.2
theorem z73u0_k (k : Nat) : UOK P GL (mkU z73u0p z73u0x (z73u0t k k) nilU) z73u0d true z73u0b :=
  loop_typed (ud := z73u0d) (body := z73u0b) (uorc := uorT (z73U0 k)) hmo (T72_ok k).oo (z73U0_k k) (AllU.no (by kernel_rfl)) (t := z73u0t k) (fun d => by kernel_rfl) (fun n d => by kernel_rfl) k
noncomputable def z73U1 (k : Nat) : List (Nat × Ent) := (0, ⟨mkU z73u0p z73u0x (z73u0t k k) nilU⟩) :: z73U0 k
theorem z73U1_k (k : Nat) : UTab (z73U1 k) := (z73U0_k k).cons (mkU_nat nilU_nat)
noncomputable def blocks_events (k : Nat) (x0 : Int) (x1 : DReader) : Option (((List (DEvent)) × ((Int) × (Unit))) × (DReader)) :=
  Option.bind (blocks_eventsu0 k k x0 x1 ([] : List (DEvent))) fun r =>
  Sum.elim (fun (v315 : ((Unit) × ((Int) × (Unit))) × ((DReader) × ((List (DEvent)) × (List (DEvent))))) =>
    some ((v315.2.2.1, (v315.1.2.1, ())), v315.2.1))
    (fun (v316 : (Unit) × ((DReader) × (List (DEvent)))) =>
    some ((v316.2.2, (0, ())), v316.2.1)) r
noncomputable def z73b : AC :=
  (.seq (.region [(iO 4 (.nrow YEvent)),
    (iO 5 (.mv (nI 0)))])
  (.scope (.seq (.region [(iO 6 (.nrow YEvent))])
  (.seq .label
  (.seq (.block 0 (.unit 0 z73u0d true z73u0b))
  (.seq (.region [(iO 30 (.mv (.t 6))),
    (iO 4 (.mv (.t 30))),
    (iO 5 (.mv (nI 0)))])
  .ret))))))
noncomputable def z73f : FDef := ⟨2, 31, [.tmp 4 (some (.sl YEvent)), .tmp 5 none], z73b⟩
noncomputable def z73p : XPat := ⟨.normal, [(.ptr 0 []), (.tv (.int .i64))], [(.box (.tv YReader))]⟩
noncomputable def z73x : List XPat := [⟨.ret, [(.tup (.cons (.tv (.sl YEvent)) (.cons (.tv (.int .i64)) .nil)))], [(.box (.tv YReader))]⟩]
noncomputable def z73t (k : Nat) (d : z73p.D) : Option (XD z73x) := blocks_events k d.1.2 d.2
noncomputable def z73_e (k : Nat) : UEntry := mkU z73p z73x (z73t k) nilU
theorem z73_n (k : Nat) : UNat (z73_e k) := mkU_nat nilU_nat
theorem z73_fu (k : Nat) : FU P GL 79 (z73_e k) :=
  fn_typed (uorc := uorT (z73U1 k)) hmo (T72_ok k).oo (z73U1_k k) (fd := z73f) (AllU.seq (AllU.no (by kernel_rfl)) (AllU.scope (AllU.seq (AllU.no (by kernel_rfl)) (AllU.seq (AllU.no (by kernel_rfl)) (AllU.seq (AllU.block (AllU.unit (uorc := uorT (z73U1 k)) (u := 0) (z73u0_k k))) (AllU.no (by kernel_rfl))))))) (fn := Tryd.f79) (by kernel_rfl) (by kernel_rfl) (fun d => by kernel_rfl) FU_nil
noncomputable def T73 (k : Nat) : List (Nat × Ent) := (79, ⟨z73_e k⟩) :: T72 k
theorem T73_ok (k : Nat) : TabOK P GL (T73 k) := (T72_ok k).cons (z73_fu k) (z73_n k)
/-! ### overspill.blocks.Take -/
noncomputable def z74U0 (_ : Nat) : List (Nat × Ent) := []
theorem z74U0_k (k : Nat) : UTab (z74U0 k) := UTab.nil
noncomputable def z74u0d : UDef := ⟨[(0, none), (10, none), (11, none), (17, none)], [10, 11, 18, 19, 20, 21, 22], [(.normal, [(10, none), (11, none)])], []⟩
noncomputable def z74u0p : XPat := ⟨.normal, [(.ptr 0 []), (.tv (.int .i64)), (.tv (.int .i64)), (.tv .bool)], [(.box (.tv YReader))]⟩
noncomputable def z74u0x : List XPat := [⟨.normal, [(.tv (.int .i64)), (.tv (.int .i64))], [(.box (.tv YReader))]⟩]
noncomputable def blocks_Takeu0 (k : Nat) (x0 : Int) (x1 : Int) (x2 : Bool) (x3 : DReader) : Option (((Int) × (Int)) × (DReader)) :=
  bif x2 then
    Option.bind (blocks_first k x3) fun (v281 : ((Int) × ((Int) × (Unit))) × (DReader)) =>
    some ((v281.1.1, v281.1.2.1), v281.2)
  else
  some ((x0, x1), x3)
noncomputable def z74u0b : AC :=
  (.cond (.t 17)
  (.region [(iO 19 (.mv (.t 0))),
      (iC 20 78 [((.t 19), none)]),
      (iO 18 (.mv (.t 20))),
      (iO 21 (.ext (.t 18) 0)),
      (iO 22 (.ext (.t 18) 1)),
      (iO 10 (.mv (.t 21))),
      (iO 11 (.mv (.t 22)))])
  .skip)
noncomputable def z74u0t (k : Nat) (d : z74u0p.D) : Option (XD z74u0x) := blocks_Takeu0 k d.1.2.1 d.1.2.2.1 d.1.2.2.2 d.2
theorem z74u0_k (k : Nat) : UOK P GL (mkU z74u0p z74u0x (z74u0t k) nilU) z74u0d false z74u0b :=
  unit_typed (ud := z74u0d) (body := z74u0b) (uorc := uorT (z74U0 k)) hmo (T73_ok k).oo (z74U0_k k) (AllU.no (by kernel_rfl)) (fun d => by kernel_rfl)
noncomputable def z74U1 (k : Nat) : List (Nat × Ent) := (0, ⟨mkU z74u0p z74u0x (z74u0t k) nilU⟩) :: z74U0 k
theorem z74U1_k (k : Nat) : UTab (z74U1 k) := (z74U0_k k).cons (mkU_nat nilU_nat)
noncomputable def z74u1d : UDef := ⟨[(2, none), (11, none)], [23, 24, 25, 26, 27], [(.normal, [(27, none)])], []⟩
noncomputable def z74u1p : XPat := ⟨.normal, [(.tv .bool), (.tv (.int .i64))], []⟩
noncomputable def z74u1x : List XPat := [⟨.normal, [(.tv .bool)], []⟩]
noncomputable def blocks_Takeu1 (k : Nat) (x0 : Bool) (x1 : Int) : Option (Bool) :=
  bif (decide (x1 = 0)) then
    some x0
  else
  some false
noncomputable def z74u1b : AC :=
  (.region [(iO 23 (.mv (.t 11))),
    (iO 24 (.bin .eql (.t 23) (nI 0))),
    (iO 25 (.mv (.t 24))),
    ⟨some 26, some (2, 25, true), (.op (.mv (.t 2))), []⟩,
    (iO 27 (.pick (.t 25) (.t 26) (.c (.tv .bool (false : Bool)))))])
noncomputable def z74u1t (k : Nat) (d : z74u1p.D) : Option (XD z74u1x) := blocks_Takeu1 k d.1 d.2
theorem z74u1_k (k : Nat) : UOK P GL (mkU z74u1p z74u1x (z74u1t k) nilU) z74u1d false z74u1b :=
  unit_typed (ud := z74u1d) (body := z74u1b) (uorc := uorT (z74U1 k)) hmo (T73_ok k).oo (z74U1_k k) (AllU.no (by kernel_rfl)) (fun d => by kernel_rfl)
noncomputable def z74U2 (k : Nat) : List (Nat × Ent) := (1, ⟨mkU z74u1p z74u1x (z74u1t k) nilU⟩) :: z74U1 k
theorem z74U2_k (k : Nat) : UTab (z74U2 k) := (z74U1_k k).cons (mkU_nat nilU_nat)
noncomputable def z74u2d : UDef := ⟨[(0, none), (1, none), (11, none), (12, none), (27, none)], [11, 12, 28, 29, 30, 31, 32, 33, 34], [(.normal, [(11, none), (12, none)])], []⟩
noncomputable def z74u2p : XPat := ⟨.normal, [(.ptr 0 []), (.tv .bool), (.tv (.int .i64)), (.tv (.sl YEvent)), (.tv .bool)], [(.box (.tv YReader))]⟩
noncomputable def z74u2x : List XPat := [⟨.normal, [(.tv (.int .i64)), (.tv (.sl YEvent))], [(.box (.tv YReader))]⟩]
noncomputable def blocks_Takeu2 (k : Nat) (x0 : Bool) (x1 : Int) (x2 : List (DEvent)) (x3 : Bool) (x4 : DReader) : Option (((Int) × (List (DEvent))) × (DReader)) :=
  bif x3 then
    Option.bind (blocks_from k x0) fun (v318 : Int) =>
    Option.bind (blocks_events k v318 x4) fun (v319 : ((List (DEvent)) × ((Int) × (Unit))) × (DReader)) =>
    some ((v319.1.2.1, v319.1.1), v319.2)
  else
  some ((x1, x2), x4)
noncomputable def z74u2b : AC :=
  (.cond (.t 27)
  (.region [(iO 29 (.mv (.t 0))),
      (iO 30 (.mv (.t 1))),
      (iC 31 80 [((.t 30), none)]),
      (iC 32 79 [((.t 29), none), ((.t 31), none)]),
      (iO 28 (.mv (.t 32))),
      (iO 33 (.ext (.t 28) 0)),
      (iO 34 (.ext (.t 28) 1)),
      (iO 12 (.mv (.t 33))),
      (iO 11 (.mv (.t 34)))])
  .skip)
noncomputable def z74u2t (k : Nat) (d : z74u2p.D) : Option (XD z74u2x) := blocks_Takeu2 k d.1.2.1 d.1.2.2.1 d.1.2.2.2.1 d.1.2.2.2.2 d.2
theorem z74u2_k (k : Nat) : UOK P GL (mkU z74u2p z74u2x (z74u2t k) nilU) z74u2d false z74u2b :=
  unit_typed (ud := z74u2d) (body := z74u2b) (uorc := uorT (z74U2 k)) hmo (T73_ok k).oo (z74U2_k k) (AllU.no (by kernel_rfl)) (fun d => by kernel_rfl)
noncomputable def z74U3 (k : Nat) : List (Nat × Ent) := (2, ⟨mkU z74u2p z74u2x (z74u2t k) nilU⟩) :: z74U2 k
theorem z74U3_k (k : Nat) : UTab (z74U3 k) := (z74U2_k k).cons (mkU_nat nilU_nat)
noncomputable def blocks_Take (k : Nat) (x0 : Bool) (x1 : Bool) (x2 : DReader) : Option (((Int) × ((List (DEvent)) × ((Int) × (Unit)))) × (DReader)) :=
  Option.bind (inbits_Reader_At k x2) fun (v277 : (Int) × (DReader)) =>
  Option.bind (blocks_Takeu0 k 0 0 x0 v277.2) fun (v282 : ((Int) × (Int)) × (DReader)) =>
  Option.bind (blocks_Takeu1 k x1 v282.1.2) fun (v283 : Bool) =>
  Option.bind (blocks_Takeu2 k x0 v282.1.2 ([] : List (DEvent)) v283 v282.2) fun (v320 : ((Int) × (List (DEvent))) × (DReader)) =>
  bif (!(decide (v320.1.1 = 0))) then
    Option.bind (inbits_Reader_Seek k v277.1 v320.2) fun (v321 : (Int) × (DReader)) =>
    some ((0, (([] : List (DEvent)), (v320.1.1, ()))), v321.2)
  else
  some ((v282.1.1, (v320.1.2, (0, ()))), v320.2)
noncomputable def z74b : AC :=
  (.seq (.region [(iO 6 (.mv (nI 0))),
    (iO 7 (.mv (.c (.tv (.sl YEvent) (([] : List (DEvent)) : List (DEvent)))))),
    (iO 8 (.mv (nI 0)))])
  (.seq (.seq (.region [(iO 13 (.mv (.t 0))),
    (iO 14 (.eqp false (.t 13) (.c .nilp)))])
  (.cond (.t 14)
  (.seq (.region [(iO 6 .bad),
      (iO 7 .bad),
      (iO 8 .bad)])
    .ret)
  .skip))
  (.seq (.region [(iO 15 (.mv (.t 0))),
    (iC 16 14 [((.t 15), none)]),
    (iO 9 (.mv (.t 16))),
    (iO 10 (.mv (nI 0))),
    (iO 11 (.mv (nI 0)))])
  (.seq (.region [(iO 12 (.mv (.c (.tv (.sl YEvent) (([] : List (DEvent)) : List (DEvent))))))])
  (.seq (.seq (.region [(iO 17 (.mv (.t 1)))])
  (.unit 0 z74u0d false z74u0b))
  (.seq (.seq (.unit 1 z74u1d false z74u1b)
  (.unit 2 z74u2d false z74u2b))
  (.seq (.seq (.region [(iO 35 (.mv (.t 11))),
    (iO 36 (.bin .neq (.t 35) (nI 0)))])
  (.cond (.t 36)
  (.seq (.region [(iO 37 (.mv (.t 0))),
      (iO 38 (.mv (.t 9))),
      (iC 39 8 [((.t 37), none), ((.t 38), none)])])
    (.seq (.region [(iO 40 (.mv (.t 11))),
      (iO 6 (.mv (nI 0))),
      (iO 7 (.mv (.c (.tv (.sl YEvent) (([] : List (DEvent)) : List (DEvent)))))),
      (iO 8 (.mv (.t 40)))])
    .ret))
  .skip))
  (.seq (.region [(iO 41 (.mv (.t 10))),
    (iO 42 (.mv (.t 12))),
    (iO 6 (.mv (.t 41))),
    (iO 7 (.mv (.t 42))),
    (iO 8 (.mv (nI 0)))])
  .ret))))))))
noncomputable def z74f : FDef := ⟨3, 43, [.tmp 6 none, .tmp 7 (some (.sl YEvent)), .tmp 8 none], z74b⟩
noncomputable def z74p : XPat := ⟨.normal, [(.ptr 0 []), (.tv .bool), (.tv .bool)], [(.box (.tv YReader))]⟩
noncomputable def z74x : List XPat := [⟨.ret, [(.tup (.cons (.tv (.int .i64)) (.cons (.tv (.sl YEvent)) (.cons (.tv (.int .i64)) .nil))))], [(.box (.tv YReader))]⟩]
noncomputable def z74t (k : Nat) (d : z74p.D) : Option (XD z74x) := blocks_Take k d.1.2.1 d.1.2.2 d.2
noncomputable def z74_e (k : Nat) : UEntry := mkU z74p z74x (z74t k) nilU
theorem z74_n (k : Nat) : UNat (z74_e k) := mkU_nat nilU_nat
theorem z74_fu (k : Nat) : FU P GL 56 (z74_e k) :=
  fn_typed (uorc := uorT (z74U3 k)) hmo (T73_ok k).oo (z74U3_k k) (fd := z74f) (AllU.seq (AllU.no (by kernel_rfl)) (AllU.seq (AllU.no (by kernel_rfl)) (AllU.seq (AllU.no (by kernel_rfl)) (AllU.seq (AllU.no (by kernel_rfl)) (AllU.seq (AllU.seq (AllU.no (by kernel_rfl)) (AllU.unit (uorc := uorT (z74U3 k)) (u := 0) (z74u0_k k))) (AllU.seq (AllU.seq (AllU.unit (uorc := uorT (z74U3 k)) (u := 1) (z74u1_k k)) (AllU.unit (uorc := uorT (z74U3 k)) (u := 2) (z74u2_k k))) (AllU.no (by kernel_rfl)))))))) (fn := Tryd.f56) (by kernel_rfl) (by kernel_rfl) (fun d => by kernel_rfl) FU_nil
noncomputable def T74 (k : Nat) : List (Nat × Ent) := (56, ⟨z74_e k⟩) :: T73 k
theorem T74_ok (k : Nat) : TabOK P GL (T74 k) := (T73_ok k).cons (z74_fu k) (z74_n k)
/-! ### (*overspill.cellin.reader).body -/
noncomputable def z75U0 (_ : Nat) : List (Nat × Ent) := []
theorem z75U0_k (k : Nat) : UTab (z75U0 k) := UTab.nil
noncomputable def z75u0d : UDef := ⟨[(0, none), (1, none), (2, none), (7, none)], [6, 7, 8, 9, 10, 11, 12, 13, 14, 15, 16, 17, 18, 19, 20, 21, 22, 23, 24, 25, 26, 27, 28, 29, 30, 31, 32, 33, 34, 35, 36, 37, 38, 39, 40, 41, 42, 43, 44, 45, 46, 47, 48, 49], [(.ret, []), ((.exit 0), [])], []⟩
noncomputable def z75u0p : XPat := ⟨.normal, [(.ptr 0 []), (.ptr 2 []), (.tv (.int .i64)), (.tv (.int .i64))], [(.box (.cons (.ptr 1 []) (.cons (.tv (.int .i64)) .nil))), (.box (.tv YReader)), (.box (.tv YCell))]⟩
noncomputable def z75u0x : List XPat := [⟨.ret, [], [(.box (.cons (.ptr 1 []) (.cons (.tv (.int .i64)) .nil))), (.box (.tv YReader)), (.box (.tv YCell))]⟩, ⟨(.exit 0), [], [(.box (.cons (.ptr 1 []) (.cons (.tv (.int .i64)) .nil))), (.box (.tv YReader)), (.box (.tv YCell))]⟩]
noncomputable def cellin_reader_bodyu0 (k : Nat) : Nat → (Int) → (Int) → (Int) → (DReader) → (DCell) → Option (((Unit) × (((Unit) × ((Int) × (Unit))) × ((DReader) × (DCell)))) ⊕ ((Unit) × (((Unit) × ((Int) × (Unit))) × ((DReader) × (DCell)))))
  | 0, _, _, _, _, _ => none
  | n + 1, x0, x1, x2, x3, x4 =>
    bif (decide (x1 < 6)) then
      bif (!(decide (x2 = 0))) then
        some (Sum.inl ((), (((), (x2, ())), (x3, x4))))
      else
      Option.bind (cellin_intra k x4.2.2.1) fun (v323 : Bool) =>
      bif (decide ((wr .u64 (wr .i64 (5 - x1))) < 0)) then
        none
      else
      Option.bind (blocks_Take k v323 (decide ((bitop .and .i64 (shrI .i64 x0 (wr .u64 (wr .i64 (5 - x1)))) 1) = 1)) x3) fun (v324 : ((Int) × ((List (DEvent)) × ((Int) × (Unit)))) × (DReader)) =>
      bif (inR x1 6) then
        bif (inR x1 6) then
          Option.bind (cellin_reader_bodyu0 k n x0 (wr .i64 (x1 + 1)) v324.1.2.2.1 v324.2 (x4.1, (x4.2.1, (x4.2.2.1, (x4.2.2.2.1, (x4.2.2.2.2.1, ((List.set x4.2.2.2.2.2.1 (Int.toNat x1) v324.1.1), ((List.set x4.2.2.2.2.2.2.1 (Int.toNat x1) v324.1.2.1), x4.2.2.2.2.2.2.2)))))))) fun r => Sum.elim (fun w => some (Sum.inl w)) (fun w => some (Sum.inr w)) r
        else
          none
      else
        none
    else
    some (Sum.inr ((), (((), (x2, ())), (x3, x4))))
noncomputable def z75u0b : AC :=
  (.seq (.region [(iO 8 (.bin .lss (.t 7) (nI 6)))])
  (.seq (.cond (.t 8)
  .skip
  (.exit 0))
  (.seq (.block 1 (.seq (.region [(iO 9 (.mv (.t 7))),
    (iO 6 (.mv (.t 9)))])
  (.seq (.seq (.region [(iO 10 (.mv (.t 0))),
    (iO 11 (.nilc (.t 10))),
    (iO 12 (.fad 1 1 (.t 11))),
    (iO 13 (.load false 1 (.t 12))),
    (iO 14 (.bin .neq (.t 13) (nI 0)))])
  (.cond (.t 14)
  .ret
  .skip))
  (.draw [(iO 16 (.mv (.t 1))),
    (iO 17 (.mv (.t 6))),
    (iO 18 (.mv (.t 1))),
    (iO 19 (.mv (.t 6))),
    (iO 20 (.mv (.t 0))),
    (iO 21 (.mv (.t 0))),
    (iOa 22 (.nilc (.t 21)) [5]),
    (iOa 23 (.fad 0 0 (.t 22)) [5, 6]),
    (iOa 24 (.load false 1 (.t 23)) [5, 6, 7]),
    (iO 25 (.mv (.t 1))),
    (iOa 26 (.nilc (.t 25)) [9]),
    (iOa 27 (.fad 2 2 (.t 26)) [9, 10]),
    (iOa 28 (.load false 1 (.t 27)) [9, 10, 11]),
    (iCa 29 53 [((.t 28), none)] (rg [9, 4])),
    (iO 30 (.mv (.t 2))),
    (iO 31 (.mv (.t 6))),
    (iOa 32 (.bin .sub (nI 5) (.t 31)) [15]),
    (iOa 33 (.conv .u64 (.t 32)) [15, 16]),
    (iOa 34 (.bin .shr (.t 30) (.t 33)) (rg [14, 4])),
    (iOa 35 (.bin .and (.t 34) (nI 1)) (rg [14, 5])),
    (iOa 36 (.bin .eql (.t 35) (nI 1)) (rg [14, 6])),
    (iCa 37 56 [((.t 24), none), ((.t 29), none), ((.t 36), none)] (rg [5, 16])),
    (iOa 15 (.mv (.t 37)) (rg [5, 17])),
    (iOa 38 (.ext (.t 15) 0) (rg [5, 18])),
    (iOa 39 (.ext (.t 15) 1) (rg [5, 18])),
    (iOa 40 (.ext (.t 15) 2) (rg [5, 18])),
    (iOa 41 (.nilc (.t 16)) [0]),
    (iOa 42 (.fad 5 6 (.t 41)) [0, 26]),
    (iOa 43 (.iad 6 1 (.t 42) (.t 17)) (rg [0, 2, 5, 19, 26, 2])),
    (iSa (.store 1 none (.t 43) (.t 38)) (rg [0, 2, 5, 19, 26, 3])),
    (iOa 44 (.nilc (.t 18)) [2]),
    (iOa 45 (.fad 6 12 (.t 44)) [2, 30]),
    (iOa 46 (.iad 6 1 (.t 45) (.t 19)) (rg [0, 4, 5, 20, 26, 6])),
    (iSa (.store 1 none (.t 46) (.t 39)) (rg [0, 4, 5, 20, 26, 7])),
    (iOa 47 (.nilc (.t 20)) (rg [0, 34])),
    (iOa 48 (.fad 1 1 (.t 47)) (rg [0, 35])),
    (iSa (.store 1 none (.t 48) (.t 40)) (rg [0, 36]))]))))
  (.region [(iO 49 (.bin .add (.t 7) (nI 1))),
    (iO 7 (.mv (.t 49)))]))))
noncomputable def z75u0t (k n : Nat) (d : z75u0p.D) : Option (XD z75u0x) := cellin_reader_bodyu0 k n d.1.2.2.1 d.1.2.2.2 d.2.1.2.1 d.2.2.1 d.2.2.2
theorem z75u0_k (k : Nat) : UOK P GL (mkU z75u0p z75u0x (z75u0t k k) nilU) z75u0d true z75u0b :=
  loop_typed (ud := z75u0d) (body := z75u0b) (uorc := uorT (z75U0 k)) hmo (T74_ok k).oo (z75U0_k k) (AllU.no (by kernel_rfl)) (t := z75u0t k) (fun d => by kernel_rfl) (fun n d => by kernel_rfl) k
noncomputable def z75U1 (k : Nat) : List (Nat × Ent) := (0, ⟨mkU z75u0p z75u0x (z75u0t k k) nilU⟩) :: z75U0 k
theorem z75U1_k (k : Nat) : UTab (z75U1 k) := (z75U0_k k).cons (mkU_nat nilU_nat)
noncomputable def cellin_reader_body (k : Nat) (x0 : Int) (x1 : Int) (x2 : DReader) (x3 : DCell) : Option ((Unit) × (((Unit) × ((Int) × (Unit))) × ((DReader) × (DCell)))) :=
  Option.bind (cellin_reader_bodyu0 k k x0 0 x1 x2 x3) fun r =>
  Sum.elim (fun (v325 : (Unit) × (((Unit) × ((Int) × (Unit))) × ((DReader) × (DCell)))) =>
    some ((), (((), (v325.2.1.2.1, ())), (v325.2.2.1, v325.2.2.2))))
    (fun (v326 : (Unit) × (((Unit) × ((Int) × (Unit))) × ((DReader) × (DCell)))) =>
    some ((), (((), (v326.2.1.2.1, ())), (v326.2.2.1, v326.2.2.2)))) r
noncomputable def z75b : AC :=
  (.seq (.region [(iO 7 (.mv (nI 0)))])
  (.block 0 (.unit 0 z75u0d true z75u0b)))
noncomputable def z75f : FDef := ⟨3, 50, [], z75b⟩
noncomputable def z75p : XPat := ⟨.normal, [(.ptr 0 []), (.ptr 2 []), (.tv (.int .i64))], [(.box (.cons (.ptr 1 []) (.cons (.tv (.int .i64)) .nil))), (.box (.tv YReader)), (.box (.tv YCell))]⟩
noncomputable def z75x : List XPat := [⟨.ret, [(.tup .nil)], [(.box (.cons (.ptr 1 []) (.cons (.tv (.int .i64)) .nil))), (.box (.tv YReader)), (.box (.tv YCell))]⟩]
noncomputable def z75t (k : Nat) (d : z75p.D) : Option (XD z75x) := cellin_reader_body k d.1.2.2 d.2.1.2.1 d.2.2.1 d.2.2.2
noncomputable def z75_e (k : Nat) : UEntry := mkU z75p z75x (z75t k) nilU
theorem z75_n (k : Nat) : UNat (z75_e k) := mkU_nat nilU_nat
theorem z75_fu (k : Nat) : FU P GL 26 (z75_e k) :=
  fn_typed (uorc := uorT (z75U1 k)) hmo (T74_ok k).oo (z75U1_k k) (fd := z75f) (AllU.seq (AllU.no (by kernel_rfl)) (AllU.block (AllU.unit (uorc := uorT (z75U1 k)) (u := 0) (z75u0_k k)))) (fn := Tryd.f26) (by kernel_rfl) (by kernel_rfl) (fun d => by kernel_rfl) FU_nil
noncomputable def T75 (k : Nat) : List (Nat × Ent) := (26, ⟨z75_e k⟩) :: T74 k
theorem T75_ok (k : Nat) : TabOK P GL (T75 k) := (T74_ok k).cons (z75_fu k) (z75_n k)
/-! ### overspill.cellin.Take -/
noncomputable def z76U0 (_ : Nat) : List (Nat × Ent) := []
theorem z76U0_k (k : Nat) : UTab (z76U0 k) := UTab.nil
noncomputable def z76u0d : UDef := ⟨[(5, none), (9, none), (10, none), (11, none), (28, none)], [13, 29, 30, 31, 32, 33, 34, 35, 36, 37], [(.normal, [])], []⟩
noncomputable def z76u0p : XPat := ⟨.normal, [(.ptr 0 []), (.ptr 1 []), (.ptr 3 []), (.tv (.int .i64)), (.tv .bool)], [(.box (.tv (.arr 2 (.int .i64)))), (.box (.cons (.ptr 2 []) (.cons (.tv (.int .i64)) .nil))), (.box (.tv YReader)), (.box (.tv YCell))]⟩
noncomputable def z76u0x : List XPat := [⟨.normal, [], [(.box (.tv (.arr 2 (.int .i64)))), (.box (.cons (.ptr 2 []) (.cons (.tv (.int .i64)) .nil))), (.box (.tv YReader)), (.box (.tv YCell))]⟩]
noncomputable def cellin_Takeu0 (k : Nat) (x0 : Int) (x1 : Bool) (x2 : List (Int)) (x3 : Int) (x4 : DReader) (x5 : DCell) : Option ((Unit) × ((List (Int)) × (((Unit) × ((Int) × (Unit))) × ((DReader) × (DCell))))) :=
  bif x1 then
    Option.bind (cellin_reader_middle k x2 x3 x4 x5) fun (v328 : (Int) × (((Unit) × ((Int) × (Unit))) × ((DReader) × (DCell)))) =>
    Option.bind (cellin_reader_body k (bitop .or .i64 (shlI .i64 v328.1 2) x0) v328.2.1.2.1 v328.2.2.1 v328.2.2.2) fun (v329 : (Unit) × (((Unit) × ((Int) × (Unit))) × ((DReader) × (DCell)))) =>
    some ((), (x2, (((), (v329.2.1.2.1, ())), (v329.2.2.1, v329.2.2.2))))
  else
  some ((), (x2, (((), (x3, ())), (x4, x5))))
noncomputable def z76u0b : AC :=
  (.cond (.t 28)
  (.seq (.region [(iO 29 (.mv (.t 9))),
      (iO 30 (.load true 2 (.t 5))),
      (iC 31 25 [((.t 29), none), ((.t 10), none), ((.t 30), some (.arr 2 (.int .i64)))]),
      (iO 13 (.mv (.t 31)))])
    (.region [(iO 32 (.mv (.t 9))),
      (iO 33 (.mv (.t 13))),
      (iO 34 (.bin .shl (.t 33) (.c (.tv (.int .u64) (2 : Int))))),
      (iO 35 (.mv (.t 11))),
      (iO 36 (.bin .or (.t 34) (.t 35))),
      (iC 37 26 [((.t 32), none), ((.t 10), none), ((.t 36), none)])]))
  .skip)
noncomputable def z76u0t (k : Nat) (d : z76u0p.D) : Option (XD z76u0x) := cellin_Takeu0 k d.1.2.2.2.1 d.1.2.2.2.2 d.2.1 d.2.2.1.2.1 d.2.2.2.1 d.2.2.2.2
theorem z76u0_k (k : Nat) : UOK P GL (mkU z76u0p z76u0x (z76u0t k) nilU) z76u0d false z76u0b :=
  unit_typed (ud := z76u0d) (body := z76u0b) (uorc := uorT (z76U0 k)) hmo (T75_ok k).oo (z76U0_k k) (AllU.no (by kernel_rfl)) (fun d => by kernel_rfl)
noncomputable def z76U1 (k : Nat) : List (Nat × Ent) := (0, ⟨mkU z76u0p z76u0x (z76u0t k) nilU⟩) :: z76U0 k
theorem z76U1_k (k : Nat) : UTab (z76U1 k) := (z76U0_k k).cons (mkU_nat nilU_nat)
noncomputable def cellin_Take (k : Nat) (x0 : Bool) (x1 : List (Int)) (x2 : DReader) : Option (((DCell) × ((Int) × (Unit))) × (DReader)) :=
  Option.bind (inbits_Reader_At k x2) fun (v150 : (Int) × (DReader)) =>
  Option.bind (cellin_reader_head k x0 0 v150.2 (0, (false, (0, (0, ((Ty.zero (.arr 2 (.int .i64))), ((Ty.zero (.arr 6 (.int .i64))), ((Ty.zero (.arr 6 (.sl YEvent))), ())))))))) fun (v223 : ((Int) × ((Bool) × (Unit))) × (((Unit) × ((Int) × (Unit))) × ((DReader) × (DCell)))) =>
  Option.bind (cellin_Takeu0 k v223.1.1 v223.1.2.1 x1 v223.2.1.2.1 v223.2.2.1 v223.2.2.2) fun (v330 : (Unit) × ((List (Int)) × (((Unit) × ((Int) × (Unit))) × ((DReader) × (DCell))))) =>
  bif (!(decide (v330.2.2.1.2.1 = 0))) then
    Option.bind (inbits_Reader_Seek k v150.1 v330.2.2.2.1) fun (v331 : (Int) × (DReader)) =>
    some (((0, (false, (0, (0, ((Ty.zero (.arr 2 (.int .i64))), ((Ty.zero (.arr 6 (.int .i64))), ((Ty.zero (.arr 6 (.sl YEvent))), ()))))))), (v330.2.2.1.2.1, ())), v331.2)
  else
  some ((v330.2.2.2.2, (0, ())), v330.2.2.2.1)
noncomputable def z76b : AC :=
  (.seq (.region [(iO 5 (.box (.t 2))),
    (iO 6 (.alloc 34 (.tv YCell))),
    (iO 7 (.mv (nI 0)))])
  (.seq (.seq (.region [(iO 14 (.mv (.t 0))),
    (iO 15 (.eqp false (.t 14) (.c .nilp)))])
  (.cond (.t 15)
  (.seq (.region [(iO 16 .bad),
      (iS .bad),
      (iO 7 .bad)])
    .ret)
  .skip))
  (.seq (.region [(iO 17 (.mv (.t 0))),
    (iC 18 14 [((.t 17), none)]),
    (iO 8 (.mv (.t 18)))])
  (.seq (.region [(iO 19 (.mv (.t 0))),
    (iO 20 (.build 58 (.cons .nilp (.cons (.tv (.int .i64)) .nil)) [(0, (.fld 0 0), 1, (.t 19))])),
    (iO 21 (.box (.t 20))),
    (iO 9 (.mv (.t 21)))])
  (.seq (.region [(iO 10 (.alloc 34 (.tv YCell)))])
  (.seq (.seq (.region [(iO 23 (.mv (.t 9))),
    (iO 24 (.mv (.t 1))),
    (iC 25 24 [((.t 23), none), ((.t 24), none), ((.t 10), none)]),
    (iO 22 (.mv (.t 25))),
    (iO 26 (.ext (.t 22) 0)),
    (iO 27 (.ext (.t 22) 1)),
    (iO 11 (.mv (.t 26))),
    (iO 12 (.mv (.t 27)))])
  (.seq (.region [(iO 28 (.mv (.t 12)))])
  (.unit 0 z76u0d false z76u0b)))
  (.seq (.seq (.region [(iO 38 (.mv (.t 9))),
    (iO 39 (.nilc (.t 38))),
    (iO 40 (.fad 1 1 (.t 39))),
    (iO 41 (.load false 1 (.t 40))),
    (iO 42 (.bin .neq (.t 41) (nI 0)))])
  (.cond (.t 42)
  (.seq (.region [(iO 43 (.mv (.t 0))),
      (iO 44 (.mv (.t 8))),
      (iC 45 8 [((.t 43), none), ((.t 44), none)])])
    (.seq (.draw [(iO 46 (.build 34 (.tv YCell) [])),
      (iO 47 (.mv (.t 9))),
      (iOa 48 (.nilc (.t 47)) [1]),
      (iOa 49 (.fad 1 1 (.t 48)) [1, 2]),
      (iOa 50 (.load false 1 (.t 49)) [1, 2, 3]),
      (iSa (.store 18 none (.t 6) (.t 46)) [0]),
      (iOa 7 (.mv (.t 50)) (rg [0, 6]))])
    .ret))
  .skip))
  (.seq (.region [(iO 51 (.load true 18 (.t 10))),
    (iS (.store 18 none (.t 6) (.t 51))),
    (iO 7 (.mv (nI 0)))])
  .ret))))))))
noncomputable def z76f : FDef := ⟨3, 52, [.cell 6 18 true (some YCell), .tmp 7 none], z76b⟩
noncomputable def z76p : XPat := ⟨.normal, [(.ptr 0 []), (.tv .bool), (.tv (.arr 2 (.int .i64)))], [(.box (.tv YReader))]⟩
noncomputable def z76x : List XPat := [⟨.ret, [(.tup (.cons (.tv YCell) (.cons (.tv (.int .i64)) .nil)))], [(.box (.tv YReader))]⟩]
noncomputable def z76t (k : Nat) (d : z76p.D) : Option (XD z76x) := cellin_Take k d.1.2.1 d.1.2.2 d.2
noncomputable def z76_e (k : Nat) : UEntry := mkU z76p z76x (z76t k) nilU
theorem z76_n (k : Nat) : UNat (z76_e k) := mkU_nat nilU_nat
theorem z76_fu (k : Nat) : FU P GL 10 (z76_e k) :=
  fn_typed (uorc := uorT (z76U1 k)) hmo (T75_ok k).oo (z76U1_k k) (fd := z76f) (AllU.seq (AllU.no (by kernel_rfl)) (AllU.seq (AllU.no (by kernel_rfl)) (AllU.seq (AllU.no (by kernel_rfl)) (AllU.seq (AllU.no (by kernel_rfl)) (AllU.seq (AllU.no (by kernel_rfl)) (AllU.seq (AllU.seq (AllU.no (by kernel_rfl)) (AllU.seq (AllU.no (by kernel_rfl)) (AllU.unit (uorc := uorT (z76U1 k)) (u := 0) (z76u0_k k)))) (AllU.no (by kernel_rfl)))))))) (fn := Tryd.f10) (by kernel_rfl) (by kernel_rfl) (fun d => by kernel_rfl) FU_nil
noncomputable def T76 (k : Nat) : List (Nat × Ent) := (10, ⟨z76_e k⟩) :: T75 k
theorem T76_ok (k : Nat) : TabOK P GL (T76 k) := (T75_ok k).cons (z76_fu k) (z76_n k)
/-! ### overspill.overspillref02.Row -/
noncomputable def z77U0 (_ : Nat) : List (Nat × Ent) := []
theorem z77U0_k (k : Nat) : UTab (z77U0 k) := UTab.nil
noncomputable def z77u0d : UDef := ⟨[(0, none), (1, none), (5, none), (6, none)], [0, 5, 6, 7, 8, 9, 10, 11, 12, 13, 14, 15, 16, 17, 18, 19, 20, 21], [((.exit 0), [(5, none)])], []⟩
noncomputable def z77u0p : XPat := ⟨.normal, [(.tv (.int .i64)), (.tv (.int .i64)), (.tv .str), (.tv (.int .i64))], []⟩
noncomputable def z77u0x : List XPat := [⟨(.exit 0), [(.tv .str)], []⟩]
noncomputable def overspillref02_Rowu0 (k : Nat) : Nat → (Int) → (Int) → (List UInt8) → (Int) → Option (List UInt8)
  | 0, _, _, _, _ => none
  | n + 1, x0, x1, x2, x3 =>
    bif (decide (x3 < x1)) then
      bif (decide ((0 : Int) ≤ (Int.tmod x0 2) ∧ (Int.tmod x0 2) ≤ (wr .i64 ((Int.tmod x0 2) + 1)) ∧ (wr .i64 ((Int.tmod x0 2) + 1)) ≤ ((2 : Nat) : Int))) then
        bif (decide ((List.length (List.drop (Int.toNat (Int.tmod x0 2)) (List.take (Int.toNat (wr .i64 ((Int.tmod x0 2) + 1))) ([48, 49] : List UInt8)))) + (List.length x2) ≤ strMax)) then
          Option.bind (overspillref02_Rowu0 k n (wr .i64 (Int.tdiv x0 2)) x1 ((List.drop (Int.toNat (Int.tmod x0 2)) (List.take (Int.toNat (wr .i64 ((Int.tmod x0 2) + 1))) ([48, 49] : List UInt8))) ++ x2) (wr .i64 (x3 + 1))) fun r => some r
        else
          none
      else
        none
    else
    some x2
noncomputable def z77u0b : AC :=
  (.seq (.seq (.region [(iO 7 (.mv (.t 6))),
    (iO 8 (.mv (.t 1))),
    (iO 9 (.bin .lss (.t 7) (.t 8)))])
  (.cond (.t 9)
  .skip
  (.exit 0)))
  (.seq (.block 1 (.seq (.region [(iO 12 (.mv (.t 0))),
    (iO 13 (.bin .rem (.t 12) (nI 2))),
    (iO 14 (.mv (.t 0))),
    (iO 15 (.bin .rem (.t 14) (nI 2))),
    (iO 16 (.bin .add (.t 15) (nI 1))),
    (iO 17 (.slis (.c (.tv .str (([48, 49] : List UInt8) : List UInt8))) (some (.t 13)) (some (.t 16)))),
    (iO 18 (.mv (.t 5))),
    (iO 19 (.bin .add (.t 17) (.t 18))),
    (iO 5 (.mv (.t 19)))])
  (.region [(iO 20 (.mv (.t 0))),
    (iO 21 (.bin .quo (.t 20) (nI 2))),
    (iO 0 (.mv (.t 21)))])))
  (.region [(iO 10 (.mv (.t 6))),
    (iO 11 (.bin .add (.t 10) (nI 1))),
    (iO 6 (.mv (.t 11)))])))
noncomputable def z77u0t (k n : Nat) (d : z77u0p.D) : Option (XD z77u0x) := overspillref02_Rowu0 k n d.1 d.2.1 d.2.2.1 d.2.2.2
theorem z77u0_k (k : Nat) : UOK P GL (mkU z77u0p z77u0x (z77u0t k k) nilU) z77u0d true z77u0b :=
  loop_typed (ud := z77u0d) (body := z77u0b) (uorc := uorT (z77U0 k)) hmo (T76_ok k).oo (z77U0_k k) (AllU.no (by kernel_rfl)) (t := z77u0t k) (fun d => by kernel_rfl) (fun n d => by kernel_rfl) k
noncomputable def z77U1 (k : Nat) : List (Nat × Ent) := (0, ⟨mkU z77u0p z77u0x (z77u0t k k) nilU⟩) :: z77U0 k
theorem z77U1_k (k : Nat) : UTab (z77U1 k) := (z77U0_k k).cons (mkU_nat nilU_nat)
noncomputable def overspillref02_Row (k : Nat) (x0 : Int) (x1 : Int) : Option (List UInt8) :=
  Option.bind (overspillref02_Rowu0 k k x0 x1 ([] : List UInt8) 0) fun (v344 : List UInt8) =>
  some v344
noncomputable def z77b : AC :=
  (.seq (.region [(iO 4 (.mv (.c (.tv .str (([] : List UInt8) : List UInt8)))))])
  (.seq (.region [(iO 5 (.mv (.c (.tv .str (([] : List UInt8) : List UInt8)))))])
  (.seq (.seq (.region [(iO 6 (.mv (nI 0)))])
  (.block 0 (.unit 0 z77u0d true z77u0b)))
  (.seq (.region [(iO 22 (.mv (.t 5))),
    (iO 4 (.mv (.t 22)))])
  .ret))))
noncomputable def z77f : FDef := ⟨2, 23, [.tmp 4 none], z77b⟩
noncomputable def z77p : XPat := ⟨.normal, [(.tv (.int .i64)), (.tv (.int .i64))], []⟩
noncomputable def z77x : List XPat := [⟨.ret, [(.tv .str)], []⟩]
noncomputable def z77t (k : Nat) (d : z77p.D) : Option (XD z77x) := overspillref02_Row k d.1 d.2
noncomputable def z77_e (k : Nat) : UEntry := mkU z77p z77x (z77t k) nilU
theorem z77_n (k : Nat) : UNat (z77_e k) := mkU_nat nilU_nat
theorem z77_fu (k : Nat) : FU P GL 34 (z77_e k) :=
  fn_typed (uorc := uorT (z77U1 k)) hmo (T76_ok k).oo (z77U1_k k) (fd := z77f) (AllU.seq (AllU.no (by kernel_rfl)) (AllU.seq (AllU.no (by kernel_rfl)) (AllU.seq (AllU.seq (AllU.no (by kernel_rfl)) (AllU.block (AllU.unit (uorc := uorT (z77U1 k)) (u := 0) (z77u0_k k)))) (AllU.no (by kernel_rfl))))) (fn := Tryd.f34) (by kernel_rfl) (by kernel_rfl) (fun d => by kernel_rfl) FU_nil
noncomputable def T77 (k : Nat) : List (Nat × Ent) := (34, ⟨z77_e k⟩) :: T76 k
theorem T77_ok (k : Nat) : TabOK P GL (T77 k) := (T76_ok k).cons (z77_fu k) (z77_n k)
/-! ### overspill.overspillref02.Show -/
noncomputable def z78U0 (_ : Nat) : List (Nat × Ent) := []
theorem z78U0_k (k : Nat) : UTab (z78U0 k) := UTab.nil
noncomputable def z78u0d : UDef := ⟨[(0, none), (3, none), (4, none)], [3, 4, 5, 6, 7, 8, 9, 10, 11, 12, 13, 14, 15, 16, 17], [((.exit 0), [(3, none)])], []⟩
noncomputable def z78u0p : XPat := ⟨.normal, [(.tv .str), (.row 0), (.tv (.int .i64))], [(.row (.int .u8) false)]⟩
noncomputable def z78u0x : List XPat := [⟨(.exit 0), [(.row 0)], [(.row (.int .u8) false)]⟩]
noncomputable def overspillref02_Showu0 (k : Nat) : Nat → (List UInt8) → (Int) → (List (Int)) → Option ((Unit) × (List (Int)))
  | 0, _, _, _ => none
  | n + 1, x0, x1, x2 =>
    bif (decide (x1 < ((List.length x0 : Nat) : Int))) then
      bif (inR x1 (List.length x0)) then
        Option.bind (overspillref02_Row k (wr .i64 ((UInt8.toNat (List.getD x0 (Int.toNat x1) 0) : Nat) : Int)) 8) fun (v346 : List UInt8) =>
        bif (decide ((List.length x2) + (List.length (List.map (fun (b : UInt8) => (b.toNat : Int)) v346)) ≤ rowMax)) then
          Option.bind (overspillref02_Showu0 k n x0 (wr .i64 (x1 + 1)) (x2 ++ (List.map (fun (b : UInt8) => (b.toNat : Int)) v346))) fun r => some r
        else
          none
      else
        none
    else
    some ((), x2)
noncomputable def z78u0b : AC :=
  (.seq (.seq (.region [(iO 5 (.mv (.t 4))),
    (iO 6 (.mv (.t 0))),
    (iO 7 (.lens (.t 6))),
    (iO 8 (.bin .lss (.t 5) (.t 7)))])
  (.cond (.t 8)
  .skip
  (.exit 0)))
  (.seq (.block 1 (.region [(iO 11 (.mv (.t 3))),
    (iO 12 (.mv (.t 0))),
    (iO 13 (.mv (.t 4))),
    (iO 14 (.ixs (.t 12) (.t 13))),
    (iO 15 (.conv .i64 (.t 14))),
    (iC 16 34 [((.t 15), none), ((nI 8), none)]),
    (iO 17 (.app (.int .u8) (.t 11) (.t 16))),
    (iO 3 (.mv (.t 17)))]))
  (.region [(iO 9 (.mv (.t 4))),
    (iO 10 (.bin .add (.t 9) (nI 1))),
    (iO 4 (.mv (.t 10)))])))
noncomputable def z78u0t (k n : Nat) (d : z78u0p.D) : Option (XD z78u0x) := overspillref02_Showu0 k n d.1.1 d.1.2.2 d.2
theorem z78u0_k (k : Nat) : UOK P GL (mkU z78u0p z78u0x (z78u0t k k) nilU) z78u0d true z78u0b :=
  loop_typed (ud := z78u0d) (body := z78u0b) (uorc := uorT (z78U0 k)) hmo (T77_ok k).oo (z78U0_k k) (AllU.no (by kernel_rfl)) (t := z78u0t k) (fun d => by kernel_rfl) (fun n d => by kernel_rfl) k
noncomputable def z78U1 (k : Nat) : List (Nat × Ent) := (0, ⟨mkU z78u0p z78u0x (z78u0t k k) nilU⟩) :: z78U0 k
theorem z78U1_k (k : Nat) : UTab (z78U1 k) := (z78U0_k k).cons (mkU_nat nilU_nat)
noncomputable def overspillref02_Show (k : Nat) (x0 : List UInt8) : Option (List UInt8) :=
  Option.bind (overspillref02_Showu0 k k x0 0 ([] : List (Int))) fun (v347 : (Unit) × (List (Int))) =>
  some (List.map toU8 v347.2)
noncomputable def z78b : AC :=
  (.seq (.region [(iO 2 (.mv (.c (.tv .str (([] : List UInt8) : List UInt8)))))])
  (.seq (.region [(iO 3 (.nrow (.int .u8)))])
  (.seq (.seq (.region [(iO 4 (.mv (nI 0)))])
  (.block 0 (.unit 0 z78u0d true z78u0b)))
  (.seq (.region [(iO 18 (.mv (.t 3))),
    (iO 19 (.bstr (.t 18))),
    (iO 2 (.mv (.t 19)))])
  .ret))))
noncomputable def z78f : FDef := ⟨1, 20, [.tmp 2 none], z78b⟩
noncomputable def z78p : XPat := ⟨.normal, [(.tv .str)], []⟩
noncomputable def z78x : List XPat := [⟨.ret, [(.tv .str)], []⟩]
noncomputable def z78t (k : Nat) (d : z78p.D) : Option (XD z78x) := overspillref02_Show k d
noncomputable def z78_e (k : Nat) : UEntry := mkU z78p z78x (z78t k) nilU
theorem z78_n (k : Nat) : UNat (z78_e k) := mkU_nat nilU_nat
theorem z78_fu (k : Nat) : FU P GL 12 (z78_e k) :=
  fn_typed (uorc := uorT (z78U1 k)) hmo (T77_ok k).oo (z78U1_k k) (fd := z78f) (AllU.seq (AllU.no (by kernel_rfl)) (AllU.seq (AllU.no (by kernel_rfl)) (AllU.seq (AllU.seq (AllU.no (by kernel_rfl)) (AllU.block (AllU.unit (uorc := uorT (z78U1 k)) (u := 0) (z78u0_k k)))) (AllU.no (by kernel_rfl))))) (fn := Tryd.f12) (by kernel_rfl) (by kernel_rfl) (fun d => by kernel_rfl) FU_nil
noncomputable def T78 (k : Nat) : List (Nat × Ent) := (12, ⟨z78_e k⟩) :: T77 k
theorem T78_ok (k : Nat) : TabOK P GL (T78 k) := (T77_ok k).cons (z78_fu k) (z78_n k)
abbrev Doverspilllaw22_How : Type := (List UInt8) × Bool × Unit
abbrev Yoverspilllaw22_How : Ty := (.pr .str (.pr .bool .nil))
/-! ### overspill.overspilllaw22.CelloutOnce -/
noncomputable def z79U0 (_ : Nat) : List (Nat × Ent) := []
theorem z79U0_k (k : Nat) : UTab (z79U0 k) := UTab.nil
noncomputable def z79u0d : UDef := ⟨[(0, none), (7, none), (8, none)], [18, 19, 20, 21, 22, 23, 24, 25, 26], [(.normal, [(26, none)])], []⟩
noncomputable def z79u0p : XPat := ⟨.normal, [(.tv .str), (.ptr 0 []), (.tv (.int .i64))], [(.box (.tv YReader))]⟩
noncomputable def z79u0x : List XPat := [⟨.normal, [(.tv .bool)], [(.box (.tv YReader))]⟩]
noncomputable def overspilllaw22_CelloutOnceu0 (k : Nat) (x0 : List UInt8) (x1 : Int) (x2 : DReader) : Option ((Bool) × (DReader)) :=
  bif (decide ((500 : Int) < ((List.length x0 : Nat) : Int))) then
    some (true, x2)
  else
  Option.bind (inbits_Reader_Seek k x1 x2) fun (v3 : (Int) × (DReader)) =>
  some ((!(decide (v3.1 = 0))), v3.2)
noncomputable def z79u0b : AC :=
  (.region [(iO 18 (.mv (.t 0))),
    (iO 19 (.lens (.t 18))),
    (iO 20 (.bin .gtr (.t 19) (nI 500))),
    (iO 21 (.mv (.t 20))),
    ⟨some 22, some (3, 21, false), (.op (.mv (.t 7))), []⟩,
    ⟨some 23, some (3, 21, false), (.op (.mv (.t 8))), []⟩,
    ⟨some 24, some (3, 21, false), (.call (.c (.fn 8 .nil .nil)) [((.t 22), none), ((.t 23), none)]), []⟩,
    ⟨some 25, some (3, 21, false), (.op (.bin .neq (.t 24) (nI 0))), []⟩,
    (iO 26 (.pick (.t 21) (.c (.tv .bool (true : Bool))) (.t 25)))])
noncomputable def z79u0t (k : Nat) (d : z79u0p.D) : Option (XD z79u0x) := overspilllaw22_CelloutOnceu0 k d.1.1 d.1.2.2 d.2
theorem z79u0_k (k : Nat) : UOK P GL (mkU z79u0p z79u0x (z79u0t k) nilU) z79u0d false z79u0b :=
  unit_typed (ud := z79u0d) (body := z79u0b) (uorc := uorT (z79U0 k)) hmo (T78_ok k).oo (z79U0_k k) (AllU.no (by kernel_rfl)) (fun d => by kernel_rfl)
noncomputable def z79U1 (k : Nat) : List (Nat × Ent) := (0, ⟨mkU z79u0p z79u0x (z79u0t k) nilU⟩) :: z79U0 k
theorem z79U1_k (k : Nat) : UTab (z79U1 k) := (z79U0_k k).cons (mkU_nat nilU_nat)
noncomputable def z79u1d : UDef := ⟨[(7, none), (8, none)], [6, 38, 39, 40, 41, 42, 43, 44], [(.normal, [(6, none)])], []⟩
noncomputable def z79u1p : XPat := ⟨.normal, [(.ptr 0 []), (.tv (.int .i64))], [(.box (.tv YReader))]⟩
noncomputable def z79u1x : List XPat := [⟨.normal, [(.tv .bool)], [(.box (.tv YReader))]⟩]
noncomputable def overspilllaw22_CelloutOnceu1 (k : Nat) (x0 : Int) (x1 : DReader) : Option ((Bool) × (DReader)) :=
  Option.bind (inbits_Reader_At k x1) fun (v335 : (Int) × (DReader)) =>
  bif (decide (v335.1 = x0)) then
    Option.bind (overspilllaw22_lives k) fun (v336 : Bool) =>
    some (v336, v335.2)
  else
  some (false, v335.2)
noncomputable def z79u1b : AC :=
  (.region [(iO 38 (.mv (.t 7))),
    (iC 39 14 [((.t 38), none)]),
    (iO 40 (.mv (.t 8))),
    (iO 41 (.bin .eql (.t 39) (.t 40))),
    (iO 42 (.mv (.t 41))),
    ⟨some 43, some (4, 42, true), (.call (.c (.fn 16 .nil .nil)) []), []⟩,
    (iO 44 (.pick (.t 42) (.t 43) (.c (.tv .bool (false : Bool))))),
    (iO 6 (.mv (.t 44)))])
noncomputable def z79u1t (k : Nat) (d : z79u1p.D) : Option (XD z79u1x) := overspilllaw22_CelloutOnceu1 k d.1.2 d.2
theorem z79u1_k (k : Nat) : UOK P GL (mkU z79u1p z79u1x (z79u1t k) nilU) z79u1d false z79u1b :=
  unit_typed (ud := z79u1d) (body := z79u1b) (uorc := uorT (z79U1 k)) hmo (T78_ok k).oo (z79U1_k k) (AllU.no (by kernel_rfl)) (fun d => by kernel_rfl)
noncomputable def z79U2 (k : Nat) : List (Nat × Ent) := (1, ⟨mkU z79u1p z79u1x (z79u1t k) nilU⟩) :: z79U1 k
theorem z79U2_k (k : Nat) : UTab (z79U2 k) := (z79U1_k k).cons (mkU_nat nilU_nat)
noncomputable def overspilllaw22_CelloutOnce (k : Nat) (x0 : List UInt8) (x1 : Doverspilllaw22_How) (x2 : List (Int)) : Option (Bool) :=
  Option.bind (inbits_New k x0) fun (v1 : (Unit) × (DReader)) =>
  Option.bind (overspilllaw22_CelloutOnceu0 k x0 ((List.length x1.1 : Nat) : Int) v1.2) fun (v4 : (Bool) × (DReader)) =>
  bif v4.1 then
    Option.bind (overspilllaw22_lives k) fun (v149 : Bool) =>
    some v149
  else
  Option.bind (cellin_Take k x1.2.1 x2 v4.2) fun (v332 : ((DCell) × ((Int) × (Unit))) × (DReader)) =>
  bif (!(decide (v332.1.2.1 = 0))) then
    Option.bind (overspilllaw22_CelloutOnceu1 k ((List.length x1.1 : Nat) : Int) v332.2) fun (v337 : (Bool) × (DReader)) =>
    some v337.1
  else
  Option.bind (outbits_New k) fun (v338 : (Unit) × (((Unit) × ((Int) × (Unit))) × (List (Int)))) =>
  Option.bind (cellout_Put k x1.2.1 x2 v332.1.1 v338.2.1.2.1 v338.2.2) fun (v339 : (Int) × (((Unit) × ((Int) × (Unit))) × (List (Int)))) =>
  bif (decide (v339.1 = 0)) then
    Option.bind (cellout_Right k x1.2.1 v332.1.1) fun (v340 : Bool) =>
    bif v340 then
      Option.bind (outbits_Writer_Len k v339.2.1.2.1 v339.2.2) fun (v341 : (Int) × (((Unit) × ((Int) × (Unit))) × (List (Int)))) =>
      Option.bind (inbits_Reader_At k v332.2) fun (v342 : (Int) × (DReader)) =>
      bif (decide (v341.1 = (wr .i64 (v342.1 - ((List.length x1.1 : Nat) : Int))))) then
        Option.bind (outbits_Writer_Text k v341.2.1.2.1 v341.2.2) fun (v343 : (List UInt8) × (((Unit) × ((Int) × (Unit))) × (List (Int)))) =>
        Option.bind (overspillref02_Show k v343.1) fun (v348 : List UInt8) =>
        Option.bind (outbits_Writer_Len k v343.2.1.2.1 v343.2.2) fun (v349 : (Int) × (((Unit) × ((Int) × (Unit))) × (List (Int)))) =>
        bif (decide ((0 : Int) ≤ v349.1 ∧ v349.1 ≤ (((List.length v348) : Nat) : Int))) then
          Option.bind (overspillref02_Show k x0) fun (v350 : List UInt8) =>
          Option.bind (inbits_Reader_At k v342.2) fun (v351 : (Int) × (DReader)) =>
          bif (decide ((0 : Int) ≤ ((List.length x1.1 : Nat) : Int) ∧ ((List.length x1.1 : Nat) : Int) ≤ v351.1 ∧ v351.1 ≤ (((List.length v350) : Nat) : Int))) then
            bif (decide ((List.drop 0 (List.take (Int.toNat v349.1) v348)) = (List.drop (Int.toNat ((List.length x1.1 : Nat) : Int)) (List.take (Int.toNat v351.1) v350)))) then
              Option.bind (overspilllaw22_lives k) fun (v352 : Bool) =>
              some v352
            else
            some false
          else
            none
        else
          none
      else
      some false
    else
    some false
  else
  some false
noncomputable def z79b : AC :=
  (.seq (.region [(iO 4 (.box (.t 1))),
    (iO 5 (.box (.t 2))),
    (iO 6 (.mv (.c (.tv .bool (false : Bool)))))])
  (.seq (.region [(iO 13 (.mv (.t 0))),
    (iC 14 7 [((.t 13), none)]),
    (iO 7 (.mv (.t 14)))])
  (.seq (.region [(iO 15 (.fad 0 0 (.t 4))),
    (iO 16 (.load false 1 (.t 15))),
    (iO 17 (.lens (.t 16))),
    (iO 8 (.mv (.t 17)))])
  (.seq (.seq (.unit 0 z79u0d false z79u0b)
  (.cond (.t 26)
  (.seq (.region [(iC 27 16 []),
      (iO 6 (.mv (.t 27)))])
    .ret)
  .skip))
  (.seq (.region [(iO 29 (.mv (.t 7))),
    (iO 30 (.fad 1 1 (.t 4))),
    (iO 31 (.load false 1 (.t 30))),
    (iO 32 (.load true 2 (.t 5))),
    (iC 33 10 [((.t 29), none), ((.t 31), none), ((.t 32), some (.arr 2 (.int .i64)))]),
    (iO 28 (.mv (.t 33))),
    (iO 34 (.ext (.t 28) 0)),
    (iO 35 (.ext (.t 28) 1)),
    (iO 9 (.alloc 34 (.tv YCell))),
    (iS (.store 18 none (.t 9) (.t 34))),
    (iO 10 (.mv (.t 35)))])
  (.seq (.seq (.region [(iO 36 (.mv (.t 10))),
    (iO 37 (.bin .neq (.t 36) (nI 0)))])
  (.cond (.t 37)
  (.seq (.unit 1 z79u1d false z79u1b)
    .ret)
  .skip))
  (.seq (.region [(iC 45 17 []),
    (iO 11 (.mv (.t 45)))])
  (.seq (.region [(iO 46 (.mv (.t 11))),
    (iO 47 (.fad 1 1 (.t 4))),
    (iO 48 (.load false 1 (.t 47))),
    (iO 49 (.load true 2 (.t 5))),
    (iO 50 (.load true 18 (.t 9))),
    (iC 51 18 [((.t 46), none), ((.t 48), none), ((.t 49), some (.arr 2 (.int .i64))), ((.t 50), some YCell)]),
    (iO 12 (.mv (.t 51)))])
  (.seq (.draw [(iO 52 (.mv (.t 12))),
    (iOa 53 (.bin .eql (.t 52) (nI 0)) [0]),
    (iOa 54 (.mv (.t 53)) [0, 1]),
    ⟨some 55, some (2, 54, true), (.op (.fad 1 1 (.t 4))), [0, 1, 2]⟩,
    ⟨some 56, some (2, 54, true), (.op (.load false 1 (.t 55))), (rg [0, 4])⟩,
    ⟨some 57, some (2, 54, true), (.op (.load true 18 (.t 9))), [0, 1, 2]⟩,
    ⟨some 58, some (2, 54, true), (.call (.c (.fn 19 .nil .nil)) [((.t 56), none), ((.t 57), some YCell)]), (rg [0, 6])⟩,
    (iOa 59 (.pick (.t 54) (.t 58) (.c (.tv .bool (false : Bool)))) (rg [0, 7])),
    (iOa 60 (.mv (.t 59)) (rg [0, 8])),
    ⟨some 61, some (8, 60, true), (.op (.mv (.t 11))), (rg [0, 9])⟩,
    ⟨some 62, some (8, 60, true), (.call (.c (.fn 20 .nil .nil)) [((.t 61), none)]), (rg [0, 10])⟩,
    ⟨some 63, some (8, 60, true), (.op (.mv (.t 7))), (rg [0, 9])⟩,
    ⟨some 64, some (8, 60, true), (.call (.c (.fn 14 .nil .nil)) [((.t 63), none)]), (rg [0, 12])⟩,
    ⟨some 65, some (8, 60, true), (.op (.mv (.t 8))), (rg [0, 9])⟩,
    ⟨some 66, some (8, 60, true), (.op (.bin .sub (.t 64) (.t 65))), (rg [0, 14])⟩,
    ⟨some 67, some (8, 60, true), (.op (.bin .eql (.t 62) (.t 66))), (rg [0, 15])⟩,
    (iOa 68 (.pick (.t 60) (.t 67) (.c (.tv .bool (false : Bool)))) (rg [0, 16])),
    (iOa 69 (.mv (.t 68)) (rg [0, 17])),
    ⟨some 70, some (17, 69, true), (.op (.mv (.t 11))), (rg [0, 18])⟩,
    ⟨some 71, some (17, 69, true), (.call (.c (.fn 21 .nil .nil)) [((.t 70), none)]), (rg [0, 19])⟩,
    ⟨some 72, some (17, 69, true), (.call (.c (.fn 12 .nil .nil)) [((.t 71), none)]), (rg [0, 20])⟩,
    ⟨some 73, some (17, 69, true), (.op (.mv (.t 11))), (rg [0, 18])⟩,
    ⟨some 74, some (17, 69, true), (.call (.c (.fn 20 .nil .nil)) [((.t 73), none)]), (rg [0, 22])⟩,
    ⟨some 75, some (17, 69, true), (.op (.slis (.t 72) none (some (.t 74)))), (rg [0, 23])⟩,
    ⟨some 76, some (17, 69, true), (.op (.mv (.t 0))), (rg [0, 18])⟩,
    ⟨some 77, some (17, 69, true), (.call (.c (.fn 12 .nil .nil)) [((.t 76), none)]), (rg [0, 23, 24, 1])⟩,
    ⟨some 78, some (17, 69, true), (.op (.mv (.t 8))), (rg [0, 18])⟩,
    ⟨some 79, some (17, 69, true), (.op (.mv (.t 7))), (rg [0, 18])⟩,
    ⟨some 80, some (17, 69, true), (.call (.c (.fn 14 .nil .nil)) [((.t 79), none)]), (rg [0, 23, 24, 2, 27, 1])⟩,
    ⟨some 81, some (17, 69, true), (.op (.slis (.t 77) (some (.t 78)) (some (.t 80)))), (rg [0, 23, 24, 5])⟩,
    ⟨some 82, some (17, 69, true), (.op (.bin .eql (.t 75) (.t 81))), (rg [0, 30])⟩,
    (iOa 83 (.pick (.t 69) (.t 82) (.c (.tv .bool (false : Bool)))) (rg [0, 31])),
    (iOa 84 (.mv (.t 83)) (rg [0, 32])),
    ⟨some 85, some (32, 84, true), (.call (.c (.fn 16 .nil .nil)) []), (rg [0, 33])⟩,
    (iOa 86 (.pick (.t 84) (.t 85) (.c (.tv .bool (false : Bool)))) (rg [0, 34])),
    (iOa 6 (.mv (.t 86)) (rg [0, 35]))])
  .ret)))))))))
noncomputable def z79f : FDef := ⟨3, 87, [.tmp 6 none], z79b⟩
noncomputable def z79p : XPat := ⟨.normal, [(.tv .str), (.tv Yoverspilllaw22_How), (.tv (.arr 2 (.int .i64)))], []⟩
noncomputable def z79x : List XPat := [⟨.ret, [(.tv .bool)], []⟩]
noncomputable def z79t (k : Nat) (d : z79p.D) : Option (XD z79x) := overspilllaw22_CelloutOnce k d.1 d.2.1 d.2.2
noncomputable def z79_e (k : Nat) : UEntry := mkU z79p z79x (z79t k) nilU
theorem z79_n (k : Nat) : UNat (z79_e k) := mkU_nat nilU_nat
theorem z79_fu (k : Nat) : FU P GL 5 (z79_e k) :=
  fn_typed (uorc := uorT (z79U2 k)) hmo (T78_ok k).oo (z79U2_k k) (fd := z79f) (AllU.seq (AllU.no (by kernel_rfl)) (AllU.seq (AllU.no (by kernel_rfl)) (AllU.seq (AllU.no (by kernel_rfl)) (AllU.seq (AllU.seq (AllU.unit (uorc := uorT (z79U2 k)) (u := 0) (z79u0_k k)) (AllU.no (by kernel_rfl))) (AllU.seq (AllU.no (by kernel_rfl)) (AllU.seq (AllU.seq (AllU.no (by kernel_rfl)) (AllU.cond (AllU.seq (AllU.unit (uorc := uorT (z79U2 k)) (u := 1) (z79u1_k k)) (AllU.no (by kernel_rfl))) (AllU.no (by kernel_rfl)))) (AllU.no (by kernel_rfl)))))))) (fn := Tryd.f5) (by kernel_rfl) (by kernel_rfl) (fun d => by kernel_rfl) FU_nil
noncomputable def T79 (k : Nat) : List (Nat × Ent) := (5, ⟨z79_e k⟩) :: T78 k
theorem T79_ok (k : Nat) : TabOK P GL (T79 k) := (T78_ok k).cons (z79_fu k) (z79_n k)
/-! ### overspill.overspilllaw22.few -/
noncomputable def z80U0 (_ : Nat) : List (Nat × Ent) := []
theorem z80U0_k (k : Nat) : UTab (z80U0 k) := UTab.nil
noncomputable def z80u0d : UDef := ⟨[(1, none), (3, none)], [2, 3, 4, 5, 6, 7, 8, 9, 10, 11, 12, 13], [(.ret, [(2, none)]), ((.exit 0), [])], []⟩
noncomputable def z80u0p : XPat := ⟨.normal, [(.ptr 0 []), (.tv (.int .i64))], [(.box (.tv YCell))]⟩
noncomputable def z80u0x : List XPat := [⟨.ret, [(.tv .bool)], [(.box (.tv YCell))]⟩, ⟨(.exit 0), [], [(.box (.tv YCell))]⟩]
noncomputable def overspilllaw22_fewu0 (k : Nat) : Nat → (Int) → (DCell) → Option (((Bool) × (DCell)) ⊕ ((Unit) × (DCell)))
  | 0, _, _ => none
  | n + 1, x0, x1 =>
    bif (decide (x0 < 6)) then
      bif (inR x0 6) then
        bif (decide ((100 : Int) < ((List.length (List.getD x1.2.2.2.2.2.2.1 (Int.toNat x0) ([] : List (DEvent))) : Nat) : Int))) then
          some (Sum.inl (false, x1))
        else
        Option.bind (overspilllaw22_fewu0 k n (wr .i64 (x0 + 1)) x1) fun r => Sum.elim (fun w => some (Sum.inl w)) (fun w => some (Sum.inr w)) r
      else
        none
    else
    some (Sum.inr ((), x1))
noncomputable def z80u0b : AC :=
  (.seq (.seq (.region [(iO 4 (.mv (.t 3))),
    (iO 5 (.bin .lss (.t 4) (nI 6)))])
  (.cond (.t 5)
  .skip
  (.exit 0)))
  (.seq (.block 1 (.seq (.region [(iO 8 (.mv (.t 3))),
    (iO 9 (.fad 6 12 (.t 1))),
    (iO 10 (.iad 6 1 (.t 9) (.t 8))),
    (iO 11 (.load false 1 (.t 10))),
    (iO 12 (.len (.t 11))),
    (iO 13 (.bin .gtr (.t 12) (nI 100)))])
  (.cond (.t 13)
  (.seq (.region [(iO 2 (.mv (.c (.tv .bool (false : Bool)))))])
    .ret)
  .skip)))
  (.region [(iO 6 (.mv (.t 3))),
    (iO 7 (.bin .add (.t 6) (nI 1))),
    (iO 3 (.mv (.t 7)))])))
noncomputable def z80u0t (k n : Nat) (d : z80u0p.D) : Option (XD z80u0x) := overspilllaw22_fewu0 k n d.1.2 d.2
theorem z80u0_k (k : Nat) : UOK P GL (mkU z80u0p z80u0x (z80u0t k k) nilU) z80u0d true z80u0b :=
  loop_typed (ud := z80u0d) (body := z80u0b) (uorc := uorT (z80U0 k)) hmo (T79_ok k).oo (z80U0_k k) (AllU.no (by kernel_rfl)) (t := z80u0t k) (fun d => by kernel_rfl) (fun n d => by kernel_rfl) k
noncomputable def z80U1 (k : Nat) : List (Nat × Ent) := (0, ⟨mkU z80u0p z80u0x (z80u0t k k) nilU⟩) :: z80U0 k
theorem z80U1_k (k : Nat) : UTab (z80U1 k) := (z80U0_k k).cons (mkU_nat nilU_nat)
noncomputable def overspilllaw22_few (k : Nat) (x0 : DCell) : Option (Bool) :=
  Option.bind (overspilllaw22_fewu0 k k 0 x0) fun r =>
  Sum.elim (fun (v353 : (Bool) × (DCell)) =>
    some v353.1)
    (fun (v354 : (Unit) × (DCell)) =>
    some true) r
noncomputable def z80b : AC :=
  (.seq (.region [(iO 1 (.box (.t 0))),
    (iO 2 (.mv (.c (.tv .bool (false : Bool)))))])
  (.seq (.seq (.region [(iO 3 (.mv (nI 0)))])
  (.block 0 (.unit 0 z80u0d true z80u0b)))
  (.seq (.region [(iO 2 (.mv (.c (.tv .bool (true : Bool)))))])
  .ret)))
noncomputable def z80f : FDef := ⟨1, 14, [.tmp 2 none], z80b⟩
noncomputable def z80p : XPat := ⟨.normal, [(.tv YCell)], []⟩
noncomputable def z80x : List XPat := [⟨.ret, [(.tv .bool)], []⟩]
noncomputable def z80t (k : Nat) (d : z80p.D) : Option (XD z80x) := overspilllaw22_few k d
noncomputable def z80_e (k : Nat) : UEntry := mkU z80p z80x (z80t k) nilU
theorem z80_n (k : Nat) : UNat (z80_e k) := mkU_nat nilU_nat
theorem z80_fu (k : Nat) : FU P GL 22 (z80_e k) :=
  fn_typed (uorc := uorT (z80U1 k)) hmo (T79_ok k).oo (z80U1_k k) (fd := z80f) (AllU.seq (AllU.no (by kernel_rfl)) (AllU.seq (AllU.seq (AllU.no (by kernel_rfl)) (AllU.block (AllU.unit (uorc := uorT (z80U1 k)) (u := 0) (z80u0_k k)))) (AllU.no (by kernel_rfl)))) (fn := Tryd.f22) (by kernel_rfl) (by kernel_rfl) (fun d => by kernel_rfl) FU_nil
noncomputable def T80 (k : Nat) : List (Nat × Ent) := (22, ⟨z80_e k⟩) :: T79 k
theorem T80_ok (k : Nat) : TabOK P GL (T80 k) := (T79_ok k).cons (z80_fu k) (z80_n k)
/-! ### slices.Equal[[]overspill.api.Event,overspill.api.Event] -/
noncomputable def z81U0 (_ : Nat) : List (Nat × Ent) := []
theorem z81U0_k (k : Nat) : UTab (z81U0 k) := UTab.nil
noncomputable def z81u0d : UDef := ⟨[(0, none), (1, none), (12, none), (13, none)], [4, 5, 13, 14, 15, 16, 17, 18, 19, 20, 21, 22, 23, 24, 25], [(.ret, [(4, none)]), ((.exit 0), [])], []⟩
noncomputable def z81u0p : XPat := ⟨.normal, [(.tv (.sl YEvent)), (.tv (.sl YEvent)), (.tv (.int .i64)), (.tv (.int .i64))], []⟩
noncomputable def z81u0x : List XPat := [⟨.ret, [(.tv .bool)], []⟩, ⟨(.exit 0), [], []⟩]
noncomputable def slices_Equal_Eventu0 (k : Nat) : Nat → (List (DEvent)) → (List (DEvent)) → (Int) → (Int) → Option ((Bool) ⊕ (Unit))
  | 0, _, _, _, _ => none
  | n + 1, x0, x1, x2, x3 =>
    bif (decide (x3 < x2)) then
      bif (inR x3 (List.length x0)) then
        bif (inR x3 (List.length x1)) then
          bif (true ^^ Ty.eqB YEvent (List.getD x0 (Int.toNat x3) (false, (0, (0, ())))) (List.getD x1 (Int.toNat x3) (false, (0, (0, ()))))) then
            some (Sum.inl false)
          else
          Option.bind (slices_Equal_Eventu0 k n x0 x1 x2 (wr .i64 (x3 + 1))) fun r => Sum.elim (fun w => some (Sum.inl w)) (fun w => some (Sum.inr w)) r
        else
          none
      else
        none
    else
    some (Sum.inr ())
noncomputable def z81u0b : AC :=
  (.seq (.region [(iO 14 (.bin .lss (.t 13) (.t 12)))])
  (.seq (.cond (.t 14)
  .skip
  (.exit 0))
  (.seq (.block 1 (.seq (.region [(iO 15 (.mv (.t 13))),
    (iO 5 (.mv (.t 15)))])
  (.seq (.draw [(iO 16 (.mv (.t 0))),
    (iO 17 (.mv (.t 5))),
    (iOa 18 (.iads YEvent (.t 16) (.t 17)) [0, 1]),
    (iOa 19 (.load true 3 (.t 18)) [0, 1, 2]),
    (iO 20 (.mv (.t 1))),
    (iO 21 (.mv (.t 5))),
    (iOa 22 (.iads YEvent (.t 20) (.t 21)) [4, 5]),
    (iOa 23 (.load true 3 (.t 22)) [4, 5, 6]),
    (iOa 24 (.eqa true YEvent (.t 19) (.t 23)) (rg [0, 8]))])
  (.cond (.t 24)
  (.seq (.region [(iO 4 (.mv (.c (.tv .bool (false : Bool)))))])
    .ret)
  .skip))))
  (.region [(iO 25 (.bin .add (.t 13) (nI 1))),
    (iO 13 (.mv (.t 25)))]))))
noncomputable def z81u0t (k n : Nat) (d : z81u0p.D) : Option (XD z81u0x) := slices_Equal_Eventu0 k n d.1 d.2.1 d.2.2.1 d.2.2.2
theorem z81u0_k (k : Nat) : UOK P GL (mkU z81u0p z81u0x (z81u0t k k) nilU) z81u0d true z81u0b :=
  loop_typed (ud := z81u0d) (body := z81u0b) (uorc := uorT (z81U0 k)) hmo (T80_ok k).oo (z81U0_k k) (AllU.no (by kernel_rfl)) (t := z81u0t k) (fun d => by kernel_rfl) (fun n d => by kernel_rfl) k
noncomputable def z81U1 (k : Nat) : List (Nat × Ent) := (0, ⟨mkU z81u0p z81u0x (z81u0t k k) nilU⟩) :: z81U0 k
theorem z81U1_k (k : Nat) : UTab (z81U1 k) := (z81U0_k k).cons (mkU_nat nilU_nat)
noncomputable def slices_Equal_Event (k : Nat) (x0 : List (DEvent)) (x1 : List (DEvent)) : Option (Bool) :=
  bif (!(decide (((List.length x0 : Nat) : Int) = ((List.length x1 : Nat) : Int)))) then
    some false
  else
  Option.bind (slices_Equal_Eventu0 k k x0 x1 ((List.length x0 : Nat) : Int) 0) fun r =>
  Sum.elim (fun (v375 : Bool) =>
    some v375)
    (fun (v376 : Unit) =>
    some true) r
noncomputable def z81b : AC :=
  (.seq (.region [(iO 4 (.mv (.c (.tv .bool (false : Bool)))))])
  (.seq (.seq (.region [(iO 6 (.mv (.t 0))),
    (iO 7 (.len (.t 6))),
    (iO 8 (.mv (.t 1))),
    (iO 9 (.len (.t 8))),
    (iO 10 (.bin .neq (.t 7) (.t 9)))])
  (.cond (.t 10)
  (.seq (.region [(iO 4 (.mv (.c (.tv .bool (false : Bool)))))])
    .ret)
  .skip))
  (.seq (.seq (.region [(iO 11 (.mv (.t 0))),
    (iO 12 (.len (.t 11))),
    (iO 13 (.mv (nI 0)))])
  (.block 0 (.unit 0 z81u0d true z81u0b)))
  (.seq (.region [(iO 4 (.mv (.c (.tv .bool (true : Bool)))))])
  .ret))))
noncomputable def z81f : FDef := ⟨2, 26, [.tmp 4 none], z81b⟩
noncomputable def z81p : XPat := ⟨.normal, [(.tv (.sl YEvent)), (.tv (.sl YEvent))], []⟩
noncomputable def z81x : List XPat := [⟨.ret, [(.tv .bool)], []⟩]
noncomputable def z81t (k : Nat) (d : z81p.D) : Option (XD z81x) := slices_Equal_Event k d.1 d.2
noncomputable def z81_e (k : Nat) : UEntry := mkU z81p z81x (z81t k) nilU
theorem z81_n (k : Nat) : UNat (z81_e k) := mkU_nat nilU_nat
theorem z81_fu (k : Nat) : FU P GL 36 (z81_e k) :=
  fn_typed (uorc := uorT (z81U1 k)) hmo (T80_ok k).oo (z81U1_k k) (fd := z81f) (AllU.seq (AllU.no (by kernel_rfl)) (AllU.seq (AllU.no (by kernel_rfl)) (AllU.seq (AllU.seq (AllU.no (by kernel_rfl)) (AllU.block (AllU.unit (uorc := uorT (z81U1 k)) (u := 0) (z81u0_k k)))) (AllU.no (by kernel_rfl))))) (fn := Tryd.f36) (by kernel_rfl) (by kernel_rfl) (fun d => by kernel_rfl) FU_nil
noncomputable def T81 (k : Nat) : List (Nat × Ent) := (36, ⟨z81_e k⟩) :: T80 k
theorem T81_ok (k : Nat) : TabOK P GL (T81 k) := (T80_ok k).cons (z81_fu k) (z81_n k)
/-! ### overspill.cellin.Same -/
noncomputable def z82U0 (_ : Nat) : List (Nat × Ent) := []
theorem z82U0_k (k : Nat) : UTab (z82U0 k) := UTab.nil
noncomputable def z82u0d : UDef := ⟨[(2, none), (3, none)], [5, 7, 8, 9, 10, 11, 12, 13, 14, 15, 16, 17, 18, 19, 20, 21, 22, 23, 24, 25, 26, 27, 28, 29, 30, 31, 32, 33, 34, 35, 36, 37, 38, 39, 40, 41, 42, 43, 44, 45, 46], [(.normal, [(5, none)])], []⟩
noncomputable def z82u0p : XPat := ⟨.normal, [(.ptr 0 []), (.ptr 1 [])], [(.box (.tv YCell)), (.box (.tv YCell))]⟩
noncomputable def z82u0x : List XPat := [⟨.normal, [(.tv .bool)], [(.box (.tv YCell)), (.box (.tv YCell))]⟩]
noncomputable def cellin_Sameu0 (k : Nat) (x0 : DCell) (x1 : DCell) : Option ((Bool) × ((DCell) × (DCell))) :=
  bif (decide (x0.1 = x1.1)) then
    bif (false ^^ (x0.2.1 == x1.2.1)) then
      bif (decide (x0.2.2.1 = x1.2.2.1)) then
        bif (decide (x0.2.2.2.1 = x1.2.2.2.1)) then
          bif (false ^^ Ty.eqB (.arr 2 (.int .i64)) x0.2.2.2.2.1 x1.2.2.2.2.1) then
            some ((false ^^ Ty.eqB (.arr 6 (.int .i64)) x0.2.2.2.2.2.1 x1.2.2.2.2.2.1), (x0, x1))
          else
          some (false, (x0, x1))
        else
        some (false, (x0, x1))
      else
      some (false, (x0, x1))
    else
    some (false, (x0, x1))
  else
  some (false, (x0, x1))
noncomputable def z82u0b : AC :=
  (.region [(iO 7 (.fad 0 0 (.t 2))),
    (iO 8 (.load false 1 (.t 7))),
    (iO 9 (.fad 0 0 (.t 3))),
    (iO 10 (.load false 1 (.t 9))),
    (iO 11 (.bin .eql (.t 8) (.t 10))),
    (iO 12 (.mv (.t 11))),
    ⟨some 13, some (5, 12, true), (.op (.fad 1 1 (.t 2))), []⟩,
    ⟨some 14, some (5, 12, true), (.op (.load false 1 (.t 13))), []⟩,
    ⟨some 15, some (5, 12, true), (.op (.fad 1 1 (.t 3))), []⟩,
    ⟨some 16, some (5, 12, true), (.op (.load false 1 (.t 15))), []⟩,
    ⟨some 17, some (5, 12, true), (.op (.eqb false (.t 14) (.t 16))), []⟩,
    (iO 18 (.pick (.t 12) (.t 17) (.c (.tv .bool (false : Bool))))),
    (iO 19 (.mv (.t 18))),
    ⟨some 20, some (12, 19, true), (.op (.fad 2 2 (.t 2))), []⟩,
    ⟨some 21, some (12, 19, true), (.op (.load false 1 (.t 20))), []⟩,
    ⟨some 22, some (12, 19, true), (.op (.fad 2 2 (.t 3))), []⟩,
    ⟨some 23, some (12, 19, true), (.op (.load false 1 (.t 22))), []⟩,
    ⟨some 24, some (12, 19, true), (.op (.bin .eql (.t 21) (.t 23))), []⟩,
    (iO 25 (.pick (.t 19) (.t 24) (.c (.tv .bool (false : Bool))))),
    (iO 26 (.mv (.t 25))),
    ⟨some 27, some (19, 26, true), (.op (.fad 3 3 (.t 2))), []⟩,
    ⟨some 28, some (19, 26, true), (.op (.load false 1 (.t 27))), []⟩,
    ⟨some 29, some (19, 26, true), (.op (.fad 3 3 (.t 3))), []⟩,
    ⟨some 30, some (19, 26, true), (.op (.load false 1 (.t 29))), []⟩,
    ⟨some 31, some (19, 26, true), (.op (.bin .eql (.t 28) (.t 30))), []⟩,
    (iO 32 (.pick (.t 26) (.t 31) (.c (.tv .bool (false : Bool))))),
    (iO 33 (.mv (.t 32))),
    ⟨some 34, some (26, 33, true), (.op (.fad 4 4 (.t 2))), []⟩,
    ⟨some 35, some (26, 33, true), (.op (.load true 2 (.t 34))), []⟩,
    ⟨some 36, some (26, 33, true), (.op (.fad 4 4 (.t 3))), []⟩,
    ⟨some 37, some (26, 33, true), (.op (.load true 2 (.t 36))), []⟩,
    ⟨some 38, some (26, 33, true), (.op (.eqa false (.arr 2 (.int .i64)) (.t 35) (.t 37))), []⟩,
    (iO 39 (.pick (.t 33) (.t 38) (.c (.tv .bool (false : Bool))))),
    (iO 40 (.mv (.t 39))),
    ⟨some 41, some (33, 40, true), (.op (.fad 5 6 (.t 2))), []⟩,
    ⟨some 42, some (33, 40, true), (.op (.load true 6 (.t 41))), []⟩,
    ⟨some 43, some (33, 40, true), (.op (.fad 5 6 (.t 3))), []⟩,
    ⟨some 44, some (33, 40, true), (.op (.load true 6 (.t 43))), []⟩,
    ⟨some 45, some (33, 40, true), (.op (.eqa false (.arr 6 (.int .i64)) (.t 42) (.t 44))), []⟩,
    (iO 46 (.pick (.t 40) (.t 45) (.c (.tv .bool (false : Bool))))),
    (iO 5 (.mv (.t 46)))])
noncomputable def z82u0t (k : Nat) (d : z82u0p.D) : Option (XD z82u0x) := cellin_Sameu0 k d.2.1 d.2.2
theorem z82u0_k (k : Nat) : UOK P GL (mkU z82u0p z82u0x (z82u0t k) nilU) z82u0d false z82u0b :=
  unit_typed (ud := z82u0d) (body := z82u0b) (uorc := uorT (z82U0 k)) hmo (T81_ok k).oo (z82U0_k k) (AllU.no (by kernel_rfl)) (fun d => by kernel_rfl)
noncomputable def z82U1 (k : Nat) : List (Nat × Ent) := (0, ⟨mkU z82u0p z82u0x (z82u0t k) nilU⟩) :: z82U0 k
theorem z82U1_k (k : Nat) : UTab (z82U1 k) := (z82U0_k k).cons (mkU_nat nilU_nat)
noncomputable def z82u1d : UDef := ⟨[(2, none), (3, none), (5, none), (47, none)], [5, 6, 47, 48, 49, 50, 51, 52, 53, 54, 55, 56, 57, 58, 59, 60, 61, 62], [((.exit 0), [(5, none)])], []⟩
noncomputable def z82u1p : XPat := ⟨.normal, [(.ptr 0 []), (.ptr 1 []), (.tv .bool), (.tv (.int .i64))], [(.box (.tv YCell)), (.box (.tv YCell))]⟩
noncomputable def z82u1x : List XPat := [⟨(.exit 0), [(.tv .bool)], [(.box (.tv YCell)), (.box (.tv YCell))]⟩]
noncomputable def cellin_Sameu1 (k : Nat) : Nat → (Bool) → (Int) → (DCell) → (DCell) → Option ((Bool) × ((DCell) × (DCell)))
  | 0, _, _, _, _ => none
  | n + 1, x0, x1, x2, x3 =>
    bif (decide (x1 < 6)) then
      bif x0 then
        bif (inR x1 6) then
          bif (inR x1 6) then
            Option.bind (slices_Equal_Event k (List.getD x2.2.2.2.2.2.2.1 (Int.toNat x1) ([] : List (DEvent))) (List.getD x3.2.2.2.2.2.2.1 (Int.toNat x1) ([] : List (DEvent)))) fun (v378 : Bool) =>
            Option.bind (cellin_Sameu1 k n v378 (wr .i64 (x1 + 1)) x2 x3) fun r => some r
          else
            none
        else
          none
      else
      Option.bind (cellin_Sameu1 k n false (wr .i64 (x1 + 1)) x2 x3) fun r => some r
    else
    some (x0, (x2, x3))
noncomputable def z82u1b : AC :=
  (.seq (.region [(iO 48 (.bin .lss (.t 47) (nI 6)))])
  (.seq (.cond (.t 48)
  .skip
  (.exit 0))
  (.seq (.block 1 (.seq (.region [(iO 49 (.mv (.t 47))),
    (iO 6 (.mv (.t 49)))])
  (.draw [(iO 50 (.mv (.t 5))),
    (iOa 51 (.mv (.t 50)) [0]),
    ⟨some 52, some (1, 51, true), (.op (.mv (.t 6))), [0, 1]⟩,
    ⟨some 53, some (1, 51, true), (.op (.fad 6 12 (.t 2))), [0, 1]⟩,
    ⟨some 54, some (1, 51, true), (.op (.iad 6 1 (.t 53) (.t 52))), (rg [0, 4])⟩,
    ⟨some 55, some (1, 51, true), (.op (.load false 1 (.t 54))), (rg [0, 5])⟩,
    ⟨some 56, some (1, 51, true), (.op (.mv (.t 6))), [0, 1]⟩,
    ⟨some 57, some (1, 51, true), (.op (.fad 6 12 (.t 3))), [0, 1]⟩,
    ⟨some 58, some (1, 51, true), (.op (.iad 6 1 (.t 57) (.t 56))), [0, 1, 6, 7]⟩,
    ⟨some 59, some (1, 51, true), (.op (.load false 1 (.t 58))), [0, 1, 6, 7, 8]⟩,
    ⟨some 60, some (1, 51, true), (.call (.c (.fn 36 .nil .nil)) [((.t 55), some (.sl YEvent)), ((.t 59), some (.sl YEvent))]), (rg [0, 10])⟩,
    (iOa 61 (.pick (.t 51) (.t 60) (.c (.tv .bool (false : Bool)))) (rg [0, 11])),
    (iOa 5 (.mv (.t 61)) (rg [0, 12]))])))
  (.region [(iO 62 (.bin .add (.t 47) (nI 1))),
    (iO 47 (.mv (.t 62)))]))))
noncomputable def z82u1t (k n : Nat) (d : z82u1p.D) : Option (XD z82u1x) := cellin_Sameu1 k n d.1.2.2.1 d.1.2.2.2 d.2.1 d.2.2
theorem z82u1_k (k : Nat) : UOK P GL (mkU z82u1p z82u1x (z82u1t k k) nilU) z82u1d true z82u1b :=
  loop_typed (ud := z82u1d) (body := z82u1b) (uorc := uorT (z82U1 k)) hmo (T81_ok k).oo (z82U1_k k) (AllU.no (by kernel_rfl)) (t := z82u1t k) (fun d => by kernel_rfl) (fun n d => by kernel_rfl) k
noncomputable def z82U2 (k : Nat) : List (Nat × Ent) := (1, ⟨mkU z82u1p z82u1x (z82u1t k k) nilU⟩) :: z82U1 k
theorem z82U2_k (k : Nat) : UTab (z82U2 k) := (z82U1_k k).cons (mkU_nat nilU_nat)
noncomputable def cellin_Same (k : Nat) (x0 : DCell) (x1 : DCell) : Option (Bool) :=
  Option.bind (cellin_Sameu0 k x0 x1) fun (v374 : (Bool) × ((DCell) × (DCell))) =>
  Option.bind (cellin_Sameu1 k k v374.1 0 v374.2.1 v374.2.2) fun (v379 : (Bool) × ((DCell) × (DCell))) =>
  some v379.1
noncomputable def z82b : AC :=
  (.seq (.region [(iO 2 (.box (.t 0))),
    (iO 3 (.box (.t 1))),
    (iO 4 (.mv (.c (.tv .bool (false : Bool)))))])
  (.seq (.unit 0 z82u0d false z82u0b)
  (.seq (.seq (.region [(iO 47 (.mv (nI 0)))])
  (.block 0 (.unit 1 z82u1d true z82u1b)))
  (.seq (.region [(iO 63 (.mv (.t 5))),
    (iO 4 (.mv (.t 63)))])
  .ret))))
noncomputable def z82f : FDef := ⟨2, 64, [.tmp 4 none], z82b⟩
noncomputable def z82p : XPat := ⟨.normal, [(.tv YCell), (.tv YCell)], []⟩
noncomputable def z82x : List XPat := [⟨.ret, [(.tv .bool)], []⟩]
noncomputable def z82t (k : Nat) (d : z82p.D) : Option (XD z82x) := cellin_Same k d.1 d.2
noncomputable def z82_e (k : Nat) : UEntry := mkU z82p z82x (z82t k) nilU
theorem z82_n (k : Nat) : UNat (z82_e k) := mkU_nat nilU_nat
theorem z82_fu (k : Nat) : FU P GL 15 (z82_e k) :=
  fn_typed (uorc := uorT (z82U2 k)) hmo (T81_ok k).oo (z82U2_k k) (fd := z82f) (AllU.seq (AllU.no (by kernel_rfl)) (AllU.seq (AllU.unit (uorc := uorT (z82U2 k)) (u := 0) (z82u0_k k)) (AllU.seq (AllU.seq (AllU.no (by kernel_rfl)) (AllU.block (AllU.unit (uorc := uorT (z82U2 k)) (u := 1) (z82u1_k k)))) (AllU.no (by kernel_rfl))))) (fn := Tryd.f15) (by kernel_rfl) (by kernel_rfl) (fun d => by kernel_rfl) FU_nil
noncomputable def T82 (k : Nat) : List (Nat × Ent) := (15, ⟨z82_e k⟩) :: T81 k
theorem T82_ok (k : Nat) : TabOK P GL (T82 k) := (T81_ok k).cons (z82_fu k) (z82_n k)
/-! ### overspill.overspilllaw22.CelloutBack -/
noncomputable def z83U0 (_ : Nat) : List (Nat × Ent) := []
theorem z83U0_k (k : Nat) : UTab (z83U0 k) := UTab.nil
noncomputable def z83u0d : UDef := ⟨[(3, none), (4, none)], [12, 13, 14, 15, 16, 17, 18, 19, 20], [(.normal, [(20, none)])], []⟩
noncomputable def z83u0p : XPat := ⟨.normal, [(.ptr 0 []), (.ptr 1 [])], [(.box (.tv YCell)), (.box (.tv Yoverspilllaw22_How))]⟩
noncomputable def z83u0x : List XPat := [⟨.normal, [(.tv .bool)], [(.box (.tv YCell)), (.box (.tv Yoverspilllaw22_How))]⟩]
noncomputable def overspilllaw22_CelloutBacku0 (k : Nat) (x0 : DCell) (x1 : Doverspilllaw22_How) : Option ((Bool) × ((DCell) × (Doverspilllaw22_How))) :=
  Option.bind (overspilllaw22_few k x0) fun (v356 : Bool) =>
  bif (!v356) then
    some (true, (x0, x1))
  else
  some ((decide ((100 : Int) < ((List.length x1.1 : Nat) : Int))), (x0, x1))
noncomputable def z83u0b : AC :=
  (.region [(iO 12 (.load true 18 (.t 3))),
    (iC 13 22 [((.t 12), some YCell)]),
    (iO 14 (.un .not (.t 13))),
    (iO 15 (.mv (.t 14))),
    ⟨some 16, some (3, 15, false), (.op (.fad 0 0 (.t 4))), []⟩,
    ⟨some 17, some (3, 15, false), (.op (.load false 1 (.t 16))), []⟩,
    ⟨some 18, some (3, 15, false), (.op (.lens (.t 17))), []⟩,
    ⟨some 19, some (3, 15, false), (.op (.bin .gtr (.t 18) (nI 100))), []⟩,
    (iO 20 (.pick (.t 15) (.c (.tv .bool (true : Bool))) (.t 19)))])
noncomputable def z83u0t (k : Nat) (d : z83u0p.D) : Option (XD z83u0x) := overspilllaw22_CelloutBacku0 k d.2.1 d.2.2
theorem z83u0_k (k : Nat) : UOK P GL (mkU z83u0p z83u0x (z83u0t k) nilU) z83u0d false z83u0b :=
  unit_typed (ud := z83u0d) (body := z83u0b) (uorc := uorT (z83U0 k)) hmo (T82_ok k).oo (z83U0_k k) (AllU.no (by kernel_rfl)) (fun d => by kernel_rfl)
noncomputable def z83U1 (k : Nat) : List (Nat × Ent) := (0, ⟨mkU z83u0p z83u0x (z83u0t k) nilU⟩) :: z83U0 k
theorem z83U1_k (k : Nat) : UTab (z83U1 k) := (z83U0_k k).cons (mkU_nat nilU_nat)
noncomputable def z83u1d : UDef := ⟨[(3, none), (4, none), (7, none), (8, none)], [6, 36, 37, 38, 39, 40, 41, 42, 43, 44, 45, 46, 47, 48, 49], [(.normal, [(6, none)])], []⟩
noncomputable def z83u1p : XPat := ⟨.normal, [(.ptr 0 []), (.ptr 1 []), (.ptr 2 []), (.tv (.int .i64))], [(.box (.tv YCell)), (.box (.tv Yoverspilllaw22_How)), (.box (.cons (.row 3) (.cons (.tv (.int .i64)) .nil))), (.row (.int .u8) false)]⟩
noncomputable def z83u1x : List XPat := [⟨.normal, [(.tv .bool)], [(.box (.tv YCell)), (.box (.tv Yoverspilllaw22_How)), (.box (.cons (.row 3) (.cons (.tv (.int .i64)) .nil))), (.row (.int .u8) false)]⟩]
noncomputable def overspilllaw22_CelloutBacku1 (k : Nat) (x0 : Int) (x1 : DCell) (x2 : Doverspilllaw22_How) (x3 : Int) (x4 : List (Int)) : Option ((Bool) × ((DCell) × ((Doverspilllaw22_How) × (((Unit) × ((Int) × (Unit))) × (List (Int)))))) :=
  Option.bind (outbits_Writer_Len k x3 x4) fun (v366 : (Int) × (((Unit) × ((Int) × (Unit))) × (List (Int)))) =>
  bif (decide (v366.1 = x0)) then
    Option.bind (cellout_Right k x2.2.1 x1) fun (v367 : Bool) =>
    bif (!v367) then
      Option.bind (overspilllaw22_lives k) fun (v368 : Bool) =>
      some (v368, (x1, (x2, (((), (v366.2.1.2.1, ())), v366.2.2))))
    else
    some (false, (x1, (x2, (((), (v366.2.1.2.1, ())), v366.2.2))))
  else
  some (false, (x1, (x2, (((), (v366.2.1.2.1, ())), v366.2.2))))
noncomputable def z83u1b : AC :=
  (.region [(iO 36 (.mv (.t 7))),
    (iC 37 20 [((.t 36), none)]),
    (iO 38 (.mv (.t 8))),
    (iO 39 (.bin .eql (.t 37) (.t 38))),
    (iO 40 (.mv (.t 39))),
    ⟨some 41, some (4, 40, true), (.op (.fad 1 1 (.t 4))), []⟩,
    ⟨some 42, some (4, 40, true), (.op (.load false 1 (.t 41))), []⟩,
    ⟨some 43, some (4, 40, true), (.op (.load true 18 (.t 3))), []⟩,
    ⟨some 44, some (4, 40, true), (.call (.c (.fn 19 .nil .nil)) [((.t 42), none), ((.t 43), some YCell)]), []⟩,
    ⟨some 45, some (4, 40, true), (.op (.un .not (.t 44))), []⟩,
    (iO 46 (.pick (.t 40) (.t 45) (.c (.tv .bool (false : Bool))))),
    (iO 47 (.mv (.t 46))),
    ⟨some 48, some (11, 47, true), (.call (.c (.fn 16 .nil .nil)) []), []⟩,
    (iO 49 (.pick (.t 47) (.t 48) (.c (.tv .bool (false : Bool))))),
    (iO 6 (.mv (.t 49)))])
noncomputable def z83u1t (k : Nat) (d : z83u1p.D) : Option (XD z83u1x) := overspilllaw22_CelloutBacku1 k d.1.2.2.2 d.2.1 d.2.2.1 d.2.2.2.1.2.1 d.2.2.2.2
theorem z83u1_k (k : Nat) : UOK P GL (mkU z83u1p z83u1x (z83u1t k) nilU) z83u1d false z83u1b :=
  unit_typed (ud := z83u1d) (body := z83u1b) (uorc := uorT (z83U1 k)) hmo (T82_ok k).oo (z83U1_k k) (AllU.no (by kernel_rfl)) (fun d => by kernel_rfl)
noncomputable def z83U2 (k : Nat) : List (Nat × Ent) := (1, ⟨mkU z83u1p z83u1x (z83u1t k) nilU⟩) :: z83U1 k
theorem z83U2_k (k : Nat) : UTab (z83U2 k) := (z83U1_k k).cons (mkU_nat nilU_nat)
noncomputable def overspilllaw22_CelloutBack (k : Nat) (x0 : DCell) (x1 : Doverspilllaw22_How) (x2 : List (Int)) : Option (Bool) :=
  Option.bind (overspilllaw22_CelloutBacku0 k x0 x1) fun (v357 : (Bool) × ((DCell) × (Doverspilllaw22_How))) =>
  bif v357.1 then
    Option.bind (overspilllaw22_lives k) fun (v358 : Bool) =>
    some v358
  else
  Option.bind (outbits_New k) fun (v359 : (Unit) × (((Unit) × ((Int) × (Unit))) × (List (Int)))) =>
  Option.bind (outbits_Writer_Add k v357.2.2.1 v359.2.1.2.1 v359.2.2) fun (v360 : (Int) × (((Unit) × ((Int) × (Unit))) × (List (Int)))) =>
  Option.bind (outbits_Writer_Len k v360.2.1.2.1 v360.2.2) fun (v361 : (Int) × (((Unit) × ((Int) × (Unit))) × (List (Int)))) =>
  Option.bind (cellout_Put k v357.2.2.2.1 x2 v357.2.1 v361.2.1.2.1 v361.2.2) fun (v362 : (Int) × (((Unit) × ((Int) × (Unit))) × (List (Int)))) =>
  bif (!(decide (v362.1 = 0))) then
    Option.bind (overspilllaw22_CelloutBacku1 k v361.1 v357.2.1 v357.2.2 v362.2.1.2.1 v362.2.2) fun (v369 : (Bool) × ((DCell) × ((Doverspilllaw22_How) × (((Unit) × ((Int) × (Unit))) × (List (Int)))))) =>
    some v369.1
  else
  Option.bind (outbits_Writer_Text k v362.2.1.2.1 v362.2.2) fun (v370 : (List UInt8) × (((Unit) × ((Int) × (Unit))) × (List (Int)))) =>
  Option.bind (inbits_New k v370.1) fun (v371 : (Unit) × (DReader)) =>
  Option.bind (inbits_Reader_Seek k v361.1 v371.2) fun (v372 : (Int) × (DReader)) =>
  Option.bind (cellin_Take k v357.2.2.2.1 x2 v372.2) fun (v373 : ((DCell) × ((Int) × (Unit))) × (DReader)) =>
  bif (decide (v373.1.2.1 = 0)) then
    Option.bind (cellin_Same k v373.1.1 v357.2.1) fun (v380 : Bool) =>
    bif v380 then
      Option.bind (inbits_Reader_At k v373.2) fun (v381 : (Int) × (DReader)) =>
      Option.bind (outbits_Writer_Len k v370.2.1.2.1 v370.2.2) fun (v382 : (Int) × (((Unit) × ((Int) × (Unit))) × (List (Int)))) =>
      bif (decide (v381.1 = v382.1)) then
        Option.bind (overspilllaw22_lives k) fun (v383 : Bool) =>
        some v383
      else
      some false
    else
    some false
  else
  some false
noncomputable def z83b : AC :=
  (.seq (.region [(iO 3 (.box (.t 0))),
    (iO 4 (.box (.t 1))),
    (iO 5 (.box (.t 2))),
    (iO 6 (.mv (.c (.tv .bool (false : Bool)))))])
  (.seq (.seq (.unit 0 z83u0d false z83u0b)
  (.cond (.t 20)
  (.seq (.region [(iC 21 16 []),
      (iO 6 (.mv (.t 21)))])
    .ret)
  .skip))
  (.seq (.region [(iC 22 17 []),
    (iO 7 (.mv (.t 22)))])
  (.seq (.region [(iO 23 (.mv (.t 7))),
    (iO 24 (.fad 0 0 (.t 4))),
    (iO 25 (.load false 1 (.t 24))),
    (iC 26 23 [((.t 23), none), ((.t 25), none)])])
  (.seq (.region [(iO 27 (.mv (.t 7))),
    (iC 28 20 [((.t 27), none)]),
    (iO 8 (.mv (.t 28)))])
  (.seq (.seq (.region [(iO 29 (.mv (.t 7))),
    (iO 30 (.fad 1 1 (.t 4))),
    (iO 31 (.load false 1 (.t 30))),
    (iO 32 (.load true 2 (.t 5))),
    (iO 33 (.load true 18 (.t 3))),
    (iC 34 18 [((.t 29), none), ((.t 31), none), ((.t 32), some (.arr 2 (.int .i64))), ((.t 33), some YCell)]),
    (iO 35 (.bin .neq (.t 34) (nI 0)))])
  (.cond (.t 35)
  (.seq (.unit 1 z83u1d false z83u1b)
    .ret)
  .skip))
  (.seq (.region [(iO 50 (.mv (.t 7))),
    (iC 51 21 [((.t 50), none)]),
    (iC 52 7 [((.t 51), none)]),
    (iO 9 (.mv (.t 52)))])
  (.seq (.region [(iO 53 (.mv (.t 9))),
    (iO 54 (.mv (.t 8))),
    (iC 55 8 [((.t 53), none), ((.t 54), none)])])
  (.seq (.region [(iO 57 (.mv (.t 9))),
    (iO 58 (.fad 1 1 (.t 4))),
    (iO 59 (.load false 1 (.t 58))),
    (iO 60 (.load true 2 (.t 5))),
    (iC 61 10 [((.t 57), none), ((.t 59), none), ((.t 60), some (.arr 2 (.int .i64)))]),
    (iO 56 (.mv (.t 61))),
    (iO 62 (.ext (.t 56) 0)),
    (iO 63 (.ext (.t 56) 1)),
    (iO 10 (.alloc 34 (.tv YCell))),
    (iS (.store 18 none (.t 10) (.t 62))),
    (iO 11 (.mv (.t 63)))])
  (.seq (.region [(iO 64 (.mv (.t 11))),
    (iO 65 (.bin .eql (.t 64) (nI 0))),
    (iO 66 (.mv (.t 65))),
    ⟨some 67, some (2, 66, true), (.op (.load true 18 (.t 10))), []⟩,
    ⟨some 68, some (2, 66, true), (.op (.load true 18 (.t 3))), []⟩,
    ⟨some 69, some (2, 66, true), (.call (.c (.fn 15 .nil .nil)) [((.t 67), some YCell), ((.t 68), some YCell)]), []⟩,
    (iO 70 (.pick (.t 66) (.t 69) (.c (.tv .bool (false : Bool))))),
    (iO 71 (.mv (.t 70))),
    ⟨some 72, some (7, 71, true), (.op (.mv (.t 9))), []⟩,
    ⟨some 73, some (7, 71, true), (.call (.c (.fn 14 .nil .nil)) [((.t 72), none)]), []⟩,
    ⟨some 74, some (7, 71, true), (.op (.mv (.t 7))), []⟩,
    ⟨some 75, some (7, 71, true), (.call (.c (.fn 20 .nil .nil)) [((.t 74), none)]), []⟩,
    ⟨some 76, some (7, 71, true), (.op (.bin .eql (.t 73) (.t 75))), []⟩,
    (iO 77 (.pick (.t 71) (.t 76) (.c (.tv .bool (false : Bool))))),
    (iO 78 (.mv (.t 77))),
    ⟨some 79, some (14, 78, true), (.call (.c (.fn 16 .nil .nil)) []), []⟩,
    (iO 80 (.pick (.t 78) (.t 79) (.c (.tv .bool (false : Bool))))),
    (iO 6 (.mv (.t 80)))])
  .ret))))))))))
noncomputable def z83f : FDef := ⟨3, 81, [.tmp 6 none], z83b⟩
noncomputable def z83p : XPat := ⟨.normal, [(.tv YCell), (.tv Yoverspilllaw22_How), (.tv (.arr 2 (.int .i64)))], []⟩
noncomputable def z83x : List XPat := [⟨.ret, [(.tv .bool)], []⟩]
noncomputable def z83t (k : Nat) (d : z83p.D) : Option (XD z83x) := overspilllaw22_CelloutBack k d.1 d.2.1 d.2.2
noncomputable def z83_e (k : Nat) : UEntry := mkU z83p z83x (z83t k) nilU
theorem z83_n (k : Nat) : UNat (z83_e k) := mkU_nat nilU_nat
theorem z83_fu (k : Nat) : FU P GL 6 (z83_e k) :=
  fn_typed (uorc := uorT (z83U2 k)) hmo (T82_ok k).oo (z83U2_k k) (fd := z83f) (AllU.seq (AllU.no (by kernel_rfl)) (AllU.seq (AllU.seq (AllU.unit (uorc := uorT (z83U2 k)) (u := 0) (z83u0_k k)) (AllU.no (by kernel_rfl))) (AllU.seq (AllU.no (by kernel_rfl)) (AllU.seq (AllU.no (by kernel_rfl)) (AllU.seq (AllU.no (by kernel_rfl)) (AllU.seq (AllU.seq (AllU.no (by kernel_rfl)) (AllU.cond (AllU.seq (AllU.unit (uorc := uorT (z83U2 k)) (u := 1) (z83u1_k k)) (AllU.no (by kernel_rfl))) (AllU.no (by kernel_rfl)))) (AllU.no (by kernel_rfl)))))))) (fn := Tryd.f6) (by kernel_rfl) (by kernel_rfl) (fun d => by kernel_rfl) FU_nil
noncomputable def T83 (k : Nat) : List (Nat × Ent) := (6, ⟨z83_e k⟩) :: T82 k
theorem T83_ok (k : Nat) : TabOK P GL (T83 k) := (T82_ok k).cons (z83_fu k) (z83_n k)
/-! ### overspill.overspillref09.table -/
noncomputable def z84U0 (_ : Nat) : List (Nat × Ent) := []
theorem z84U0_k (k : Nat) : UTab (z84U0 k) := UTab.nil
noncomputable def overspillref09_table (k : Nat) : Option (List (List UInt8)) :=
  some ([([49, 48, 32, 49, 49, 49, 49, 32, 48, 49, 48, 49, 48, 49, 32, 48, 48, 49, 48, 49, 49, 49, 32, 48, 48, 48, 49, 49, 49, 49, 49, 32, 48, 48, 48, 49, 48, 48, 49, 48, 49, 32, 48, 48, 48, 49, 48, 48, 49, 48, 48, 32, 48, 48, 48, 48, 49, 48, 48, 48, 48, 49, 32, 48, 48, 48, 48, 49, 48, 48, 48, 48, 48, 32, 48, 48, 48, 48, 48, 48, 48, 48, 49, 49, 49, 32, 48, 48, 48, 48, 48, 48, 48, 48, 49, 49, 48, 32, 48, 48, 48, 48, 48, 49, 48, 48, 48, 48, 48] : List UInt8), ([49, 49, 48, 32, 48, 49, 48, 49, 48, 48, 32, 48, 48, 48, 49, 49, 49, 49, 48, 32, 48, 48, 48, 48, 48, 48, 49, 49, 49, 49, 32, 48, 48, 48, 48, 48, 49, 48, 48, 48, 48, 49, 32, 48, 48, 48, 48, 48, 49, 48, 49, 48, 48, 48, 48] : List UInt8), ([49, 49, 49, 48, 32, 48, 48, 48, 49, 49, 49, 48, 49, 32, 48, 48, 48, 48, 48, 48, 49, 49, 49, 48, 32, 48, 48, 48, 48, 48, 49, 48, 49, 48, 48, 48, 49] : List UInt8), ([48, 49, 49, 48, 49, 32, 48, 48, 48, 49, 48, 48, 48, 49, 49, 32, 48, 48, 48, 48, 48, 48, 49, 49, 48, 49] : List UInt8), ([48, 49, 49, 48, 48, 32, 48, 48, 48, 49, 48, 48, 48, 49, 48, 32, 48, 48, 48, 48, 48, 49, 48, 49, 48, 48, 49, 48] : List UInt8), ([48, 49, 48, 49, 49, 32, 48, 48, 48, 48, 48, 48, 49, 49, 48, 48, 32, 48, 48, 48, 48, 48, 49, 48, 49, 48, 48, 49, 49] : List UInt8), ([48, 49, 48, 48, 49, 49, 32, 48, 48, 48, 48, 48, 48, 49, 48, 49, 49, 32, 48, 48, 48, 48, 48, 49, 48, 49, 48, 49, 48, 48] : List UInt8), ([48, 49, 48, 48, 49, 48, 32, 48, 48, 48, 48, 48, 48, 49, 48, 49, 48] : List UInt8), ([48, 49, 48, 48, 48, 49, 32, 48, 48, 48, 48, 48, 48, 49, 48, 48, 49] : List UInt8), ([48, 49, 48, 48, 48, 48, 32, 48, 48, 48, 48, 48, 48, 49, 48, 48, 48] : List UInt8), ([48, 48, 49, 48, 49, 49, 48, 32, 48, 48, 48, 48, 48, 49, 48, 49, 48, 49, 48, 49] : List UInt8), ([48, 48, 49, 48, 49, 48, 49] : List UInt8), ([48, 48, 49, 48, 49, 48, 48] : List UInt8), ([48, 48, 48, 49, 49, 49, 48, 48] : List UInt8), ([48, 48, 48, 49, 49, 48, 49, 49] : List UInt8), ([48, 48, 48, 49, 48, 48, 48, 48, 49] : List UInt8), ([48, 48, 48, 49, 48, 48, 48, 48, 48] : List UInt8), ([48, 48, 48, 48, 49, 49, 49, 49, 49] : List UInt8), ([48, 48, 48, 48, 49, 49, 49, 49, 48] : List UInt8), ([48, 48, 48, 48, 49, 49, 49, 48, 49] : List UInt8), ([48, 48, 48, 48, 49, 49, 49, 48, 48] : List UInt8), ([48, 48, 48, 48, 49, 49, 48, 49, 49] : List UInt8), ([48, 48, 48, 48, 49, 49, 48, 49, 48] : List UInt8), ([48, 48, 48, 48, 48, 49, 48, 48, 48, 49, 48] : List UInt8), ([48, 48, 48, 48, 48, 49, 48, 48, 48, 49, 49] : List UInt8), ([48, 48, 48, 48, 48, 49, 48, 49, 48, 49, 49, 48] : List UInt8), ([48, 48, 48, 48, 48, 49, 48, 49, 48, 49, 49, 49] : List UInt8)] : List (List UInt8))
noncomputable def z84b : AC :=
  (.seq (.region [(iO 0 (.nrow .str))])
  (.seq (.region [(iO 1 (.bslice .str [(.c (.tv .str (([49, 48, 32, 49, 49, 49, 49, 32, 48, 49, 48, 49, 48, 49, 32, 48, 48, 49, 48, 49, 49, 49, 32, 48, 48, 48, 49, 49, 49, 49, 49, 32, 48, 48, 48, 49, 48, 48, 49, 48, 49, 32, 48, 48, 48, 49, 48, 48, 49, 48, 48, 32, 48, 48, 48, 48, 49, 48, 48, 48, 48, 49, 32, 48, 48, 48, 48, 49, 48, 48, 48, 48, 48, 32, 48, 48, 48, 48, 48, 48, 48, 48, 49, 49, 49, 32, 48, 48, 48, 48, 48, 48, 48, 48, 49, 49, 48, 32, 48, 48, 48, 48, 48, 49, 48, 48, 48, 48, 48] : List UInt8) : List UInt8))), (.c (.tv .str (([49, 49, 48, 32, 48, 49, 48, 49, 48, 48, 32, 48, 48, 48, 49, 49, 49, 49, 48, 32, 48, 48, 48, 48, 48, 48, 49, 49, 49, 49, 32, 48, 48, 48, 48, 48, 49, 48, 48, 48, 48, 49, 32, 48, 48, 48, 48, 48, 49, 48, 49, 48, 48, 48, 48] : List UInt8) : List UInt8))), (.c (.tv .str (([49, 49, 49, 48, 32, 48, 48, 48, 49, 49, 49, 48, 49, 32, 48, 48, 48, 48, 48, 48, 49, 49, 49, 48, 32, 48, 48, 48, 48, 48, 49, 48, 49, 48, 48, 48, 49] : List UInt8) : List UInt8))), (.c (.tv .str (([48, 49, 49, 48, 49, 32, 48, 48, 48, 49, 48, 48, 48, 49, 49, 32, 48, 48, 48, 48, 48, 48, 49, 49, 48, 49] : List UInt8) : List UInt8))), (.c (.tv .str (([48, 49, 49, 48, 48, 32, 48, 48, 48, 49, 48, 48, 48, 49, 48, 32, 48, 48, 48, 48, 48, 49, 48, 49, 48, 48, 49, 48] : List UInt8) : List UInt8))), (.c (.tv .str (([48, 49, 48, 49, 49, 32, 48, 48, 48, 48, 48, 48, 49, 49, 48, 48, 32, 48, 48, 48, 48, 48, 49, 48, 49, 48, 48, 49, 49] : List UInt8) : List UInt8))), (.c (.tv .str (([48, 49, 48, 48, 49, 49, 32, 48, 48, 48, 48, 48, 48, 49, 48, 49, 49, 32, 48, 48, 48, 48, 48, 49, 48, 49, 48, 49, 48, 48] : List UInt8) : List UInt8))), (.c (.tv .str (([48, 49, 48, 48, 49, 48, 32, 48, 48, 48, 48, 48, 48, 49, 48, 49, 48] : List UInt8) : List UInt8))), (.c (.tv .str (([48, 49, 48, 48, 48, 49, 32, 48, 48, 48, 48, 48, 48, 49, 48, 48, 49] : List UInt8) : List UInt8))), (.c (.tv .str (([48, 49, 48, 48, 48, 48, 32, 48, 48, 48, 48, 48, 48, 49, 48, 48, 48] : List UInt8) : List UInt8))), (.c (.tv .str (([48, 48, 49, 48, 49, 49, 48, 32, 48, 48, 48, 48, 48, 49, 48, 49, 48, 49, 48, 49] : List UInt8) : List UInt8))), (.c (.tv .str (([48, 48, 49, 48, 49, 48, 49] : List UInt8) : List UInt8))), (.c (.tv .str (([48, 48, 49, 48, 49, 48, 48] : List UInt8) : List UInt8))), (.c (.tv .str (([48, 48, 48, 49, 49, 49, 48, 48] : List UInt8) : List UInt8))), (.c (.tv .str (([48, 48, 48, 49, 49, 48, 49, 49] : List UInt8) : List UInt8))), (.c (.tv .str (([48, 48, 48, 49, 48, 48, 48, 48, 49] : List UInt8) : List UInt8))), (.c (.tv .str (([48, 48, 48, 49, 48, 48, 48, 48, 48] : List UInt8) : List UInt8))), (.c (.tv .str (([48, 48, 48, 48, 49, 49, 49, 49, 49] : List UInt8) : List UInt8))), (.c (.tv .str (([48, 48, 48, 48, 49, 49, 49, 49, 48] : List UInt8) : List UInt8))), (.c (.tv .str (([48, 48, 48, 48, 49, 49, 49, 48, 49] : List UInt8) : List UInt8))), (.c (.tv .str (([48, 48, 48, 48, 49, 49, 49, 48, 48] : List UInt8) : List UInt8))), (.c (.tv .str (([48, 48, 48, 48, 49, 49, 48, 49, 49] : List UInt8) : List UInt8))), (.c (.tv .str (([48, 48, 48, 48, 49, 49, 48, 49, 48] : List UInt8) : List UInt8))), (.c (.tv .str (([48, 48, 48, 48, 48, 49, 48, 48, 48, 49, 48] : List UInt8) : List UInt8))), (.c (.tv .str (([48, 48, 48, 48, 48, 49, 48, 48, 48, 49, 49] : List UInt8) : List UInt8))), (.c (.tv .str (([48, 48, 48, 48, 48, 49, 48, 49, 48, 49, 49, 48] : List UInt8) : List UInt8))), (.c (.tv .str (([48, 48, 48, 48, 48, 49, 48, 49, 48, 49, 49, 49] : List UInt8) : List UInt8)))])),
    (iO 0 (.mv (.t 1)))])
  .ret))
noncomputable def z84f : FDef := ⟨0, 2, [.tmp 0 (some (.sl .str))], z84b⟩
noncomputable def z84p : XPat := ⟨.normal, [], []⟩
noncomputable def z84x : List XPat := [⟨.ret, [(.tv (.sl .str))], []⟩]
noncomputable def z84t (k : Nat) (d : z84p.D) : Option (XD z84x) := overspillref09_table k
noncomputable def z84_e (k : Nat) : UEntry := mkU z84p z84x (z84t k) nilU
theorem z84_n (k : Nat) : UNat (z84_e k) := mkU_nat nilU_nat
theorem z84_fu (k : Nat) : FU P GL 99 (z84_e k) :=
  fn_typed (uorc := uorT (z84U0 k)) hmo (T83_ok k).oo (z84U0_k k) (fd := z84f) (AllU.no (by kernel_rfl)) (fn := Tryd.f99) (by kernel_rfl) (by kernel_rfl) (fun d => by kernel_rfl) FU_nil
noncomputable def T84 (k : Nat) : List (Nat × Ent) := (99, ⟨z84_e k⟩) :: T83 k
theorem T84_ok (k : Nat) : TabOK P GL (T84 k) := (T83_ok k).cons (z84_fu k) (z84_n k)
/-! ### overspill.overspillref09.ends -/
noncomputable def z85U0 (_ : Nat) : List (Nat × Ent) := []
theorem z85U0_k (k : Nat) : UTab (z85U0 k) := UTab.nil
noncomputable def overspillref09_ends (k : Nat) : Option (List (List UInt8)) :=
  some ([([48, 49, 49, 49, 32, 48, 48, 48, 48, 49, 49, 48, 48, 49, 32, 48, 48, 48, 48, 48, 48, 48, 48, 49, 48, 49] : List UInt8), ([48, 48, 49, 49, 49, 49, 32, 48, 48, 48, 48, 48, 48, 48, 48, 49, 48, 48] : List UInt8), ([48, 48, 49, 49, 49, 48] : List UInt8), ([48, 48, 49, 49, 48, 49] : List UInt8), ([48, 48, 49, 49, 48, 48] : List UInt8), ([48, 48, 49, 48, 48, 49, 49] : List UInt8), ([48, 48, 49, 48, 48, 49, 48] : List UInt8), ([48, 48, 49, 48, 48, 48, 49] : List UInt8), ([48, 48, 49, 48, 48, 48, 48] : List UInt8), ([48, 48, 48, 49, 49, 48, 49, 48] : List UInt8), ([48, 48, 48, 49, 49, 48, 48, 49] : List UInt8), ([48, 48, 48, 49, 49, 48, 48, 48] : List UInt8), ([48, 48, 48, 49, 48, 49, 49, 49] : List UInt8), ([48, 48, 48, 49, 48, 49, 49, 48] : List UInt8), ([48, 48, 48, 49, 48, 49, 48, 49] : List UInt8), ([48, 48, 48, 49, 48, 49, 48, 48] : List UInt8), ([48, 48, 48, 49, 48, 48, 49, 49] : List UInt8), ([48, 48, 48, 48, 49, 49, 48, 48, 48] : List UInt8), ([48, 48, 48, 48, 49, 48, 49, 49, 49] : List UInt8), ([48, 48, 48, 48, 49, 48, 49, 49, 48] : List UInt8), ([48, 48, 48, 48, 49, 48, 49, 48, 49] : List UInt8), ([48, 48, 48, 48, 49, 48, 49, 48, 48] : List UInt8), ([48, 48, 48, 48, 49, 48, 48, 49, 49] : List UInt8), ([48, 48, 48, 48, 49, 48, 48, 49, 48] : List UInt8), ([48, 48, 48, 48, 49, 48, 48, 48, 49] : List UInt8), ([48, 48, 48, 48, 48, 48, 48, 49, 49, 49] : List UInt8), ([48, 48, 48, 48, 48, 48, 48, 49, 49, 48] : List UInt8), ([48, 48, 48, 48, 48, 48, 48, 49, 48, 49] : List UInt8), ([48, 48, 48, 48, 48, 48, 48, 49, 48, 48] : List UInt8), ([48, 48, 48, 48, 48, 49, 48, 48, 49, 48, 48] : List UInt8), ([48, 48, 48, 48, 48, 49, 48, 48, 49, 48, 49] : List UInt8), ([48, 48, 48, 48, 48, 49, 48, 48, 49, 49, 48] : List UInt8), ([48, 48, 48, 48, 48, 49, 48, 48, 49, 49, 49] : List UInt8), ([48, 48, 48, 48, 48, 49, 48, 49, 49, 48, 48, 48] : List UInt8), ([48, 48, 48, 48, 48, 49, 48, 49, 49, 48, 48, 49] : List UInt8), ([48, 48, 48, 48, 48, 49, 48, 49, 49, 48, 49, 48] : List UInt8), ([48, 48, 48, 48, 48, 49, 48, 49, 49, 48, 49, 49] : List UInt8), ([48, 48, 48, 48, 48, 49, 48, 49, 49, 49, 48, 48] : List UInt8), ([48, 48, 48, 48, 48, 49, 48, 49, 49, 49, 48, 49] : List UInt8), ([48, 48, 48, 48, 48, 49, 48, 49, 49, 49, 49, 48] : List UInt8), ([48, 48, 48, 48, 48, 49, 48, 49, 49, 49, 49, 49] : List UInt8)] : List (List UInt8))
noncomputable def z85b : AC :=
  (.seq (.region [(iO 0 (.nrow .str))])
  (.seq (.region [(iO 1 (.bslice .str [(.c (.tv .str (([48, 49, 49, 49, 32, 48, 48, 48, 48, 49, 49, 48, 48, 49, 32, 48, 48, 48, 48, 48, 48, 48, 48, 49, 48, 49] : List UInt8) : List UInt8))), (.c (.tv .str (([48, 48, 49, 49, 49, 49, 32, 48, 48, 48, 48, 48, 48, 48, 48, 49, 48, 48] : List UInt8) : List UInt8))), (.c (.tv .str (([48, 48, 49, 49, 49, 48] : List UInt8) : List UInt8))), (.c (.tv .str (([48, 48, 49, 49, 48, 49] : List UInt8) : List UInt8))), (.c (.tv .str (([48, 48, 49, 49, 48, 48] : List UInt8) : List UInt8))), (.c (.tv .str (([48, 48, 49, 48, 48, 49, 49] : List UInt8) : List UInt8))), (.c (.tv .str (([48, 48, 49, 48, 48, 49, 48] : List UInt8) : List UInt8))), (.c (.tv .str (([48, 48, 49, 48, 48, 48, 49] : List UInt8) : List UInt8))), (.c (.tv .str (([48, 48, 49, 48, 48, 48, 48] : List UInt8) : List UInt8))), (.c (.tv .str (([48, 48, 48, 49, 49, 48, 49, 48] : List UInt8) : List UInt8))), (.c (.tv .str (([48, 48, 48, 49, 49, 48, 48, 49] : List UInt8) : List UInt8))), (.c (.tv .str (([48, 48, 48, 49, 49, 48, 48, 48] : List UInt8) : List UInt8))), (.c (.tv .str (([48, 48, 48, 49, 48, 49, 49, 49] : List UInt8) : List UInt8))), (.c (.tv .str (([48, 48, 48, 49, 48, 49, 49, 48] : List UInt8) : List UInt8))), (.c (.tv .str (([48, 48, 48, 49, 48, 49, 48, 49] : List UInt8) : List UInt8))), (.c (.tv .str (([48, 48, 48, 49, 48, 49, 48, 48] : List UInt8) : List UInt8))), (.c (.tv .str (([48, 48, 48, 49, 48, 48, 49, 49] : List UInt8) : List UInt8))), (.c (.tv .str (([48, 48, 48, 48, 49, 49, 48, 48, 48] : List UInt8) : List UInt8))), (.c (.tv .str (([48, 48, 48, 48, 49, 48, 49, 49, 49] : List UInt8) : List UInt8))), (.c (.tv .str (([48, 48, 48, 48, 49, 48, 49, 49, 48] : List UInt8) : List UInt8))), (.c (.tv .str (([48, 48, 48, 48, 49, 48, 49, 48, 49] : List UInt8) : List UInt8))), (.c (.tv .str (([48, 48, 48, 48, 49, 48, 49, 48, 48] : List UInt8) : List UInt8))), (.c (.tv .str (([48, 48, 48, 48, 49, 48, 48, 49, 49] : List UInt8) : List UInt8))), (.c (.tv .str (([48, 48, 48, 48, 49, 48, 48, 49, 48] : List UInt8) : List UInt8))), (.c (.tv .str (([48, 48, 48, 48, 49, 48, 48, 48, 49] : List UInt8) : List UInt8))), (.c (.tv .str (([48, 48, 48, 48, 48, 48, 48, 49, 49, 49] : List UInt8) : List UInt8))), (.c (.tv .str (([48, 48, 48, 48, 48, 48, 48, 49, 49, 48] : List UInt8) : List UInt8))), (.c (.tv .str (([48, 48, 48, 48, 48, 48, 48, 49, 48, 49] : List UInt8) : List UInt8))), (.c (.tv .str (([48, 48, 48, 48, 48, 48, 48, 49, 48, 48] : List UInt8) : List UInt8))), (.c (.tv .str (([48, 48, 48, 48, 48, 49, 48, 48, 49, 48, 48] : List UInt8) : List UInt8))), (.c (.tv .str (([48, 48, 48, 48, 48, 49, 48, 48, 49, 48, 49] : List UInt8) : List UInt8))), (.c (.tv .str (([48, 48, 48, 48, 48, 49, 48, 48, 49, 49, 48] : List UInt8) : List UInt8))), (.c (.tv .str (([48, 48, 48, 48, 48, 49, 48, 48, 49, 49, 49] : List UInt8) : List UInt8))), (.c (.tv .str (([48, 48, 48, 48, 48, 49, 48, 49, 49, 48, 48, 48] : List UInt8) : List UInt8))), (.c (.tv .str (([48, 48, 48, 48, 48, 49, 48, 49, 49, 48, 48, 49] : List UInt8) : List UInt8))), (.c (.tv .str (([48, 48, 48, 48, 48, 49, 48, 49, 49, 48, 49, 48] : List UInt8) : List UInt8))), (.c (.tv .str (([48, 48, 48, 48, 48, 49, 48, 49, 49, 48, 49, 49] : List UInt8) : List UInt8))), (.c (.tv .str (([48, 48, 48, 48, 48, 49, 48, 49, 49, 49, 48, 48] : List UInt8) : List UInt8))), (.c (.tv .str (([48, 48, 48, 48, 48, 49, 48, 49, 49, 49, 48, 49] : List UInt8) : List UInt8))), (.c (.tv .str (([48, 48, 48, 48, 48, 49, 48, 49, 49, 49, 49, 48] : List UInt8) : List UInt8))), (.c (.tv .str (([48, 48, 48, 48, 48, 49, 48, 49, 49, 49, 49, 49] : List UInt8) : List UInt8)))])),
    (iO 0 (.mv (.t 1)))])
  .ret))
noncomputable def z85f : FDef := ⟨0, 2, [.tmp 0 (some (.sl .str))], z85b⟩
noncomputable def z85p : XPat := ⟨.normal, [], []⟩
noncomputable def z85x : List XPat := [⟨.ret, [(.tv (.sl .str))], []⟩]
noncomputable def z85t (k : Nat) (d : z85p.D) : Option (XD z85x) := overspillref09_ends k
noncomputable def z85_e (k : Nat) : UEntry := mkU z85p z85x (z85t k) nilU
theorem z85_n (k : Nat) : UNat (z85_e k) := mkU_nat nilU_nat
theorem z85_fu (k : Nat) : FU P GL 100 (z85_e k) :=
  fn_typed (uorc := uorT (z85U0 k)) hmo (T84_ok k).oo (z85U0_k k) (fd := z85f) (AllU.no (by kernel_rfl)) (fn := Tryd.f100) (by kernel_rfl) (by kernel_rfl) (fun d => by kernel_rfl) FU_nil
noncomputable def T85 (k : Nat) : List (Nat × Ent) := (100, ⟨z85_e k⟩) :: T84 k
theorem T85_ok (k : Nat) : TabOK P GL (T85 k) := (T84_ok k).cons (z85_fu k) (z85_n k)
/-! ### overspill.overspillref09.words -/
noncomputable def z86U0 (_ : Nat) : List (Nat × Ent) := []
theorem z86U0_k (k : Nat) : UTab (z86U0 k) := UTab.nil
noncomputable def z86u0d : UDef := ⟨[(0, none), (3, none), (4, none)], [3, 4, 6, 7, 8, 9, 10, 11, 12, 13, 14, 15, 16, 17, 18, 19, 20, 21, 22, 23, 24, 25, 26, 27, 28, 29, 30, 31, 32, 33, 34, 35], [((.exit 0), [(3, none)])], []⟩
noncomputable def z86u0p : XPat := ⟨.normal, [(.tv .str), (.row 0), (.tv (.int .i64))], [(.row .str false)]⟩
noncomputable def z86u0x : List XPat := [⟨(.exit 0), [(.row 0)], [(.row .str false)]⟩]
noncomputable def overspillref09_wordsu0 (k : Nat) : Nat → (List UInt8) → (Int) → (List (List UInt8)) → Option ((Unit) × (List (List UInt8)))
  | 0, _, _, _ => none
  | n + 1, x0, x1, x2 =>
    bif (decide (x1 < ((List.length x0 : Nat) : Int))) then
      bif (inR x1 (List.length x0)) then
        bif (decide (((UInt8.toNat (List.getD x0 (Int.toNat x1) 0) : Nat) : Int) = 32)) then
          bif (decide ((List.length x2) + 1 ≤ rowMax)) then
            Option.bind (overspillref09_wordsu0 k n x0 (wr .i64 (x1 + 1)) (x2 ++ ([([] : List UInt8)] : List (List UInt8)))) fun r => some r
          else
            none
        else
        bif (inR (wr .i64 (((List.length x2 : Nat) : Int) - 1)) (List.length x2)) then
          bif (decide ((0 : Int) ≤ x1 ∧ x1 ≤ (wr .i64 (x1 + 1)) ∧ (wr .i64 (x1 + 1)) ≤ (((List.length x0) : Nat) : Int))) then
            bif (decide ((List.length (List.getD x2 (Int.toNat (wr .i64 (((List.length x2 : Nat) : Int) - 1))) ([] : List UInt8))) + (List.length (List.drop (Int.toNat x1) (List.take (Int.toNat (wr .i64 (x1 + 1))) x0))) ≤ strMax)) then
              bif (inR (wr .i64 (((List.length x2 : Nat) : Int) - 1)) (List.length x2)) then
                Option.bind (overspillref09_wordsu0 k n x0 (wr .i64 (x1 + 1)) (List.set x2 (Int.toNat (wr .i64 (((List.length x2 : Nat) : Int) - 1))) ((List.getD x2 (Int.toNat (wr .i64 (((List.length x2 : Nat) : Int) - 1))) ([] : List UInt8)) ++ (List.drop (Int.toNat x1) (List.take (Int.toNat (wr .i64 (x1 + 1))) x0))))) fun r => some r
              else
                none
            else
              none
          else
            none
        else
          none
      else
        none
    else
    some ((), x2)
noncomputable def z86u0b : AC :=
  (.seq (.seq (.region [(iO 6 (.mv (.t 4))),
    (iO 7 (.mv (.t 0))),
    (iO 8 (.lens (.t 7))),
    (iO 9 (.bin .lss (.t 6) (.t 8)))])
  (.cond (.t 9)
  .skip
  (.exit 0)))
  (.seq (.block 1 (.seq (.region [(iO 12 (.mv (.t 0))),
    (iO 13 (.mv (.t 4))),
    (iO 14 (.ixs (.t 12) (.t 13))),
    (iO 15 (.bin .eql (.t 14) (.c (.tv (.int .u8) (32 : Int)))))])
  (.cond (.t 15)
  (.region [(iO 16 (.mv (.t 3))),
      (iO 17 (.bslice .str [(.c (.tv .str (([] : List UInt8) : List UInt8)))])),
      (iO 18 (.app .str (.t 16) (.t 17))),
      (iO 3 (.mv (.t 18)))])
  (.draw [(iO 19 (.mv (.t 3))),
      (iO 20 (.mv (.t 3))),
      (iOa 21 (.len (.t 20)) [1]),
      (iOa 22 (.bin .sub (.t 21) (nI 1)) [1, 2]),
      (iO 23 (.mv (.t 3))),
      (iO 24 (.mv (.t 3))),
      (iOa 25 (.len (.t 24)) [5]),
      (iOa 26 (.bin .sub (.t 25) (nI 1)) [5, 6]),
      (iOa 27 (.iads .str (.t 23) (.t 26)) (rg [4, 4])),
      (iOa 28 (.load false 1 (.t 27)) (rg [4, 5])),
      (iO 29 (.mv (.t 0))),
      (iO 30 (.mv (.t 4))),
      (iO 31 (.mv (.t 4))),
      (iOa 32 (.bin .add (.t 31) (nI 1)) [12]),
      (iOa 33 (.slis (.t 29) (some (.t 30)) (some (.t 32))) (rg [10, 4])),
      (iOa 34 (.bin .add (.t 28) (.t 33)) (rg [4, 11])),
      (iOa 35 (.iads .str (.t 19) (.t 22)) (rg [0, 16])),
      (iSa (.store 1 none (.t 35) (.t 34)) (rg [0, 17]))]))))
  (.region [(iO 10 (.mv (.t 4))),
    (iO 11 (.bin .add (.t 10) (nI 1))),
    (iO 4 (.mv (.t 11)))])))
noncomputable def z86u0t (k n : Nat) (d : z86u0p.D) : Option (XD z86u0x) := overspillref09_wordsu0 k n d.1.1 d.1.2.2 d.2
theorem z86u0_k (k : Nat) : UOK P GL (mkU z86u0p z86u0x (z86u0t k k) nilU) z86u0d true z86u0b :=
  loop_typed (ud := z86u0d) (body := z86u0b) (uorc := uorT (z86U0 k)) hmo (T85_ok k).oo (z86U0_k k) (AllU.no (by kernel_rfl)) (t := z86u0t k) (fun d => by kernel_rfl) (fun n d => by kernel_rfl) k
noncomputable def z86U1 (k : Nat) : List (Nat × Ent) := (0, ⟨mkU z86u0p z86u0x (z86u0t k k) nilU⟩) :: z86U0 k
theorem z86U1_k (k : Nat) : UTab (z86U1 k) := (z86U0_k k).cons (mkU_nat nilU_nat)
noncomputable def overspillref09_words (k : Nat) (x0 : List UInt8) : Option (List (List UInt8)) :=
  Option.bind (overspillref09_wordsu0 k k x0 0 ([([] : List UInt8)] : List (List UInt8))) fun (v388 : (Unit) × (List (List UInt8))) =>
  some v388.2
noncomputable def z86b : AC :=
  (.seq (.region [(iO 2 (.nrow .str))])
  (.seq (.region [(iO 5 (.bslice .str [(.c (.tv .str (([] : List UInt8) : List UInt8)))])),
    (iO 3 (.mv (.t 5)))])
  (.seq (.seq (.region [(iO 4 (.mv (nI 0)))])
  (.block 0 (.unit 0 z86u0d true z86u0b)))
  (.seq (.region [(iO 36 (.mv (.t 3))),
    (iO 2 (.mv (.t 36)))])
  .ret))))
noncomputable def z86f : FDef := ⟨1, 37, [.tmp 2 (some (.sl .str))], z86b⟩
noncomputable def z86p : XPat := ⟨.normal, [(.tv .str)], []⟩
noncomputable def z86x : List XPat := [⟨.ret, [(.tv (.sl .str))], []⟩]
noncomputable def z86t (k : Nat) (d : z86p.D) : Option (XD z86x) := overspillref09_words k d
noncomputable def z86_e (k : Nat) : UEntry := mkU z86p z86x (z86t k) nilU
theorem z86_n (k : Nat) : UNat (z86_e k) := mkU_nat nilU_nat
theorem z86_fu (k : Nat) : FU P GL 101 (z86_e k) :=
  fn_typed (uorc := uorT (z86U1 k)) hmo (T85_ok k).oo (z86U1_k k) (fd := z86f) (AllU.seq (AllU.no (by kernel_rfl)) (AllU.seq (AllU.no (by kernel_rfl)) (AllU.seq (AllU.seq (AllU.no (by kernel_rfl)) (AllU.block (AllU.unit (uorc := uorT (z86U1 k)) (u := 0) (z86u0_k k)))) (AllU.no (by kernel_rfl))))) (fn := Tryd.f101) (by kernel_rfl) (by kernel_rfl) (fun d => by kernel_rfl) FU_nil
noncomputable def T86 (k : Nat) : List (Nat × Ent) := (101, ⟨z86_e k⟩) :: T85 k
theorem T86_ok (k : Nat) : TabOK P GL (T86 k) := (T85_ok k).cons (z86_fu k) (z86_n k)
/-! ### overspill.overspillref09.rows -/
noncomputable def z87U0 (_ : Nat) : List (Nat × Ent) := []
theorem z87U0_k (k : Nat) : UTab (z87U0 k) := UTab.nil
noncomputable def z87u0d : UDef := ⟨[(5, none), (7, none)], [5, 8], [(.normal, [(5, none)])], []⟩
noncomputable def z87u0p : XPat := ⟨.normal, [(.tv (.sl .str)), (.tv .bool)], []⟩
noncomputable def z87u0x : List XPat := [⟨.normal, [(.tv (.sl .str))], []⟩]
noncomputable def overspillref09_rowsu0 (k : Nat) (x0 : List (List UInt8)) (x1 : Bool) : Option (List (List UInt8)) :=
  bif x1 then
    Option.bind (overspillref09_ends k) fun (v386 : List (List UInt8)) =>
    some v386
  else
  some x0
noncomputable def z87u0b : AC :=
  (.cond (.t 7)
  (.region [(iC 8 100 []),
      (iO 5 (.mv (.t 8)))])
  .skip)
noncomputable def z87u0t (k : Nat) (d : z87u0p.D) : Option (XD z87u0x) := overspillref09_rowsu0 k d.1 d.2
theorem z87u0_k (k : Nat) : UOK P GL (mkU z87u0p z87u0x (z87u0t k) nilU) z87u0d false z87u0b :=
  unit_typed (ud := z87u0d) (body := z87u0b) (uorc := uorT (z87U0 k)) hmo (T86_ok k).oo (z87U0_k k) (AllU.no (by kernel_rfl)) (fun d => by kernel_rfl)
noncomputable def z87U1 (k : Nat) : List (Nat × Ent) := (0, ⟨mkU z87u0p z87u0x (z87u0t k) nilU⟩) :: z87U0 k
theorem z87U1_k (k : Nat) : UTab (z87U1 k) := (z87U0_k k).cons (mkU_nat nilU_nat)
noncomputable def overspillref09_rows (k : Nat) (x0 : Bool) (x1 : Int) : Option (List (List UInt8)) :=
  Option.bind (overspillref09_table k) fun (v384 : List (List UInt8)) =>
  Option.bind (overspillref09_rowsu0 k v384 x0) fun (v387 : List (List UInt8)) =>
  bif (decide (((List.length v387 : Nat) : Int) ≤ x1)) then
    some ([] : List (List UInt8))
  else
  bif (inR x1 (List.length v387)) then
    Option.bind (overspillref09_words k (List.getD v387 (Int.toNat x1) ([] : List UInt8))) fun (v389 : List (List UInt8)) =>
    some v389
  else
    none
noncomputable def z87b : AC :=
  (.seq (.region [(iO 4 (.mv (.c (.tv (.sl .str) (([] : List (List UInt8)) : List (List UInt8))))))])
  (.seq (.region [(iC 6 99 []),
    (iO 5 (.mv (.t 6)))])
  (.seq (.seq (.region [(iO 7 (.mv (.t 0)))])
  (.unit 0 z87u0d false z87u0b))
  (.seq (.seq (.region [(iO 9 (.mv (.t 1))),
    (iO 10 (.mv (.t 5))),
    (iO 11 (.len (.t 10))),
    (iO 12 (.bin .geq (.t 9) (.t 11)))])
  (.cond (.t 12)
  (.seq (.region [(iO 4 (.mv (.c (.tv (.sl .str) (([] : List (List UInt8)) : List (List UInt8))))))])
    .ret)
  .skip))
  (.seq (.region [(iO 13 (.mv (.t 5))),
    (iO 14 (.mv (.t 1))),
    (iO 15 (.iads .str (.t 13) (.t 14))),
    (iO 16 (.load false 1 (.t 15))),
    (iC 17 101 [((.t 16), none)]),
    (iO 4 (.mv (.t 17)))])
  .ret)))))
noncomputable def z87f : FDef := ⟨2, 18, [.tmp 4 (some (.sl .str))], z87b⟩
noncomputable def z87p : XPat := ⟨.normal, [(.tv .bool), (.tv (.int .i64))], []⟩
noncomputable def z87x : List XPat := [⟨.ret, [(.tv (.sl .str))], []⟩]
noncomputable def z87t (k : Nat) (d : z87p.D) : Option (XD z87x) := overspillref09_rows k d.1 d.2
noncomputable def z87_e (k : Nat) : UEntry := mkU z87p z87x (z87t k) nilU
theorem z87_n (k : Nat) : UNat (z87_e k) := mkU_nat nilU_nat
theorem z87_fu (k : Nat) : FU P GL 84 (z87_e k) :=
  fn_typed (uorc := uorT (z87U1 k)) hmo (T86_ok k).oo (z87U1_k k) (fd := z87f) (AllU.seq (AllU.no (by kernel_rfl)) (AllU.seq (AllU.no (by kernel_rfl)) (AllU.seq (AllU.seq (AllU.no (by kernel_rfl)) (AllU.unit (uorc := uorT (z87U1 k)) (u := 0) (z87u0_k k))) (AllU.no (by kernel_rfl))))) (fn := Tryd.f84) (by kernel_rfl) (by kernel_rfl) (fun d => by kernel_rfl) FU_nil
noncomputable def T87 (k : Nat) : List (Nat × Ent) := (84, ⟨z87_e k⟩) :: T86 k
theorem T87_ok (k : Nat) : TabOK P GL (T87 k) := (T86_ok k).cons (z87_fu k) (z87_n k)
/-! ### overspill.overspillref05.begins -/
noncomputable def z88U0 (_ : Nat) : List (Nat × Ent) := []
theorem z88U0_k (k : Nat) : UTab (z88U0 k) := UTab.nil
noncomputable def overspillref05_begins (k : Nat) (x0 : List UInt8) (x1 : List UInt8) : Option (Bool) :=
  bif (decide (((List.length x1 : Nat) : Int) ≤ ((List.length x0 : Nat) : Int))) then
    bif (decide ((0 : Int) ≤ ((List.length x1 : Nat) : Int) ∧ ((List.length x1 : Nat) : Int) ≤ (((List.length x0) : Nat) : Int))) then
      some (decide ((List.drop 0 (List.take (Int.toNat ((List.length x1 : Nat) : Int)) x0)) = x1))
    else
      none
  else
  some false
noncomputable def z88b : AC :=
  (.seq (.region [(iO 4 (.mv (.c (.tv .bool (false : Bool)))))])
  (.seq (.region [(iO 5 (.mv (.t 0))),
    (iO 6 (.lens (.t 5))),
    (iO 7 (.mv (.t 1))),
    (iO 8 (.lens (.t 7))),
    (iO 9 (.bin .geq (.t 6) (.t 8))),
    (iO 10 (.mv (.t 9))),
    ⟨some 11, some (5, 10, true), (.op (.mv (.t 0))), []⟩,
    ⟨some 12, some (5, 10, true), (.op (.mv (.t 1))), []⟩,
    ⟨some 13, some (5, 10, true), (.op (.lens (.t 12))), []⟩,
    ⟨some 14, some (5, 10, true), (.op (.slis (.t 11) none (some (.t 13)))), []⟩,
    ⟨some 15, some (5, 10, true), (.op (.mv (.t 1))), []⟩,
    ⟨some 16, some (5, 10, true), (.op (.bin .eql (.t 14) (.t 15))), []⟩,
    (iO 17 (.pick (.t 10) (.t 16) (.c (.tv .bool (false : Bool))))),
    (iO 4 (.mv (.t 17)))])
  .ret))
noncomputable def z88f : FDef := ⟨2, 18, [.tmp 4 none], z88b⟩
noncomputable def z88p : XPat := ⟨.normal, [(.tv .str), (.tv .str)], []⟩
noncomputable def z88x : List XPat := [⟨.ret, [(.tv .bool)], []⟩]
noncomputable def z88t (k : Nat) (d : z88p.D) : Option (XD z88x) := overspillref05_begins k d.1 d.2
noncomputable def z88_e (k : Nat) : UEntry := mkU z88p z88x (z88t k) nilU
theorem z88_n (k : Nat) : UNat (z88_e k) := mkU_nat nilU_nat
theorem z88_fu (k : Nat) : FU P GL 82 (z88_e k) :=
  fn_typed (uorc := uorT (z88U0 k)) hmo (T87_ok k).oo (z88U0_k k) (fd := z88f) (AllU.no (by kernel_rfl)) (fn := Tryd.f82) (by kernel_rfl) (by kernel_rfl) (fun d => by kernel_rfl) FU_nil
noncomputable def T88 (k : Nat) : List (Nat × Ent) := (82, ⟨z88_e k⟩) :: T87 k
theorem T88_ok (k : Nat) : TabOK P GL (T88 k) := (T87_ok k).cons (z88_fu k) (z88_n k)
/-! ### overspill.overspillref05.Take -/
noncomputable def z89U0 (_ : Nat) : List (Nat × Ent) := []
theorem z89U0_k (k : Nat) : UTab (z89U0 k) := UTab.nil
noncomputable def z89u0d : UDef := ⟨[(0, none), (1, none), (2, none), (9, none), (10, none), (11, none)], [6, 7, 8, 10, 11, 23, 24, 25, 26, 27, 28, 29, 30, 31, 32, 33, 34, 35, 36, 37, 38, 39, 40, 41, 42, 43, 44, 45, 46, 47, 48, 49, 50, 51, 52, 53, 54, 55, 56, 57], [(.ret, [(6, none), (7, none), (8, none)]), ((.exit 2), [(10, none)])], []⟩
noncomputable def z89u0p : XPat := ⟨.normal, [(.tv (.sl .str)), (.tv .str), (.tv (.int .i64)), (.tv (.int .i64)), (.tv .bool), (.tv (.int .i64))], []⟩
noncomputable def z89u0x : List XPat := [⟨.ret, [(.tv (.int .i64)), (.tv (.int .i64)), (.tv (.int .i64))], []⟩, ⟨(.exit 2), [(.tv .bool)], []⟩]
noncomputable def overspillref05_Takeu0 (k : Nat) : Nat → (List (List UInt8)) → (List UInt8) → (Int) → (Int) → (Bool) → (Int) → Option (((Int) × ((Int) × (Int))) ⊕ (Bool))
  | 0, _, _, _, _, _, _ => none
  | n + 1, x0, x1, x2, x3, x4, x5 =>
    bif (decide (x5 < ((List.length x0 : Nat) : Int))) then
      bif (inR x5 (List.length x0)) then
        bif (decide ((0 : Int) ≤ x2 ∧ x2 ≤ (wr .i64 (x2 + x3)) ∧ (wr .i64 (x2 + x3)) ≤ (((List.length x1) : Nat) : Int))) then
          bif (decide ((List.getD x0 (Int.toNat x5) ([] : List UInt8)) = (List.drop (Int.toNat x2) (List.take (Int.toNat (wr .i64 (x2 + x3))) x1)))) then
            some (Sum.inl (x5, ((wr .i64 (x2 + x3)), 0)))
          else
          bif x4 then
            Option.bind (overspillref05_Takeu0 k n x0 x1 x2 x3 true (wr .i64 (x5 + 1))) fun r => Sum.elim (fun w => some (Sum.inl w)) (fun w => some (Sum.inr w)) r
          else
          bif (inR x5 (List.length x0)) then
            bif (decide ((0 : Int) ≤ x2 ∧ x2 ≤ (wr .i64 (x2 + x3)) ∧ (wr .i64 (x2 + x3)) ≤ (((List.length x1) : Nat) : Int))) then
              Option.bind (overspillref05_begins k (List.getD x0 (Int.toNat x5) ([] : List UInt8)) (List.drop (Int.toNat x2) (List.take (Int.toNat (wr .i64 (x2 + x3))) x1))) fun (v398 : Bool) =>
              Option.bind (overspillref05_Takeu0 k n x0 x1 x2 x3 v398 (wr .i64 (x5 + 1))) fun r => Sum.elim (fun w => some (Sum.inl w)) (fun w => some (Sum.inr w)) r
            else
              none
          else
            none
        else
          none
      else
        none
    else
    some (Sum.inr x4)
noncomputable def z89u0b : AC :=
  (.seq (.seq (.region [(iO 23 (.mv (.t 11))),
    (iO 24 (.mv (.t 0))),
    (iO 25 (.len (.t 24))),
    (iO 26 (.bin .lss (.t 23) (.t 25)))])
  (.cond (.t 26)
  .skip
  (.exit 2)))
  (.seq (.block 3 (.seq (.seq (.draw [(iO 29 (.mv (.t 0))),
    (iO 30 (.mv (.t 11))),
    (iOa 31 (.iads .str (.t 29) (.t 30)) [0, 1]),
    (iOa 32 (.load false 1 (.t 31)) [0, 1, 2]),
    (iO 33 (.mv (.t 1))),
    (iO 34 (.mv (.t 2))),
    (iO 35 (.mv (.t 2))),
    (iO 36 (.mv (.t 9))),
    (iOa 37 (.bin .add (.t 35) (.t 36)) [6, 7]),
    (iOa 38 (.slis (.t 33) (some (.t 34)) (some (.t 37))) (rg [4, 5])),
    (iOa 39 (.bin .eql (.t 32) (.t 38)) (rg [0, 10]))])
  (.cond (.t 39)
  (.seq (.region [(iO 40 (.mv (.t 11))),
      (iO 41 (.mv (.t 2))),
      (iO 42 (.mv (.t 9))),
      (iO 43 (.bin .add (.t 41) (.t 42))),
      (iO 6 (.mv (.t 40))),
      (iO 7 (.mv (.t 43))),
      (iO 8 (.mv (nI 0)))])
    .ret)
  .skip))
  (.draw [(iO 44 (.mv (.t 10))),
    (iOa 45 (.mv (.t 44)) [0]),
    ⟨some 46, some (1, 45, false), (.op (.mv (.t 0))), [0, 1]⟩,
    ⟨some 47, some (1, 45, false), (.op (.mv (.t 11))), [0, 1]⟩,
    ⟨some 48, some (1, 45, false), (.op (.iads .str (.t 46) (.t 47))), (rg [0, 4])⟩,
    ⟨some 49, some (1, 45, false), (.op (.load false 1 (.t 48))), (rg [0, 5])⟩,
    ⟨some 50, some (1, 45, false), (.op (.mv (.t 1))), [0, 1]⟩,
    ⟨some 51, some (1, 45, false), (.op (.mv (.t 2))), [0, 1]⟩,
    ⟨some 52, some (1, 45, false), (.op (.mv (.t 2))), [0, 1]⟩,
    ⟨some 53, some (1, 45, false), (.op (.mv (.t 9))), [0, 1]⟩,
    ⟨some 54, some (1, 45, false), (.op (.bin .add (.t 52) (.t 53))), [0, 1, 8, 9]⟩,
    ⟨some 55, some (1, 45, false), (.op (.slis (.t 50) (some (.t 51)) (some (.t 54)))), (rg [0, 2, 6, 5])⟩,
    ⟨some 56, some (1, 45, false), (.call (.c (.fn 82 .nil .nil)) [((.t 49), none), ((.t 55), none)]), (rg [0, 12])⟩,
    (iOa 57 (.pick (.t 45) (.c (.tv .bool (true : Bool))) (.t 56)) (rg [0, 13])),
    (iOa 10 (.mv (.t 57)) (rg [0, 14]))])))
  (.region [(iO 27 (.mv (.t 11))),
    (iO 28 (.bin .add (.t 27) (nI 1))),
    (iO 11 (.mv (.t 28)))])))
noncomputable def z89u0t (k n : Nat) (d : z89u0p.D) : Option (XD z89u0x) := overspillref05_Takeu0 k n d.1 d.2.1 d.2.2.1 d.2.2.2.1 d.2.2.2.2.1 d.2.2.2.2.2
theorem z89u0_k (k : Nat) : UOK P GL (mkU z89u0p z89u0x (z89u0t k k) nilU) z89u0d true z89u0b :=
  loop_typed (ud := z89u0d) (body := z89u0b) (uorc := uorT (z89U0 k)) hmo (T88_ok k).oo (z89U0_k k) (AllU.no (by kernel_rfl)) (t := z89u0t k) (fun d => by kernel_rfl) (fun n d => by kernel_rfl) k
noncomputable def z89U1 (k : Nat) : List (Nat × Ent) := (0, ⟨mkU z89u0p z89u0x (z89u0t k k) nilU⟩) :: z89U0 k
theorem z89U1_k (k : Nat) : UTab (z89U1 k) := (z89U0_k k).cons (mkU_nat nilU_nat)
noncomputable def z89u1d : UDef := ⟨[(0, none), (1, none), (2, none), (9, none)], [6, 7, 8, 9, 10, 11, 12, 13, 14, 15, 16, 17, 18, 19, 20, 21, 22, 23, 24, 25, 26, 27, 28, 29, 30, 31, 32, 33, 34, 35, 36, 37, 38, 39, 40, 41, 42, 43, 44, 45, 46, 47, 48, 49, 50, 51, 52, 53, 54, 55, 56, 57, 58, 59, 60], [(.ret, [(6, none), (7, none), (8, none)]), ((.exit 0), [])], []⟩
noncomputable def z89u1p : XPat := ⟨.normal, [(.tv (.sl .str)), (.tv .str), (.tv (.int .i64)), (.tv (.int .i64))], []⟩
noncomputable def z89u1x : List XPat := [⟨.ret, [(.tv (.int .i64)), (.tv (.int .i64)), (.tv (.int .i64))], []⟩, ⟨(.exit 0), [], []⟩]
noncomputable def overspillref05_Takeu1 (k : Nat) : Nat → (List (List UInt8)) → (List UInt8) → (Int) → (Int) → Option (((Int) × ((Int) × (Int))) ⊕ (Unit))
  | 0, _, _, _, _ => none
  | n + 1, x0, x1, x2, x3 =>
    bif (decide (x3 ≤ 25)) then
      bif (decide ((wr .i64 (((List.length x1 : Nat) : Int) - x2)) < x3)) then
        some (Sum.inl (0, (x2, 2)))
      else
      Option.bind (overspillref05_Takeu0 k k x0 x1 x2 x3 false 0) fun r =>
      Sum.elim (fun (v401 : (Int) × ((Int) × (Int))) =>
        some (Sum.inl (v401.1, (v401.2.1, v401.2.2))))
        (fun (v402 : Bool) =>
        bif (!v402) then
          some (Sum.inl (0, (x2, 3)))
        else
        Option.bind (overspillref05_Takeu1 k n x0 x1 x2 (wr .i64 (x3 + 1))) fun r => Sum.elim (fun w => some (Sum.inl w)) (fun w => some (Sum.inr w)) r) r
    else
    some (Sum.inr ())
noncomputable def z89u1b : AC :=
  (.seq (.seq (.region [(iO 12 (.mv (.t 9))),
    (iO 13 (.bin .leq (.t 12) (nI 25)))])
  (.cond (.t 13)
  .skip
  (.exit 0)))
  (.seq (.block 1 (.seq (.seq (.region [(iO 16 (.mv (.t 1))),
    (iO 17 (.lens (.t 16))),
    (iO 18 (.mv (.t 2))),
    (iO 19 (.bin .sub (.t 17) (.t 18))),
    (iO 20 (.mv (.t 9))),
    (iO 21 (.bin .lss (.t 19) (.t 20)))])
  (.cond (.t 21)
  (.seq (.region [(iO 22 (.mv (.t 2))),
      (iO 6 (.mv (nI 0))),
      (iO 7 (.mv (.t 22))),
      (iO 8 (.mv (nI 2)))])
    .ret)
  .skip))
  (.seq (.region [(iO 10 (.mv (.c (.tv .bool (false : Bool)))))])
  (.seq (.seq (.region [(iO 11 (.mv (nI 0)))])
  (.block 2 (.unit 0 z89u0d true z89u0b)))
  (.seq (.region [(iO 58 (.mv (.t 10))),
    (iO 59 (.un .not (.t 58)))])
  (.cond (.t 59)
  (.seq (.region [(iO 60 (.mv (.t 2))),
      (iO 6 (.mv (nI 0))),
      (iO 7 (.mv (.t 60))),
      (iO 8 (.mv (nI 3)))])
    .ret)
  .skip))))))
  (.region [(iO 14 (.mv (.t 9))),
    (iO 15 (.bin .add (.t 14) (nI 1))),
    (iO 9 (.mv (.t 15)))])))
noncomputable def z89u1t (k n : Nat) (d : z89u1p.D) : Option (XD z89u1x) := overspillref05_Takeu1 k n d.1 d.2.1 d.2.2.1 d.2.2.2
theorem z89u1_k (k : Nat) : UOK P GL (mkU z89u1p z89u1x (z89u1t k k) nilU) z89u1d true z89u1b :=
  loop_typed (ud := z89u1d) (body := z89u1b) (uorc := uorT (z89U1 k)) hmo (T88_ok k).oo (z89U1_k k) (AllU.seq (AllU.no (by kernel_rfl)) (AllU.seq (AllU.block (AllU.seq (AllU.no (by kernel_rfl)) (AllU.seq (AllU.no (by kernel_rfl)) (AllU.seq (AllU.seq (AllU.no (by kernel_rfl)) (AllU.block (AllU.unit (uorc := uorT (z89U1 k)) (u := 0) (z89u0_k k)))) (AllU.no (by kernel_rfl)))))) (AllU.no (by kernel_rfl)))) (t := z89u1t k) (fun d => by kernel_rfl) (fun n d => by kernel_rfl) k
noncomputable def z89U2 (k : Nat) : List (Nat × Ent) := (1, ⟨mkU z89u1p z89u1x (z89u1t k k) nilU⟩) :: z89U1 k
theorem z89U2_k (k : Nat) : UTab (z89U2 k) := (z89U1_k k).cons (mkU_nat nilU_nat)
noncomputable def overspillref05_Take (k : Nat) (x0 : List (List UInt8)) (x1 : List UInt8) (x2 : Int) : Option ((Int) × ((Int) × ((Int) × (Unit)))) :=
  Option.bind (overspillref05_Takeu1 k k x0 x1 x2 1) fun r =>
  Sum.elim (fun (v403 : (Int) × ((Int) × (Int))) =>
    some (v403.1, (v403.2.1, (v403.2.2, ()))))
    (fun (v404 : Unit) =>
    some (0, (x2, (3, ())))) r
noncomputable def z89b : AC :=
  (.seq (.region [(iO 6 (.mv (nI 0))),
    (iO 7 (.mv (nI 0))),
    (iO 8 (.mv (nI 0)))])
  (.seq (.seq (.region [(iO 9 (.mv (nI 1)))])
  (.block 0 (.unit 1 z89u1d true z89u1b)))
  (.seq (.region [(iO 61 (.mv (.t 2))),
    (iO 6 (.mv (nI 0))),
    (iO 7 (.mv (.t 61))),
    (iO 8 (.mv (nI 3)))])
  .ret)))
noncomputable def z89f : FDef := ⟨3, 62, [.tmp 6 none, .tmp 7 none, .tmp 8 none], z89b⟩
noncomputable def z89p : XPat := ⟨.normal, [(.tv (.sl .str)), (.tv .str), (.tv (.int .i64))], []⟩
noncomputable def z89x : List XPat := [⟨.ret, [(.tup (.cons (.tv (.int .i64)) (.cons (.tv (.int .i64)) (.cons (.tv (.int .i64)) .nil))))], []⟩]
noncomputable def z89t (k : Nat) (d : z89p.D) : Option (XD z89x) := overspillref05_Take k d.1 d.2.1 d.2.2
noncomputable def z89_e (k : Nat) : UEntry := mkU z89p z89x (z89t k) nilU
theorem z89_n (k : Nat) : UNat (z89_e k) := mkU_nat nilU_nat
theorem z89_fu (k : Nat) : FU P GL 58 (z89_e k) :=
  fn_typed (uorc := uorT (z89U2 k)) hmo (T88_ok k).oo (z89U2_k k) (fd := z89f) (AllU.seq (AllU.no (by kernel_rfl)) (AllU.seq (AllU.seq (AllU.no (by kernel_rfl)) (AllU.block (AllU.unit (uorc := uorT (z89U2 k)) (u := 1) (z89u1_k k)))) (AllU.no (by kernel_rfl)))) (fn := Tryd.f58) (by kernel_rfl) (by kernel_rfl) (fun d => by kernel_rfl) FU_nil
noncomputable def T89 (k : Nat) : List (Nat × Ent) := (58, ⟨z89_e k⟩) :: T88 k
theorem T89_ok (k : Nat) : TabOK P GL (T89 k) := (T88_ok k).cons (z89_fu k) (z89_n k)
/-! ### overspill.overspillref02.Number -/
noncomputable def z90U0 (_ : Nat) : List (Nat × Ent) := []
theorem z90U0_k (k : Nat) : UTab (z90U0 k) := UTab.nil
noncomputable def z90u0d : UDef := ⟨[(0, none), (3, none), (4, none)], [3, 4, 5, 6, 7, 8, 9, 10, 11, 12, 13, 14, 15, 16, 17, 18], [((.exit 0), [(3, none)])], []⟩
noncomputable def z90u0p : XPat := ⟨.normal, [(.tv .str), (.tv (.int .i64)), (.tv (.int .i64))], []⟩
noncomputable def z90u0x : List XPat := [⟨(.exit 0), [(.tv (.int .i64))], []⟩]
noncomputable def overspillref02_Numberu0 (k : Nat) : Nat → (List UInt8) → (Int) → (Int) → Option (Int)
  | 0, _, _, _ => none
  | n + 1, x0, x1, x2 =>
    bif (decide (x2 < ((List.length x0 : Nat) : Int))) then
      bif (inR x2 (List.length x0)) then
        Option.bind (overspillref02_Numberu0 k n x0 (wr .i64 ((wr .i64 (2 * x1)) + (wr .i64 (wr .u8 (((UInt8.toNat (List.getD x0 (Int.toNat x2) 0) : Nat) : Int) - 48))))) (wr .i64 (x2 + 1))) fun r => some r
      else
        none
    else
    some x1
noncomputable def z90u0b : AC :=
  (.seq (.seq (.region [(iO 5 (.mv (.t 4))),
    (iO 6 (.mv (.t 0))),
    (iO 7 (.lens (.t 6))),
    (iO 8 (.bin .lss (.t 5) (.t 7)))])
  (.cond (.t 8)
  .skip
  (.exit 0)))
  (.seq (.block 1 (.region [(iO 11 (.mv (.t 3))),
    (iO 12 (.bin .mul (nI 2) (.t 11))),
    (iO 13 (.mv (.t 0))),
    (iO 14 (.mv (.t 4))),
    (iO 15 (.ixs (.t 13) (.t 14))),
    (iO 16 (.bin .sub (.t 15) (.c (.tv (.int .u8) (48 : Int))))),
    (iO 17 (.conv .i64 (.t 16))),
    (iO 18 (.bin .add (.t 12) (.t 17))),
    (iO 3 (.mv (.t 18)))]))
  (.region [(iO 9 (.mv (.t 4))),
    (iO 10 (.bin .add (.t 9) (nI 1))),
    (iO 4 (.mv (.t 10)))])))
noncomputable def z90u0t (k n : Nat) (d : z90u0p.D) : Option (XD z90u0x) := overspillref02_Numberu0 k n d.1 d.2.1 d.2.2
theorem z90u0_k (k : Nat) : UOK P GL (mkU z90u0p z90u0x (z90u0t k k) nilU) z90u0d true z90u0b :=
  loop_typed (ud := z90u0d) (body := z90u0b) (uorc := uorT (z90U0 k)) hmo (T89_ok k).oo (z90U0_k k) (AllU.no (by kernel_rfl)) (t := z90u0t k) (fun d => by kernel_rfl) (fun n d => by kernel_rfl) k
noncomputable def z90U1 (k : Nat) : List (Nat × Ent) := (0, ⟨mkU z90u0p z90u0x (z90u0t k k) nilU⟩) :: z90U0 k
theorem z90U1_k (k : Nat) : UTab (z90U1 k) := (z90U0_k k).cons (mkU_nat nilU_nat)
noncomputable def overspillref02_Number (k : Nat) (x0 : List UInt8) : Option (Int) :=
  Option.bind (overspillref02_Numberu0 k k x0 0 0) fun (v407 : Int) =>
  some v407
noncomputable def z90b : AC :=
  (.seq (.region [(iO 2 (.mv (nI 0)))])
  (.seq (.region [(iO 3 (.mv (nI 0)))])
  (.seq (.seq (.region [(iO 4 (.mv (nI 0)))])
  (.block 0 (.unit 0 z90u0d true z90u0b)))
  (.seq (.region [(iO 19 (.mv (.t 3))),
    (iO 2 (.mv (.t 19)))])
  .ret))))
noncomputable def z90f : FDef := ⟨1, 20, [.tmp 2 none], z90b⟩
noncomputable def z90p : XPat := ⟨.normal, [(.tv .str)], []⟩
noncomputable def z90x : List XPat := [⟨.ret, [(.tv (.int .i64))], []⟩]
noncomputable def z90t (k : Nat) (d : z90p.D) : Option (XD z90x) := overspillref02_Number k d
noncomputable def z90_e (k : Nat) : UEntry := mkU z90p z90x (z90t k) nilU
theorem z90_n (k : Nat) : UNat (z90_e k) := mkU_nat nilU_nat
theorem z90_fu (k : Nat) : FU P GL 60 (z90_e k) :=
  fn_typed (uorc := uorT (z90U1 k)) hmo (T89_ok k).oo (z90U1_k k) (fd := z90f) (AllU.seq (AllU.no (by kernel_rfl)) (AllU.seq (AllU.no (by kernel_rfl)) (AllU.seq (AllU.seq (AllU.no (by kernel_rfl)) (AllU.block (AllU.unit (uorc := uorT (z90U1 k)) (u := 0) (z90u0_k k)))) (AllU.no (by kernel_rfl))))) (fn := Tryd.f60) (by kernel_rfl) (by kernel_rfl) (fun d => by kernel_rfl) FU_nil
noncomputable def T90 (k : Nat) : List (Nat × Ent) := (60, ⟨z90_e k⟩) :: T89 k
theorem T90_ok (k : Nat) : TabOK P GL (T90 k) := (T89_ok k).cons (z90_fu k) (z90_n k)
/-! ### overspill.overspillref09.Right -/
noncomputable def z91U0 (_ : Nat) : List (Nat × Ent) := []
theorem z91U0_k (k : Nat) : UTab (z91U0 k) := UTab.nil
noncomputable def overspillref09_Right (k : Nat) (x0 : DEvent) : Option (Bool) :=
  bif (decide ((0 : Int) ≤ x0.2.1)) then
    bif (decide (x0.2.1 ≤ 63)) then
      bif (decide (((-127) : Int) ≤ x0.2.2.1)) then
        bif (decide (x0.2.2.1 ≤ 127)) then
          some (!(decide (x0.2.2.1 = 0)))
        else
        some false
      else
      some false
    else
    some false
  else
  some false
noncomputable def z91b : AC :=
  (.seq (.region [(iO 1 (.box (.t 0))),
    (iO 2 (.mv (.c (.tv .bool (false : Bool)))))])
  (.seq (.region [(iO 3 (.fad 1 1 (.t 1))),
    (iO 4 (.load false 1 (.t 3))),
    (iO 5 (.bin .geq (.t 4) (nI 0))),
    (iO 6 (.mv (.t 5))),
    ⟨some 7, some (3, 6, true), (.op (.fad 1 1 (.t 1))), []⟩,
    ⟨some 8, some (3, 6, true), (.op (.load false 1 (.t 7))), []⟩,
    ⟨some 9, some (3, 6, true), (.op (.bin .leq (.t 8) (nI 63))), []⟩,
    (iO 10 (.pick (.t 6) (.t 9) (.c (.tv .bool (false : Bool))))),
    (iO 11 (.mv (.t 10))),
    ⟨some 12, some (8, 11, true), (.op (.fad 2 2 (.t 1))), []⟩,
    ⟨some 13, some (8, 11, true), (.op (.load false 1 (.t 12))), []⟩,
    ⟨some 14, some (8, 11, true), (.op (.bin .geq (.t 13) (nI (-127)))), []⟩,
    (iO 15 (.pick (.t 11) (.t 14) (.c (.tv .bool (false : Bool))))),
    (iO 16 (.mv (.t 15))),
    ⟨some 17, some (13, 16, true), (.op (.fad 2 2 (.t 1))), []⟩,
    ⟨some 18, some (13, 16, true), (.op (.load false 1 (.t 17))), []⟩,
    ⟨some 19, some (13, 16, true), (.op (.bin .leq (.t 18) (nI 127))), []⟩,
    (iO 20 (.pick (.t 16) (.t 19) (.c (.tv .bool (false : Bool))))),
    (iO 21 (.mv (.t 20))),
    ⟨some 22, some (18, 21, true), (.op (.fad 2 2 (.t 1))), []⟩,
    ⟨some 23, some (18, 21, true), (.op (.load false 1 (.t 22))), []⟩,
    ⟨some 24, some (18, 21, true), (.op (.bin .neq (.t 23) (nI 0))), []⟩,
    (iO 25 (.pick (.t 21) (.t 24) (.c (.tv .bool (false : Bool))))),
    (iO 2 (.mv (.t 25)))])
  .ret))
noncomputable def z91f : FDef := ⟨1, 26, [.tmp 2 none], z91b⟩
noncomputable def z91p : XPat := ⟨.normal, [(.tv YEvent)], []⟩
noncomputable def z91x : List XPat := [⟨.ret, [(.tv .bool)], []⟩]
noncomputable def z91t (k : Nat) (d : z91p.D) : Option (XD z91x) := overspillref09_Right k d
noncomputable def z91_e (k : Nat) : UEntry := mkU z91p z91x (z91t k) nilU
theorem z91_n (k : Nat) : UNat (z91_e k) := mkU_nat nilU_nat
theorem z91_fu (k : Nat) : FU P GL 85 (z91_e k) :=
  fn_typed (uorc := uorT (z91U0 k)) hmo (T90_ok k).oo (z91U0_k k) (fd := z91f) (AllU.no (by kernel_rfl)) (fn := Tryd.f85) (by kernel_rfl) (by kernel_rfl) (fun d => by kernel_rfl) FU_nil
noncomputable def T91 (k : Nat) : List (Nat × Ent) := (85, ⟨z91_e k⟩) :: T90 k
theorem T91_ok (k : Nat) : TabOK P GL (T91 k) := (T90_ok k).cons (z91_fu k) (z91_n k)
/-! ### overspill.overspillref09.amount -/
noncomputable def z92U0 (_ : Nat) : List (Nat × Ent) := []
theorem z92U0_k (k : Nat) : UTab (z92U0 k) := UTab.nil
noncomputable def overspillref09_amount (k : Nat) (x0 : Int) : Option (Int) :=
  bif (decide (x0 < 0)) then
    some (wr .i64 (0 - x0))
  else
  some x0
noncomputable def z92b : AC :=
  (.seq (.region [(iO 2 (.mv (nI 0)))])
  (.seq (.seq (.region [(iO 3 (.mv (.t 0))),
    (iO 4 (.bin .lss (.t 3) (nI 0)))])
  (.cond (.t 4)
  (.seq (.region [(iO 5 (.mv (.t 0))),
      (iO 6 (.un .neg (.t 5))),
      (iO 2 (.mv (.t 6)))])
    .ret)
  .skip))
  (.seq (.region [(iO 7 (.mv (.t 0))),
    (iO 2 (.mv (.t 7)))])
  .ret)))
noncomputable def z92f : FDef := ⟨1, 8, [.tmp 2 none], z92b⟩
noncomputable def z92p : XPat := ⟨.normal, [(.tv (.int .i64))], []⟩
noncomputable def z92x : List XPat := [⟨.ret, [(.tv (.int .i64))], []⟩]
noncomputable def z92t (k : Nat) (d : z92p.D) : Option (XD z92x) := overspillref09_amount k d
noncomputable def z92_e (k : Nat) : UEntry := mkU z92p z92x (z92t k) nilU
theorem z92_n (k : Nat) : UNat (z92_e k) := mkU_nat nilU_nat
theorem z92_fu (k : Nat) : FU P GL 87 (z92_e k) :=
  fn_typed (uorc := uorT (z92U0 k)) hmo (T91_ok k).oo (z92U0_k k) (fd := z92f) (AllU.no (by kernel_rfl)) (fn := Tryd.f87) (by kernel_rfl) (by kernel_rfl) (fun d => by kernel_rfl) FU_nil
noncomputable def T92 (k : Nat) : List (Nat × Ent) := (87, ⟨z92_e k⟩) :: T91 k
theorem T92_ok (k : Nat) : TabOK P GL (T92 k) := (T91_ok k).cons (z92_fu k) (z92_n k)
/-! ### overspill.overspillref09.has -/
noncomputable def z93U0 (_ : Nat) : List (Nat × Ent) := []
theorem z93U0_k (k : Nat) : UTab (z93U0 k) := UTab.nil
noncomputable def overspillref09_has (k : Nat) (x0 : Bool) (x1 : Int) (x2 : Int) : Option (List UInt8) :=
  Option.bind (overspillref09_rows k x0 x1) fun (v413 : List (List UInt8)) =>
  bif (decide (((List.length v413 : Nat) : Int) < x2)) then
    some ([] : List UInt8)
  else
  bif (inR (wr .i64 (x2 - 1)) (List.length v413)) then
    some (List.getD v413 (Int.toNat (wr .i64 (x2 - 1))) ([] : List UInt8))
  else
    none
noncomputable def z93b : AC :=
  (.seq (.region [(iO 6 (.mv (.c (.tv .str (([] : List UInt8) : List UInt8)))))])
  (.seq (.region [(iO 8 (.mv (.t 0))),
    (iO 9 (.mv (.t 1))),
    (iC 10 84 [((.t 8), none), ((.t 9), none)]),
    (iO 7 (.mv (.t 10)))])
  (.seq (.seq (.region [(iO 11 (.mv (.t 2))),
    (iO 12 (.mv (.t 7))),
    (iO 13 (.len (.t 12))),
    (iO 14 (.bin .gtr (.t 11) (.t 13)))])
  (.cond (.t 14)
  (.seq (.region [(iO 6 (.mv (.c (.tv .str (([] : List UInt8) : List UInt8)))))])
    .ret)
  .skip))
  (.seq (.region [(iO 15 (.mv (.t 7))),
    (iO 16 (.mv (.t 2))),
    (iO 17 (.bin .sub (.t 16) (nI 1))),
    (iO 18 (.iads .str (.t 15) (.t 17))),
    (iO 19 (.load false 1 (.t 18))),
    (iO 6 (.mv (.t 19)))])
  .ret))))
noncomputable def z93f : FDef := ⟨3, 20, [.tmp 6 none], z93b⟩
noncomputable def z93p : XPat := ⟨.normal, [(.tv .bool), (.tv (.int .i64)), (.tv (.int .i64))], []⟩
noncomputable def z93x : List XPat := [⟨.ret, [(.tv .str)], []⟩]
noncomputable def z93t (k : Nat) (d : z93p.D) : Option (XD z93x) := overspillref09_has k d.1 d.2.1 d.2.2
noncomputable def z93_e (k : Nat) : UEntry := mkU z93p z93x (z93t k) nilU
theorem z93_n (k : Nat) : UNat (z93_e k) := mkU_nat nilU_nat
theorem z93_fu (k : Nat) : FU P GL 86 (z93_e k) :=
  fn_typed (uorc := uorT (z93U0 k)) hmo (T92_ok k).oo (z93U0_k k) (fd := z93f) (AllU.no (by kernel_rfl)) (fn := Tryd.f86) (by kernel_rfl) (by kernel_rfl) (fun d => by kernel_rfl) FU_nil
noncomputable def T93 (k : Nat) : List (Nat × Ent) := (86, ⟨z93_e k⟩) :: T92 k
theorem T93_ok (k : Nat) : TabOK P GL (T93 k) := (T92_ok k).cons (z93_fu k) (z93_n k)
end Go.Proofs.YtlemoepklgfjoaaDoor
