/-
  The functions of the program as typed functions, further on. Printed by a program of mine.
-/
import Derived.Test.YtlmajdbchmnhdaaGreatDoorOut1
set_option maxRecDepth 100000
namespace Go.Proofs.YtlmajdbchmnhdaaGreatDoor
open Go Go.Av
/-! ### overspill.cellout.coded -/
noncomputable def z51U0 (_ : Nat) : List (Nat × Ent) := []
theorem z51U0_k (k : Nat) : UTab (z51U0 k) := UTab.nil
noncomputable def z51u0d : UDef := ⟨[(3, none), (7, none), (8, none)], [3, 5, 8, 9, 10, 11, 12, 13, 14, 15, 16, 17, 18], [((.exit 0), [(3, none)])], []⟩
noncomputable def z51u0p : XPat := ⟨.normal, [(.tv (.int .i64)), (.tv (.arr 6 (.sl YEvent))), (.tv (.int .i64))], []⟩
noncomputable def z51u0x : List XPat := [⟨(.exit 0), [(.tv (.int .i64))], []⟩]
noncomputable def cellout_codedu0 (k : Nat) : Nat → (Int) → (List (List (DEvent))) → (Int) → Option (Int)
  | 0, _, _, _ => none
  | n + 1, x0, x1, x2 =>
    bif (decide (x2 < 6)) then
      bif (inR x2 6) then
        bif (decide ((0 : Int) < ((List.length (List.getD x1 (Int.toNat x2) ([] : List (DEvent))) : Nat) : Int))) then
          Option.bind (cellout_codedu0 k n (wr .i64 ((wr .i64 (x0 * 2)) + 1)) x1 (wr .i64 (x2 + 1))) fun r => some r
        else
        Option.bind (cellout_codedu0 k n (wr .i64 (x0 * 2)) x1 (wr .i64 (x2 + 1))) fun r => some r
      else
        none
    else
    some x0
noncomputable def z51u0b : AC :=
  (.seq (.region [(iO 9 (.bin .lss (.t 8) (nI 6)))])
  (.seq (.cond (.t 9)
  .skip
  (.exit 0))
  (.seq (.block 1 (.seq (.region [(iO 10 (.ix 6 1 false (.t 7) (.t 8))),
    (iO 5 (.mv (.t 10)))])
  (.seq (.region [(iO 11 (.mv (.t 3))),
    (iO 12 (.bin .mul (.t 11) (nI 2))),
    (iO 3 (.mv (.t 12)))])
  (.seq (.region [(iO 13 (.mv (.t 5))),
    (iO 14 (.len (.t 13))),
    (iO 15 (.bin .gtr (.t 14) (nI 0)))])
  (.cond (.t 15)
  (.region [(iO 16 (.mv (.t 3))),
      (iO 17 (.bin .add (.t 16) (nI 1))),
      (iO 3 (.mv (.t 17)))])
  .skip)))))
  (.region [(iO 18 (.bin .add (.t 8) (nI 1))),
    (iO 8 (.mv (.t 18)))]))))
noncomputable def z51u0t (k n : Nat) (d : z51u0p.D) : Option (XD z51u0x) := cellout_codedu0 k n d.1 d.2.1 d.2.2
theorem z51u0_k (k : Nat) : UOK P GL (mkU z51u0p z51u0x (z51u0t k k) nilU) z51u0d true z51u0b :=
  loop_typed (ud := z51u0d) (body := z51u0b) (uorc := uorT (z51U0 k)) hmo (T48_ok k).oo (z51U0_k k) (AllU.no (by kernel_rfl)) (t := z51u0t k) (fun d => by kernel_rfl) (fun n d => by kernel_rfl) k
noncomputable def z51U1 (k : Nat) : List (Nat × Ent) := (0, ⟨mkU z51u0p z51u0x (z51u0t k k) nilU⟩) :: z51U0 k
theorem z51U1_k (k : Nat) : UTab (z51U1 k) := (z51U0_k k).cons (mkU_nat nilU_nat)
noncomputable def cellout_coded (k : Nat) (x0 : DCell) : Option (Int) :=
  Option.bind (cellout_codedu0 k k 0 x0.2.2.2.2.2.2.1 0) fun (v206 : Int) =>
  some v206
noncomputable def z51b : AC :=
  (.seq (.region [(iO 1 (.box (.t 0))),
    (iO 2 (.mv (nI 0)))])
  (.seq (.region [(iO 3 (.mv (nI 0)))])
  (.seq (.seq (.region [(iO 6 (.fad 6 12 (.t 1))),
    (iO 7 (.load true 6 (.t 6))),
    (iO 8 (.mv (nI 0)))])
  (.block 0 (.unit 0 z51u0d true z51u0b)))
  (.seq (.region [(iO 19 (.mv (.t 3))),
    (iO 2 (.mv (.t 19)))])
  .ret))))
noncomputable def z51f : FDef := ⟨1, 20, [.tmp 2 none], z51b⟩
noncomputable def z51p : XPat := ⟨.normal, [(.tv YCell)], []⟩
noncomputable def z51x : List XPat := [⟨.ret, [(.tv (.int .i64))], []⟩]
noncomputable def z51t (k : Nat) (d : z51p.D) : Option (XD z51x) := cellout_coded k d
noncomputable def z51_e (k : Nat) : UEntry := mkU z51p z51x (z51t k) nilU
theorem z51_n (k : Nat) : UNat (z51_e k) := mkU_nat nilU_nat
theorem z51_fu (k : Nat) : FU P GL 53 (z51_e k) :=
  fn_typed (uorc := uorT (z51U1 k)) hmo (T48_ok k).oo (z51U1_k k) (fd := z51f) (AllU.seq (AllU.no (by kernel_rfl)) (AllU.seq (AllU.no (by kernel_rfl)) (AllU.seq (AllU.seq (AllU.no (by kernel_rfl)) (AllU.block (AllU.unit (uorc := uorT (z51U1 k)) (u := 0) (z51u0_k k)))) (AllU.no (by kernel_rfl))))) (fn := Tryz.f53) (by kernel_rfl) (by kernel_rfl) (fun d => by kernel_rfl) FU_nil
noncomputable def T49 (k : Nat) : List (Nat × Ent) := (53, ⟨z51_e k⟩) :: T48 k
theorem T49_ok (k : Nat) : TabOK P GL (T49 k) := (T48_ok k).cons (z51_fu k) (z51_n k)
/-! ### overspill.cellout.head -/
noncomputable def z52U0 (_ : Nat) : List (Nat × Ent) := []
theorem z52U0_k (k : Nat) : UTab (z52U0 k) := UTab.nil
noncomputable def z52u0d : UDef := ⟨[(6, none), (11, none)], [6], [(.normal, [(6, none)])], []⟩
noncomputable def z52u0p : XPat := ⟨.normal, [(.tv .str), (.tv .bool)], []⟩
noncomputable def z52u0x : List XPat := [⟨.normal, [(.tv .str)], []⟩]
noncomputable def cellout_headu0 (k : Nat) (x0 : List UInt8) (x1 : Bool) : Option (List UInt8) :=
  bif x1 then
    some ([48] : List UInt8)
  else
  some x0
noncomputable def z52u0b : AC :=
  (.cond (.t 11)
  (.region [(iO 6 (.mv (.c (.tv .str (([48] : List UInt8) : List UInt8)))))])
  .skip)
noncomputable def z52u0t (k : Nat) (d : z52u0p.D) : Option (XD z52u0x) := cellout_headu0 k d.1 d.2
theorem z52u0_k (k : Nat) : UOK P GL (mkU z52u0p z52u0x (z52u0t k) nilU) z52u0d false z52u0b :=
  unit_typed (ud := z52u0d) (body := z52u0b) (uorc := uorT (z52U0 k)) hmo (T49_ok k).oo (z52U0_k k) (AllU.no (by kernel_rfl)) (fun d => by kernel_rfl)
noncomputable def z52U1 (k : Nat) : List (Nat × Ent) := (0, ⟨mkU z52u0p z52u0x (z52u0t k) nilU⟩) :: z52U0 k
theorem z52U1_k (k : Nat) : UTab (z52U1 k) := (z52U0_k k).cons (mkU_nat nilU_nat)
noncomputable def z52u1d : UDef := ⟨[(0, none), (6, none), (7, none), (18, none), (19, none)], [19, 20, 21, 22, 23, 24, 25, 26], [((.exit 0), [])], []⟩
noncomputable def z52u1p : XPat := ⟨.normal, [(.ptr 0 []), (.tv .str), (.tv .str), (.tv (.int .i64)), (.tv (.int .i64))], [(.box (.cons (.row 1) (.cons (.tv (.int .i64)) .nil))), (.row (.int .u8) false)]⟩
noncomputable def z52u1x : List XPat := [⟨(.exit 0), [], [(.box (.cons (.row 1) (.cons (.tv (.int .i64)) .nil))), (.row (.int .u8) false)]⟩]
noncomputable def cellout_headu1 (k : Nat) : Nat → (List UInt8) → (List UInt8) → (Int) → (Int) → (Int) → (List (Int)) → Option ((Unit) × (((Unit) × ((Int) × (Unit))) × (List (Int))))
  | 0, _, _, _, _, _, _ => none
  | n + 1, x0, x1, x2, x3, x4, x5 =>
    bif (decide (x3 < x2)) then
      bif (decide ((List.length x0) + (List.length x1) ≤ strMax)) then
        Option.bind (outbits_Writer_Add k (x0 ++ x1) x4 x5) fun (v203 : (Int) × (((Unit) × ((Int) × (Unit))) × (List (Int)))) =>
        Option.bind (cellout_headu1 k n x0 x1 x2 (wr .i64 (x3 + 1)) v203.2.1.2.1 v203.2.2) fun r => some r
      else
        none
    else
    some ((), (((), (x4, ())), x5))
noncomputable def z52u1b : AC :=
  (.seq (.region [(iO 20 (.bin .lss (.t 19) (.t 18)))])
  (.seq (.cond (.t 20)
  .skip
  (.exit 0))
  (.seq (.block 1 (.region [(iO 21 (.mv (.t 0))),
    (iO 22 (.mv (.t 6))),
    (iO 23 (.mv (.t 7))),
    (iO 24 (.bin .add (.t 22) (.t 23))),
    (iC 25 8 [((.t 21), none), ((.t 24), none)])]))
  (.region [(iO 26 (.bin .add (.t 19) (nI 1))),
    (iO 19 (.mv (.t 26)))]))))
noncomputable def z52u1t (k n : Nat) (d : z52u1p.D) : Option (XD z52u1x) := cellout_headu1 k n d.1.2.1 d.1.2.2.1 d.1.2.2.2.1 d.1.2.2.2.2 d.2.1.2.1 d.2.2
theorem z52u1_k (k : Nat) : UOK P GL (mkU z52u1p z52u1x (z52u1t k k) nilU) z52u1d true z52u1b :=
  loop_typed (ud := z52u1d) (body := z52u1b) (uorc := uorT (z52U1 k)) hmo (T49_ok k).oo (z52U1_k k) (AllU.no (by kernel_rfl)) (t := z52u1t k) (fun d => by kernel_rfl) (fun n d => by kernel_rfl) k
noncomputable def z52U2 (k : Nat) : List (Nat × Ent) := (1, ⟨mkU z52u1p z52u1x (z52u1t k k) nilU⟩) :: z52U1 k
theorem z52U2_k (k : Nat) : UTab (z52U2 k) := (z52U1_k k).cons (mkU_nat nilU_nat)
noncomputable def cellout_head (k : Nat) (x0 : Bool) (x1 : DCell) (x2 : Int) (x3 : List (Int)) : Option ((Unit) × (((Unit) × ((Int) × (Unit))) × (List (Int)))) :=
  Option.bind (cellout_headu0 k ([] : List UInt8) x0) fun (v192 : List UInt8) =>
  Option.bind (mcbpc_Row k x0 5 0) fun (v201 : (List UInt8) × ((Bool) × (Unit))) =>
  Option.bind (cellout_headu1 k k v192 v201.1 x1.1 0 x2 x3) fun (v204 : (Unit) × (((Unit) × ((Int) × (Unit))) × (List (Int)))) =>
  bif x1.2.1 then
    Option.bind (outbits_Writer_Add k ([49] : List UInt8) v204.2.1.2.1 v204.2.2) fun (v205 : (Int) × (((Unit) × ((Int) × (Unit))) × (List (Int)))) =>
    some ((), (((), (v205.2.1.2.1, ())), v205.2.2))
  else
  Option.bind (cellout_coded k x1) fun (v207 : Int) =>
  Option.bind (mcbpc_Row k x0 x1.2.2.1 (bitop .and .i64 v207 3)) fun (v208 : (List UInt8) × ((Bool) × (Unit))) =>
  bif (decide ((List.length v192) + (List.length v208.1) ≤ strMax)) then
    Option.bind (outbits_Writer_Add k (v192 ++ v208.1) v204.2.1.2.1 v204.2.2) fun (v209 : (Int) × (((Unit) × ((Int) × (Unit))) × (List (Int)))) =>
    some ((), (((), (v209.2.1.2.1, ())), v209.2.2))
  else
    none
noncomputable def z52b : AC :=
  (.seq (.region [(iO 5 (.box (.t 2)))])
  (.seq (.region [(iO 6 (.mv (.c (.tv .str (([] : List UInt8) : List UInt8)))))])
  (.seq (.seq (.region [(iO 11 (.mv (.t 1)))])
  (.unit 0 z52u0d false z52u0b))
  (.seq (.region [(iO 13 (.mv (.t 1))),
    (iC 14 79 [((.t 13), none), ((nI 5), none), ((nI 0), none)]),
    (iO 12 (.mv (.t 14))),
    (iO 15 (.ext (.t 12) 0)),
    (iO 16 (.ext (.t 12) 1)),
    (iO 7 (.mv (.t 15))),
    (iO 8 (.mv (.t 16)))])
  (.seq (.seq (.region [(iO 17 (.fad 0 0 (.t 5))),
    (iO 18 (.load false 1 (.t 17))),
    (iO 19 (.mv (nI 0)))])
  (.block 0 (.unit 1 z52u1d true z52u1b)))
  (.seq (.seq (.region [(iO 27 (.fad 1 1 (.t 5))),
    (iO 28 (.load false 1 (.t 27)))])
  (.cond (.t 28)
  (.seq (.region [(iO 29 (.mv (.t 0))),
      (iC 30 8 [((.t 29), none), ((.c (.tv .str (([49] : List UInt8) : List UInt8))), none)])])
    .ret)
  .skip))
  (.seq (.draw [(iO 32 (.mv (.t 1))),
    (iO 33 (.fad 2 2 (.t 5))),
    (iOa 34 (.load false 1 (.t 33)) [1]),
    (iO 35 (.load true 18 (.t 5))),
    (iCa 36 53 [((.t 35), some YCell)] [3]),
    (iOa 37 (.bin .and (.t 36) (nI 3)) [3, 4]),
    (iCa 38 79 [((.t 32), none), ((.t 34), none), ((.t 37), none)] (rg [0, 6])),
    (iOa 31 (.mv (.t 38)) (rg [0, 7])),
    (iOa 39 (.ext (.t 31) 0) (rg [0, 8])),
    (iOa 40 (.ext (.t 31) 1) (rg [0, 8])),
    (iOa 9 (.mv (.t 39)) (rg [0, 9])),
    (iOa 10 (.mv (.t 40)) (rg [0, 11]))])
  (.region [(iO 41 (.mv (.t 0))),
    (iO 42 (.mv (.t 6))),
    (iO 43 (.mv (.t 9))),
    (iO 44 (.bin .add (.t 42) (.t 43))),
    (iC 45 8 [((.t 41), none), ((.t 44), none)])]))))))))
noncomputable def z52f : FDef := ⟨3, 46, [], z52b⟩
noncomputable def z52p : XPat := ⟨.normal, [(.ptr 0 []), (.tv .bool), (.tv YCell)], [(.box (.cons (.row 1) (.cons (.tv (.int .i64)) .nil))), (.row (.int .u8) false)]⟩
noncomputable def z52x : List XPat := [⟨.ret, [(.tup .nil)], [(.box (.cons (.row 1) (.cons (.tv (.int .i64)) .nil))), (.row (.int .u8) false)]⟩]
noncomputable def z52t (k : Nat) (d : z52p.D) : Option (XD z52x) := cellout_head k d.1.2.1 d.1.2.2 d.2.1.2.1 d.2.2
noncomputable def z52_e (k : Nat) : UEntry := mkU z52p z52x (z52t k) nilU
theorem z52_n (k : Nat) : UNat (z52_e k) := mkU_nat nilU_nat
theorem z52_fu (k : Nat) : FU P GL 50 (z52_e k) :=
  fn_typed (uorc := uorT (z52U2 k)) hmo (T49_ok k).oo (z52U2_k k) (fd := z52f) (AllU.seq (AllU.no (by kernel_rfl)) (AllU.seq (AllU.no (by kernel_rfl)) (AllU.seq (AllU.seq (AllU.no (by kernel_rfl)) (AllU.unit (uorc := uorT (z52U2 k)) (u := 0) (z52u0_k k))) (AllU.seq (AllU.no (by kernel_rfl)) (AllU.seq (AllU.seq (AllU.no (by kernel_rfl)) (AllU.block (AllU.unit (uorc := uorT (z52U2 k)) (u := 1) (z52u1_k k)))) (AllU.no (by kernel_rfl))))))) (fn := Tryz.f50) (by kernel_rfl) (by kernel_rfl) (fun d => by kernel_rfl) FU_nil
noncomputable def T50 (k : Nat) : List (Nat × Ent) := (50, ⟨z52_e k⟩) :: T49 k
theorem T50_ok (k : Nat) : TabOK P GL (T50 k) := (T49_ok k).cons (z52_fu k) (z52_n k)
/-! ### overspill.cbpy.rows -/
noncomputable def z53U0 (_ : Nat) : List (Nat × Ent) := []
theorem z53U0_k (k : Nat) : UTab (z53U0 k) := UTab.nil
noncomputable def cbpy_rows (k : Nat) : Option (List (List UInt8)) :=
  some (List.set (List.set (List.set (List.set (List.set (List.set (List.set (List.set (List.set (List.set (List.set (List.set (List.set (List.set (List.set (List.set (Ty.zero (.arr 16 .str)) 0 ([48, 48, 49, 49] : List UInt8)) 1 ([48, 48, 49, 48, 49] : List UInt8)) 2 ([48, 48, 49, 48, 48] : List UInt8)) 3 ([49, 48, 48, 49] : List UInt8)) 4 ([48, 48, 48, 49, 49] : List UInt8)) 5 ([48, 49, 49, 49] : List UInt8)) 6 ([48, 48, 48, 48, 49, 48] : List UInt8)) 7 ([49, 48, 49, 49] : List UInt8)) 8 ([48, 48, 48, 49, 48] : List UInt8)) 9 ([48, 48, 48, 48, 49, 49] : List UInt8)) 10 ([48, 49, 48, 49] : List UInt8)) 11 ([49, 48, 49, 48] : List UInt8)) 12 ([48, 49, 48, 48] : List UInt8)) 13 ([49, 48, 48, 48] : List UInt8)) 14 ([48, 49, 49, 48] : List UInt8)) 15 ([49, 49] : List UInt8))
noncomputable def z53b : AC :=
  (.seq (.region [(iO 0 (.alloc 102 (.tv (.arr 16 .str))))])
  (.seq (.region [(iO 1 (.build 102 (.tv (.arr 16 .str)) [(0, (.idx 0 16 1), 1, (.c (.tv .str (([48, 48, 49, 49] : List UInt8) : List UInt8)))), (1, (.idx 1 16 1), 1, (.c (.tv .str (([48, 48, 49, 48, 49] : List UInt8) : List UInt8)))), (2, (.idx 2 16 1), 1, (.c (.tv .str (([48, 48, 49, 48, 48] : List UInt8) : List UInt8)))), (3, (.idx 3 16 1), 1, (.c (.tv .str (([49, 48, 48, 49] : List UInt8) : List UInt8)))), (4, (.idx 4 16 1), 1, (.c (.tv .str (([48, 48, 48, 49, 49] : List UInt8) : List UInt8)))), (5, (.idx 5 16 1), 1, (.c (.tv .str (([48, 49, 49, 49] : List UInt8) : List UInt8)))), (6, (.idx 6 16 1), 1, (.c (.tv .str (([48, 48, 48, 48, 49, 48] : List UInt8) : List UInt8)))), (7, (.idx 7 16 1), 1, (.c (.tv .str (([49, 48, 49, 49] : List UInt8) : List UInt8)))), (8, (.idx 8 16 1), 1, (.c (.tv .str (([48, 48, 48, 49, 48] : List UInt8) : List UInt8)))), (9, (.idx 9 16 1), 1, (.c (.tv .str (([48, 48, 48, 48, 49, 49] : List UInt8) : List UInt8)))), (10, (.idx 10 16 1), 1, (.c (.tv .str (([48, 49, 48, 49] : List UInt8) : List UInt8)))), (11, (.idx 11 16 1), 1, (.c (.tv .str (([49, 48, 49, 48] : List UInt8) : List UInt8)))), (12, (.idx 12 16 1), 1, (.c (.tv .str (([48, 49, 48, 48] : List UInt8) : List UInt8)))), (13, (.idx 13 16 1), 1, (.c (.tv .str (([49, 48, 48, 48] : List UInt8) : List UInt8)))), (14, (.idx 14 16 1), 1, (.c (.tv .str (([48, 49, 49, 48] : List UInt8) : List UInt8)))), (15, (.idx 15 16 1), 1, (.c (.tv .str (([49, 49] : List UInt8) : List UInt8))))])),
    (iS (.store 16 none (.t 0) (.t 1)))])
  .ret))
noncomputable def z53f : FDef := ⟨0, 2, [.cell 0 16 true (some (.arr 16 .str))], z53b⟩
noncomputable def z53p : XPat := ⟨.normal, [], []⟩
noncomputable def z53x : List XPat := [⟨.ret, [(.tv (.arr 16 .str))], []⟩]
noncomputable def z53t (k : Nat) (d : z53p.D) : Option (XD z53x) := cbpy_rows k
noncomputable def z53_e (k : Nat) : UEntry := mkU z53p z53x (z53t k) nilU
theorem z53_n (k : Nat) : UNat (z53_e k) := mkU_nat nilU_nat
theorem z53_fu (k : Nat) : FU P GL 80 (z53_e k) :=
  fn_typed (uorc := uorT (z53U0 k)) hmo (T50_ok k).oo (z53U0_k k) (fd := z53f) (AllU.no (by kernel_rfl)) (fn := Tryz.f80) (by kernel_rfl) (by kernel_rfl) (fun d => by kernel_rfl) FU_nil
noncomputable def T51 (k : Nat) : List (Nat × Ent) := (80, ⟨z53_e k⟩) :: T50 k
theorem T51_ok (k : Nat) : TabOK P GL (T51 k) := (T50_ok k).cons (z53_fu k) (z53_n k)
/-! ### overspill.cbpy.turned -/
noncomputable def z54U0 (_ : Nat) : List (Nat × Ent) := []
theorem z54U0_k (k : Nat) : UTab (z54U0 k) := UTab.nil
noncomputable def cbpy_turned (k : Nat) (x0 : Bool) (x1 : Int) : Option (Int) :=
  bif x0 then
    some x1
  else
  some (wr .i64 (15 - x1))
noncomputable def z54b : AC :=
  (.seq (.region [(iO 4 (.mv (nI 0)))])
  (.seq (.seq (.region [(iO 5 (.mv (.t 0)))])
  (.cond (.t 5)
  (.seq (.region [(iO 6 (.mv (.t 1))),
      (iO 4 (.mv (.t 6)))])
    .ret)
  .skip))
  (.seq (.region [(iO 7 (.mv (.t 1))),
    (iO 8 (.bin .sub (nI 15) (.t 7))),
    (iO 4 (.mv (.t 8)))])
  .ret)))
noncomputable def z54f : FDef := ⟨2, 9, [.tmp 4 none], z54b⟩
noncomputable def z54p : XPat := ⟨.normal, [(.tv .bool), (.tv (.int .i64))], []⟩
noncomputable def z54x : List XPat := [⟨.ret, [(.tv (.int .i64))], []⟩]
noncomputable def z54t (k : Nat) (d : z54p.D) : Option (XD z54x) := cbpy_turned k d.1 d.2
noncomputable def z54_e (k : Nat) : UEntry := mkU z54p z54x (z54t k) nilU
theorem z54_n (k : Nat) : UNat (z54_e k) := mkU_nat nilU_nat
theorem z54_fu (k : Nat) : FU P GL 81 (z54_e k) :=
  fn_typed (uorc := uorT (z54U0 k)) hmo (T51_ok k).oo (z54U0_k k) (fd := z54f) (AllU.no (by kernel_rfl)) (fn := Tryz.f81) (by kernel_rfl) (by kernel_rfl) (fun d => by kernel_rfl) FU_nil
noncomputable def T52 (k : Nat) : List (Nat × Ent) := (81, ⟨z54_e k⟩) :: T51 k
theorem T52_ok (k : Nat) : TabOK P GL (T52 k) := (T51_ok k).cons (z54_fu k) (z54_n k)
/-! ### overspill.cbpy.Row -/
noncomputable def z55U0 (_ : Nat) : List (Nat × Ent) := []
theorem z55U0_k (k : Nat) : UTab (z55U0 k) := UTab.nil
noncomputable def z55u0d : UDef := ⟨[(1, none)], [6, 7, 8, 9, 10, 11], [(.normal, [(11, none)])], []⟩
noncomputable def z55u0p : XPat := ⟨.normal, [(.tv (.int .i64))], []⟩
noncomputable def z55u0x : List XPat := [⟨.normal, [(.tv .bool)], []⟩]
noncomputable def cbpy_Rowu0 (k : Nat) (x0 : Int) : Option (Bool) :=
  bif (decide (x0 < 0)) then
    some true
  else
  some (decide ((15 : Int) < x0))
noncomputable def z55u0b : AC :=
  (.region [(iO 6 (.mv (.t 1))),
    (iO 7 (.bin .lss (.t 6) (nI 0))),
    (iO 8 (.mv (.t 7))),
    ⟨some 9, some (2, 8, false), (.op (.mv (.t 1))), []⟩,
    ⟨some 10, some (2, 8, false), (.op (.bin .gtr (.t 9) (nI 15))), []⟩,
    (iO 11 (.pick (.t 8) (.c (.tv .bool (true : Bool))) (.t 10)))])
noncomputable def z55u0t (k : Nat) (d : z55u0p.D) : Option (XD z55u0x) := cbpy_Rowu0 k d
theorem z55u0_k (k : Nat) : UOK P GL (mkU z55u0p z55u0x (z55u0t k) nilU) z55u0d false z55u0b :=
  unit_typed (ud := z55u0d) (body := z55u0b) (uorc := uorT (z55U0 k)) hmo (T52_ok k).oo (z55U0_k k) (AllU.no (by kernel_rfl)) (fun d => by kernel_rfl)
noncomputable def z55U1 (k : Nat) : List (Nat × Ent) := (0, ⟨mkU z55u0p z55u0x (z55u0t k) nilU⟩) :: z55U0 k
theorem z55U1_k (k : Nat) : UTab (z55U1 k) := (z55U0_k k).cons (mkU_nat nilU_nat)
noncomputable def cbpy_Row (k : Nat) (x0 : Bool) (x1 : Int) : Option ((List UInt8) × ((Bool) × (Unit))) :=
  Option.bind (cbpy_Rowu0 k x1) fun (v213 : Bool) =>
  bif v213 then
    some (([] : List UInt8), (false, ()))
  else
  Option.bind (cbpy_rows k) fun (v214 : List (List UInt8)) =>
  Option.bind (cbpy_turned k x0 x1) fun (v215 : Int) =>
  bif (inR v215 16) then
    some ((List.getD v214 (Int.toNat v215) ([] : List UInt8)), (true, ()))
  else
    none
noncomputable def z55b : AC :=
  (.seq (.region [(iO 4 (.mv (.c (.tv .str (([] : List UInt8) : List UInt8))))),
    (iO 5 (.mv (.c (.tv .bool (false : Bool)))))])
  (.seq (.seq (.unit 0 z55u0d false z55u0b)
  (.cond (.t 11)
  (.seq (.region [(iO 4 (.mv (.c (.tv .str (([] : List UInt8) : List UInt8))))),
      (iO 5 (.mv (.c (.tv .bool (false : Bool)))))])
    .ret)
  .skip))
  (.seq (.region [(iC 12 80 []),
    (iO 13 (.mv (.t 0))),
    (iO 14 (.mv (.t 1))),
    (iC 15 81 [((.t 13), none), ((.t 14), none)]),
    (iO 16 (.ix 16 1 false (.t 12) (.t 15))),
    (iO 4 (.mv (.t 16))),
    (iO 5 (.mv (.c (.tv .bool (true : Bool)))))])
  .ret)))
noncomputable def z55f : FDef := ⟨2, 17, [.tmp 4 none, .tmp 5 none], z55b⟩
noncomputable def z55p : XPat := ⟨.normal, [(.tv .bool), (.tv (.int .i64))], []⟩
noncomputable def z55x : List XPat := [⟨.ret, [(.tup (.cons (.tv .str) (.cons (.tv .bool) .nil)))], []⟩]
noncomputable def z55t (k : Nat) (d : z55p.D) : Option (XD z55x) := cbpy_Row k d.1 d.2
noncomputable def z55_e (k : Nat) : UEntry := mkU z55p z55x (z55t k) nilU
theorem z55_n (k : Nat) : UNat (z55_e k) := mkU_nat nilU_nat
theorem z55_fu (k : Nat) : FU P GL 51 (z55_e k) :=
  fn_typed (uorc := uorT (z55U1 k)) hmo (T52_ok k).oo (z55U1_k k) (fd := z55f) (AllU.seq (AllU.no (by kernel_rfl)) (AllU.seq (AllU.seq (AllU.unit (uorc := uorT (z55U1 k)) (u := 0) (z55u0_k k)) (AllU.no (by kernel_rfl))) (AllU.no (by kernel_rfl)))) (fn := Tryz.f51) (by kernel_rfl) (by kernel_rfl) (fun d => by kernel_rfl) FU_nil
noncomputable def T53 (k : Nat) : List (Nat × Ent) := (51, ⟨z55_e k⟩) :: T52 k
theorem T53_ok (k : Nat) : TabOK P GL (T53 k) := (T52_ok k).cons (z55_fu k) (z55_n k)
/-! ### overspill.mvd.length -/
noncomputable def z56U0 (_ : Nat) : List (Nat × Ent) := []
theorem z56U0_k (k : Nat) : UTab (z56U0 k) := UTab.nil
noncomputable def mvd_length (k : Nat) (x0 : Int) : Option (Int) :=
  bif (decide (x0 < 4)) then
    some (wr .i64 (x0 + 1))
  else
  bif (decide (x0 = 4)) then
    some 6
  else
  bif (decide (x0 < 8)) then
    some 7
  else
  bif (decide (x0 < 11)) then
    some 9
  else
  bif (decide (x0 < 25)) then
    some 10
  else
  bif (decide (x0 < 31)) then
    some 11
  else
  some 12
noncomputable def z56b : AC :=
  (.seq (.region [(iO 2 (.mv (nI 0)))])
  (.seq (.block 0 (.seq (.region [(iO 4 (.mv (.t 0))),
    (iO 5 (.bin .lss (.t 4) (nI 4))),
    (iO 3 (.mv (.t 5)))])
  (.cond (.t 3)
  (.seq (.region [(iO 6 (.mv (.t 0))),
      (iO 7 (.bin .add (.t 6) (nI 1))),
      (iO 2 (.mv (.t 7)))])
    .ret)
  (.seq (.region [(iO 9 (.mv (.t 0))),
      (iO 10 (.bin .eql (.t 9) (nI 4))),
      (iO 8 (.mv (.t 10)))])
    (.cond (.t 8)
    (.seq (.region [(iO 2 (.mv (nI 6)))])
      .ret)
    (.seq (.region [(iO 12 (.mv (.t 0))),
        (iO 13 (.bin .lss (.t 12) (nI 8))),
        (iO 11 (.mv (.t 13)))])
      (.cond (.t 11)
      (.seq (.region [(iO 2 (.mv (nI 7)))])
        .ret)
      (.seq (.region [(iO 15 (.mv (.t 0))),
          (iO 16 (.bin .lss (.t 15) (nI 11))),
          (iO 14 (.mv (.t 16)))])
        (.cond (.t 14)
        (.seq (.region [(iO 2 (.mv (nI 9)))])
          .ret)
        (.seq (.region [(iO 18 (.mv (.t 0))),
            (iO 19 (.bin .lss (.t 18) (nI 25))),
            (iO 17 (.mv (.t 19)))])
          (.cond (.t 17)
          (.seq (.region [(iO 2 (.mv (nI 10)))])
            .ret)
          (.seq (.region [(iO 21 (.mv (.t 0))),
              (iO 22 (.bin .lss (.t 21) (nI 31))),
              (iO 20 (.mv (.t 22)))])
            (.cond (.t 20)
            (.seq (.region [(iO 2 (.mv (nI 11)))])
              .ret)
            .skip)))))))))))))
  (.seq (.region [(iO 2 (.mv (nI 12)))])
  .ret)))
noncomputable def z56f : FDef := ⟨1, 23, [.tmp 2 none], z56b⟩
noncomputable def z56p : XPat := ⟨.normal, [(.tv (.int .i64))], []⟩
noncomputable def z56x : List XPat := [⟨.ret, [(.tv (.int .i64))], []⟩]
noncomputable def z56t (k : Nat) (d : z56p.D) : Option (XD z56x) := mvd_length k d
noncomputable def z56_e (k : Nat) : UEntry := mkU z56p z56x (z56t k) nilU
theorem z56_n (k : Nat) : UNat (z56_e k) := mkU_nat nilU_nat
theorem z56_fu (k : Nat) : FU P GL 83 (z56_e k) :=
  fn_typed (uorc := uorT (z56U0 k)) hmo (T53_ok k).oo (z56U0_k k) (fd := z56f) (AllU.no (by kernel_rfl)) (fn := Tryz.f83) (by kernel_rfl) (by kernel_rfl) (fun d => by kernel_rfl) FU_nil
noncomputable def T54 (k : Nat) : List (Nat × Ent) := (83, ⟨z56_e k⟩) :: T53 k
theorem T54_ok (k : Nat) : TabOK P GL (T54 k) := (T53_ok k).cons (z56_fu k) (z56_n k)
/-! ### overspill.mvd.Row -/
noncomputable def z57U0 (_ : Nat) : List (Nat × Ent) := []
theorem z57U0_k (k : Nat) : UTab (z57U0 k) := UTab.nil
noncomputable def z57u0d : UDef := ⟨[(0, none)], [8, 9, 10, 11, 12, 13], [(.normal, [(13, none)])], []⟩
noncomputable def z57u0p : XPat := ⟨.normal, [(.tv (.int .i64))], []⟩
noncomputable def z57u0x : List XPat := [⟨.normal, [(.tv .bool)], []⟩]
noncomputable def mvd_Rowu0 (k : Nat) (x0 : Int) : Option (Bool) :=
  bif (decide (x0 < (-32))) then
    some true
  else
  some (decide ((31 : Int) < x0))
noncomputable def z57u0b : AC :=
  (.region [(iO 8 (.mv (.t 0))),
    (iO 9 (.bin .lss (.t 8) (nI (-32)))),
    (iO 10 (.mv (.t 9))),
    ⟨some 11, some (2, 10, false), (.op (.mv (.t 0))), []⟩,
    ⟨some 12, some (2, 10, false), (.op (.bin .gtr (.t 11) (nI 31))), []⟩,
    (iO 13 (.pick (.t 10) (.c (.tv .bool (true : Bool))) (.t 12)))])
noncomputable def z57u0t (k : Nat) (d : z57u0p.D) : Option (XD z57u0x) := mvd_Rowu0 k d
theorem z57u0_k (k : Nat) : UOK P GL (mkU z57u0p z57u0x (z57u0t k) nilU) z57u0d false z57u0b :=
  unit_typed (ud := z57u0d) (body := z57u0b) (uorc := uorT (z57U0 k)) hmo (T54_ok k).oo (z57U0_k k) (AllU.no (by kernel_rfl)) (fun d => by kernel_rfl)
noncomputable def z57U1 (k : Nat) : List (Nat × Ent) := (0, ⟨mkU z57u0p z57u0x (z57u0t k) nilU⟩) :: z57U0 k
theorem z57U1_k (k : Nat) : UTab (z57U1 k) := (z57U0_k k).cons (mkU_nat nilU_nat)
noncomputable def z57u1d : UDef := ⟨[(0, none), (4, none), (5, none), (16, none)], [4, 5, 17, 18], [(.normal, [(4, none), (5, none)])], []⟩
noncomputable def z57u1p : XPat := ⟨.normal, [(.tv (.int .i64)), (.tv (.int .i64)), (.tv .str), (.tv .bool)], []⟩
noncomputable def z57u1x : List XPat := [⟨.normal, [(.tv (.int .i64)), (.tv .str)], []⟩]
noncomputable def mvd_Rowu1 (k : Nat) (x0 : Int) (x1 : Int) (x2 : List UInt8) (x3 : Bool) : Option ((Int) × (List UInt8)) :=
  bif x3 then
    some ((wr .i64 (0 - x0)), ([49] : List UInt8))
  else
  some (x1, x2)
noncomputable def z57u1b : AC :=
  (.cond (.t 16)
  (.region [(iO 17 (.mv (.t 0))),
      (iO 18 (.un .neg (.t 17))),
      (iO 4 (.mv (.t 18))),
      (iO 5 (.mv (.c (.tv .str (([49] : List UInt8) : List UInt8)))))])
  .skip)
noncomputable def z57u1t (k : Nat) (d : z57u1p.D) : Option (XD z57u1x) := mvd_Rowu1 k d.1 d.2.1 d.2.2.1 d.2.2.2
theorem z57u1_k (k : Nat) : UOK P GL (mkU z57u1p z57u1x (z57u1t k) nilU) z57u1d false z57u1b :=
  unit_typed (ud := z57u1d) (body := z57u1b) (uorc := uorT (z57U1 k)) hmo (T54_ok k).oo (z57U1_k k) (AllU.no (by kernel_rfl)) (fun d => by kernel_rfl)
noncomputable def z57U2 (k : Nat) : List (Nat × Ent) := (1, ⟨mkU z57u1p z57u1x (z57u1t k) nilU⟩) :: z57U1 k
theorem z57U2_k (k : Nat) : UTab (z57U2 k) := (z57U1_k k).cons (mkU_nat nilU_nat)
noncomputable def mvd_Row (k : Nat) (x0 : Int) : Option ((List UInt8) × ((Bool) × (Unit))) :=
  Option.bind (mvd_Rowu0 k x0) fun (v227 : Bool) =>
  bif v227 then
    some (([] : List UInt8), (false, ()))
  else
  Option.bind (mvd_Rowu1 k x0 x0 ([48] : List UInt8) (decide (x0 < 0))) fun (v228 : (Int) × (List UInt8)) =>
  bif (inR v228.1 33) then
    Option.bind (mvd_length k v228.1) fun (v229 : Int) =>
    Option.bind (outbits_Row k (List.getD tbl0 (Int.toNat v228.1) 0) v229) fun (v230 : (List UInt8) × ((Int) × (Unit))) =>
    bif (!(decide (x0 = 0))) then
      bif (decide ((List.length v230.1) + (List.length v228.2) ≤ strMax)) then
        some ((v230.1 ++ v228.2), (true, ()))
      else
        none
    else
    some (v230.1, (true, ()))
  else
    none
noncomputable def z57b : AC :=
  (.seq (.region [(iO 2 (.mv (.c (.tv .str (([] : List UInt8) : List UInt8))))),
    (iO 3 (.mv (.c (.tv .bool (false : Bool)))))])
  (.seq (.seq (.unit 0 z57u0d false z57u0b)
  (.cond (.t 13)
  (.seq (.region [(iO 2 (.mv (.c (.tv .str (([] : List UInt8) : List UInt8))))),
      (iO 3 (.mv (.c (.tv .bool (false : Bool)))))])
    .ret)
  .skip))
  (.seq (.region [(iO 14 (.mv (.t 0))),
    (iO 4 (.mv (.t 14))),
    (iO 5 (.mv (.c (.tv .str (([48] : List UInt8) : List UInt8)))))])
  (.seq (.seq (.region [(iO 15 (.mv (.t 0))),
    (iO 16 (.bin .lss (.t 15) (nI 0)))])
  (.unit 1 z57u1d false z57u1b))
  (.seq (.draw [(iO 20 (.mv (.t 4))),
    (iOa 21 (.iad 33 1 (.g 0) (.t 20)) [0]),
    (iOa 22 (.load false 1 (.t 21)) [0, 1]),
    (iO 23 (.mv (.t 4))),
    (iCa 24 83 [((.t 23), none)] [3]),
    (iCa 25 82 [((.t 22), none), ((.t 24), none)] (rg [0, 5])),
    (iOa 19 (.mv (.t 25)) (rg [0, 6])),
    (iOa 26 (.ext (.t 19) 0) (rg [0, 7])),
    (iOa 27 (.ext (.t 19) 1) (rg [0, 7])),
    (iOa 6 (.mv (.t 26)) (rg [0, 8])),
    (iOa 7 (.mv (.t 27)) (rg [0, 10]))])
  (.seq (.seq (.region [(iO 28 (.mv (.t 0))),
    (iO 29 (.bin .neq (.t 28) (nI 0)))])
  (.cond (.t 29)
  (.region [(iO 30 (.mv (.t 6))),
      (iO 31 (.mv (.t 5))),
      (iO 32 (.bin .add (.t 30) (.t 31))),
      (iO 6 (.mv (.t 32)))])
  .skip))
  (.seq (.region [(iO 33 (.mv (.t 6))),
    (iO 2 (.mv (.t 33))),
    (iO 3 (.mv (.c (.tv .bool (true : Bool)))))])
  .ret)))))))
noncomputable def z57f : FDef := ⟨1, 34, [.tmp 2 none, .tmp 3 none], z57b⟩
noncomputable def z57p : XPat := ⟨.normal, [(.tv (.int .i64))], []⟩
noncomputable def z57x : List XPat := [⟨.ret, [(.tup (.cons (.tv .str) (.cons (.tv .bool) .nil)))], []⟩]
noncomputable def z57t (k : Nat) (d : z57p.D) : Option (XD z57x) := mvd_Row k d
noncomputable def z57_e (k : Nat) : UEntry := mkU z57p z57x (z57t k) nilU
theorem z57_n (k : Nat) : UNat (z57_e k) := mkU_nat nilU_nat
theorem z57_fu (k : Nat) : FU P GL 56 (z57_e k) :=
  fn_typed (uorc := uorT (z57U2 k)) hmo (T54_ok k).oo (z57U2_k k) (fd := z57f) (AllU.seq (AllU.no (by kernel_rfl)) (AllU.seq (AllU.seq (AllU.unit (uorc := uorT (z57U2 k)) (u := 0) (z57u0_k k)) (AllU.no (by kernel_rfl))) (AllU.seq (AllU.no (by kernel_rfl)) (AllU.seq (AllU.seq (AllU.no (by kernel_rfl)) (AllU.unit (uorc := uorT (z57U2 k)) (u := 1) (z57u1_k k))) (AllU.no (by kernel_rfl)))))) (fn := Tryz.f56) (by kernel_rfl) (by kernel_rfl) (fun d => by kernel_rfl) FU_nil
noncomputable def T55 (k : Nat) : List (Nat × Ent) := (56, ⟨z57_e k⟩) :: T54 k
theorem T55_ok (k : Nat) : TabOK P GL (T55 k) := (T54_ok k).cons (z57_fu k) (z57_n k)
/-! ### overspill.cellout.Put -/
noncomputable def z58U0 (_ : Nat) : List (Nat × Ent) := []
theorem z58U0_k (k : Nat) : UTab (z58U0 k) := UTab.nil
noncomputable def z58u0d : UDef := ⟨[(0, none), (7, none), (42, none)], [9, 43, 44, 45, 46, 47, 48, 49, 50, 51], [(.normal, [])], []⟩
noncomputable def z58u0p : XPat := ⟨.normal, [(.ptr 0 []), (.ptr 1 []), (.tv .bool)], [(.box (.cons (.row 2) (.cons (.tv (.int .i64)) .nil))), (.box (.tv YCell)), (.row (.int .u8) false)]⟩
noncomputable def z58u0x : List XPat := [⟨.normal, [], [(.box (.cons (.row 2) (.cons (.tv (.int .i64)) .nil))), (.box (.tv YCell)), (.row (.int .u8) false)]⟩]
noncomputable def cellout_Putu0 (k : Nat) (x0 : Bool) (x1 : Int) (x2 : DCell) (x3 : List (Int)) : Option ((Unit) × (((Unit) × ((Int) × (Unit))) × ((DCell) × (List (Int))))) :=
  bif x0 then
    Option.bind (steps_Row k x2.2.2.2.1) fun (v221 : (List UInt8) × ((Bool) × (Unit))) =>
    Option.bind (outbits_Writer_Add k v221.1 x1 x3) fun (v222 : (Int) × (((Unit) × ((Int) × (Unit))) × (List (Int)))) =>
    some ((), (((), (v222.2.1.2.1, ())), (x2, v222.2.2)))
  else
  some ((), (((), (x1, ())), (x2, x3)))
noncomputable def z58u0b : AC :=
  (.cond (.t 42)
  (.seq (.region [(iO 44 (.fad 3 3 (.t 7))),
      (iO 45 (.load false 1 (.t 44))),
      (iC 46 55 [((.t 45), none)]),
      (iO 43 (.mv (.t 46))),
      (iO 47 (.ext (.t 43) 0)),
      (iO 48 (.ext (.t 43) 1)),
      (iO 9 (.mv (.t 47)))])
    (.region [(iO 49 (.mv (.t 0))),
      (iO 50 (.mv (.t 9))),
      (iC 51 8 [((.t 49), none), ((.t 50), none)])]))
  .skip)
noncomputable def z58u0t (k : Nat) (d : z58u0p.D) : Option (XD z58u0x) := cellout_Putu0 k d.1.2.2 d.2.1.2.1 d.2.2.1 d.2.2.2
theorem z58u0_k (k : Nat) : UOK P GL (mkU z58u0p z58u0x (z58u0t k) nilU) z58u0d false z58u0b :=
  unit_typed (ud := z58u0d) (body := z58u0b) (uorc := uorT (z58U0 k)) hmo (T55_ok k).oo (z58U0_k k) (AllU.no (by kernel_rfl)) (fun d => by kernel_rfl)
noncomputable def z58U1 (k : Nat) : List (Nat × Ent) := (0, ⟨mkU z58u0p z58u0x (z58u0t k) nilU⟩) :: z58U0 k
theorem z58U1_k (k : Nat) : UTab (z58U1 k) := (z58U0_k k).cons (mkU_nat nilU_nat)
noncomputable def z58u1d : UDef := ⟨[(0, none), (6, none), (7, none), (52, none)], [9, 11, 52, 53, 54, 55, 56, 57, 58, 59, 60, 61, 62, 63, 64, 65, 66, 67, 68, 69, 70, 71, 72, 73, 74, 75, 76], [((.exit 1), [])], []⟩
noncomputable def z58u1p : XPat := ⟨.normal, [(.ptr 0 []), (.ptr 1 []), (.ptr 2 []), (.tv (.int .i64))], [(.box (.cons (.row 3) (.cons (.tv (.int .i64)) .nil))), (.box (.tv (.arr 2 (.int .i64)))), (.box (.tv YCell)), (.row (.int .u8) false)]⟩
noncomputable def z58u1x : List XPat := [⟨(.exit 1), [], [(.box (.cons (.row 3) (.cons (.tv (.int .i64)) .nil))), (.box (.tv (.arr 2 (.int .i64)))), (.box (.tv YCell)), (.row (.int .u8) false)]⟩]
noncomputable def cellout_Putu1 (k : Nat) : Nat → (Int) → (Int) → (List (Int)) → (DCell) → (List (Int)) → Option ((Unit) × (((Unit) × ((Int) × (Unit))) × ((List (Int)) × ((DCell) × (List (Int))))))
  | 0, _, _, _, _, _ => none
  | n + 1, x0, x1, x2, x3, x4 =>
    bif (decide (x0 < 2)) then
      Option.bind (cellout_intra k x3.2.2.1) fun (v233 : Bool) =>
      bif (!v233) then
        bif (inR x0 2) then
          bif (inR x0 2) then
            Option.bind (whole_Wrap k (List.getD x2 (Int.toNat x0) 0)) fun (v234 : Int) =>
            Option.bind (whole_Wrap k (wr .i64 ((List.getD x3.2.2.2.2.1 (Int.toNat x0) 0) - v234))) fun (v235 : Int) =>
            Option.bind (mvd_Row k v235) fun (v236 : (List UInt8) × ((Bool) × (Unit))) =>
            Option.bind (outbits_Writer_Add k v236.1 x1 x4) fun (v237 : (Int) × (((Unit) × ((Int) × (Unit))) × (List (Int)))) =>
            Option.bind (cellout_Putu1 k n (wr .i64 (x0 + 1)) v237.2.1.2.1 x2 x3 v237.2.2) fun r => some r
          else
            none
        else
          none
      else
      Option.bind (cellout_Putu1 k n (wr .i64 (x0 + 1)) x1 x2 x3 x4) fun r => some r
    else
    some ((), (((), (x1, ())), (x2, (x3, x4))))
noncomputable def z58u1b : AC :=
  (.seq (.region [(iO 53 (.bin .lss (.t 52) (nI 2)))])
  (.seq (.cond (.t 53)
  .skip
  (.exit 1))
  (.seq (.block 2 (.seq (.region [(iO 54 (.mv (.t 52))),
    (iO 11 (.mv (.t 54)))])
  (.seq (.region [(iO 55 (.fad 2 2 (.t 7))),
    (iO 56 (.load false 1 (.t 55))),
    (iC 57 52 [((.t 56), none)]),
    (iO 58 (.un .not (.t 57)))])
  (.cond (.t 58)
  (.seq (.draw [(iO 60 (.mv (.t 11))),
      (iO 61 (.fad 4 4 (.t 7))),
      (iOa 62 (.iad 2 1 (.t 61) (.t 60)) [0, 1]),
      (iOa 63 (.load false 1 (.t 62)) [0, 1, 2]),
      (iO 64 (.mv (.t 11))),
      (iOa 65 (.iad 2 1 (.t 6) (.t 64)) [4]),
      (iOa 66 (.load false 1 (.t 65)) [4, 5]),
      (iCa 67 57 [((.t 66), none)] [4, 5, 6]),
      (iOa 68 (.bin .sub (.t 63) (.t 67)) (rg [0, 8])),
      (iCa 69 57 [((.t 68), none)] (rg [0, 9])),
      (iCa 70 56 [((.t 69), none)] (rg [0, 10])),
      (iOa 59 (.mv (.t 70)) (rg [0, 11])),
      (iOa 71 (.ext (.t 59) 0) (rg [0, 12])),
      (iOa 72 (.ext (.t 59) 1) (rg [0, 12])),
      (iOa 9 (.mv (.t 71)) (rg [0, 13]))])
    (.region [(iO 73 (.mv (.t 0))),
      (iO 74 (.mv (.t 9))),
      (iC 75 8 [((.t 73), none), ((.t 74), none)])]))
  .skip))))
  (.region [(iO 76 (.bin .add (.t 52) (nI 1))),
    (iO 52 (.mv (.t 76)))]))))
noncomputable def z58u1t (k n : Nat) (d : z58u1p.D) : Option (XD z58u1x) := cellout_Putu1 k n d.1.2.2.2 d.2.1.2.1 d.2.2.1 d.2.2.2.1 d.2.2.2.2
theorem z58u1_k (k : Nat) : UOK P GL (mkU z58u1p z58u1x (z58u1t k k) nilU) z58u1d true z58u1b :=
  loop_typed (ud := z58u1d) (body := z58u1b) (uorc := uorT (z58U1 k)) hmo (T55_ok k).oo (z58U1_k k) (AllU.no (by kernel_rfl)) (t := z58u1t k) (fun d => by kernel_rfl) (fun n d => by kernel_rfl) k
noncomputable def z58U2 (k : Nat) : List (Nat × Ent) := (1, ⟨mkU z58u1p z58u1x (z58u1t k k) nilU⟩) :: z58U1 k
theorem z58U2_k (k : Nat) : UTab (z58U2 k) := (z58U1_k k).cons (mkU_nat nilU_nat)
noncomputable def z58u2d : UDef := ⟨[(0, none), (7, none), (77, none)], [12, 77, 78, 79, 80, 81, 82, 83, 84, 85, 86, 87, 88, 89, 90, 91, 92, 93], [((.exit 3), [])], []⟩
noncomputable def z58u2p : XPat := ⟨.normal, [(.ptr 0 []), (.ptr 1 []), (.tv (.int .i64))], [(.box (.cons (.row 2) (.cons (.tv (.int .i64)) .nil))), (.box (.tv YCell)), (.row (.int .u8) false)]⟩
noncomputable def z58u2x : List XPat := [⟨(.exit 3), [], [(.box (.cons (.row 2) (.cons (.tv (.int .i64)) .nil))), (.box (.tv YCell)), (.row (.int .u8) false)]⟩]
noncomputable def cellout_Putu2 (k : Nat) : Nat → (Int) → (Int) → (DCell) → (List (Int)) → Option ((Unit) × (((Unit) × ((Int) × (Unit))) × ((DCell) × (List (Int)))))
  | 0, _, _, _, _ => none
  | n + 1, x0, x1, x2, x3 =>
    bif (decide (x0 < 6)) then
      Option.bind (cellout_intra k x2.2.2.1) fun (v241 : Bool) =>
      bif (inR x0 6) then
        bif (inR x0 6) then
          Option.bind (blocks_Put k v241 (List.getD x2.2.2.2.2.2.1 (Int.toNat x0) 0) (List.getD x2.2.2.2.2.2.2.1 (Int.toNat x0) ([] : List (DEvent))) x1 x3) fun (v242 : (Int) × (((Unit) × ((Int) × (Unit))) × (List (Int)))) =>
          Option.bind (cellout_Putu2 k n (wr .i64 (x0 + 1)) v242.2.1.2.1 x2 v242.2.2) fun r => some r
        else
          none
      else
        none
    else
    some ((), (((), (x1, ())), (x2, x3)))
noncomputable def z58u2b : AC :=
  (.seq (.region [(iO 78 (.bin .lss (.t 77) (nI 6)))])
  (.seq (.cond (.t 78)
  .skip
  (.exit 3))
  (.seq (.block 4 (.seq (.region [(iO 79 (.mv (.t 77))),
    (iO 12 (.mv (.t 79)))])
  (.draw [(iO 80 (.mv (.t 0))),
    (iO 81 (.fad 2 2 (.t 7))),
    (iOa 82 (.load false 1 (.t 81)) [1]),
    (iCa 83 52 [((.t 82), none)] [1, 2]),
    (iO 84 (.mv (.t 12))),
    (iO 85 (.fad 5 6 (.t 7))),
    (iOa 86 (.iad 6 1 (.t 85) (.t 84)) [4, 5]),
    (iOa 87 (.load false 1 (.t 86)) [4, 5, 6]),
    (iO 88 (.mv (.t 12))),
    (iO 89 (.fad 6 12 (.t 7))),
    (iOa 90 (.iad 6 1 (.t 89) (.t 88)) [8, 9]),
    (iOa 91 (.load false 1 (.t 90)) [8, 9, 10]),
    (iCa 92 58 [((.t 80), none), ((.t 83), none), ((.t 87), none), ((.t 91), some (.sl YEvent))] (rg [0, 12]))])))
  (.region [(iO 93 (.bin .add (.t 77) (nI 1))),
    (iO 77 (.mv (.t 93)))]))))
noncomputable def z58u2t (k n : Nat) (d : z58u2p.D) : Option (XD z58u2x) := cellout_Putu2 k n d.1.2.2 d.2.1.2.1 d.2.2.1 d.2.2.2
theorem z58u2_k (k : Nat) : UOK P GL (mkU z58u2p z58u2x (z58u2t k k) nilU) z58u2d true z58u2b :=
  loop_typed (ud := z58u2d) (body := z58u2b) (uorc := uorT (z58U2 k)) hmo (T55_ok k).oo (z58U2_k k) (AllU.no (by kernel_rfl)) (t := z58u2t k) (fun d => by kernel_rfl) (fun n d => by kernel_rfl) k
noncomputable def z58U3 (k : Nat) : List (Nat × Ent) := (2, ⟨mkU z58u2p z58u2x (z58u2t k k) nilU⟩) :: z58U2 k
theorem z58U3_k (k : Nat) : UTab (z58U3 k) := (z58U2_k k).cons (mkU_nat nilU_nat)
noncomputable def cellout_Put (k : Nat) (x0 : Bool) (x1 : List (Int)) (x2 : DCell) (x3 : Int) (x4 : List (Int)) : Option ((Int) × (((Unit) × ((Int) × (Unit))) × (List (Int)))) :=
  Option.bind (cellout_Right k x0 x2) fun (v191 : Bool) =>
  bif (!v191) then
    some (12, (((), (x3, ())), x4))
  else
  Option.bind (cellout_head k x0 x2 x3 x4) fun (v210 : (Unit) × (((Unit) × ((Int) × (Unit))) × (List (Int)))) =>
  bif x2.2.1 then
    some (0, (((), (v210.2.1.2.1, ())), v210.2.2))
  else
  Option.bind (cellout_intra k x2.2.2.1) fun (v211 : Bool) =>
  Option.bind (cellout_coded k x2) fun (v212 : Int) =>
  Option.bind (cbpy_Row k v211 (shrI .i64 v212 2)) fun (v216 : (List UInt8) × ((Bool) × (Unit))) =>
  Option.bind (outbits_Writer_Add k v216.1 v210.2.1.2.1 v210.2.2) fun (v217 : (Int) × (((Unit) × ((Int) × (Unit))) × (List (Int)))) =>
  Option.bind (cellout_stepped k x2.2.2.1) fun (v218 : Bool) =>
  Option.bind (cellout_Putu0 k v218 v217.2.1.2.1 x2 v217.2.2) fun (v223 : (Unit) × (((Unit) × ((Int) × (Unit))) × ((DCell) × (List (Int))))) =>
  Option.bind (cellout_Putu1 k k 0 v223.2.1.2.1 x1 v223.2.2.1 v223.2.2.2) fun (v238 : (Unit) × (((Unit) × ((Int) × (Unit))) × ((List (Int)) × ((DCell) × (List (Int)))))) =>
  Option.bind (cellout_Putu2 k k 0 v238.2.1.2.1 v238.2.2.2.1 v238.2.2.2.2) fun (v243 : (Unit) × (((Unit) × ((Int) × (Unit))) × ((DCell) × (List (Int))))) =>
  some (0, (((), (v243.2.1.2.1, ())), v243.2.2.2))
noncomputable def z58b : AC :=
  (.seq (.region [(iO 6 (.box (.t 2))),
    (iO 7 (.box (.t 3))),
    (iO 8 (.mv (nI 0)))])
  (.seq (.block 0 (.seq (.region [(iO 14 (.mv (.t 0))),
    (iO 15 (.eqp false (.t 14) (.c .nilp))),
    (iO 13 (.mv (.t 15)))])
  (.cond (.t 13)
  (.seq (.region [(iO 8 .bad)])
    .ret)
  (.seq (.region [(iO 17 (.mv (.t 1))),
      (iO 18 (.load true 18 (.t 7))),
      (iC 19 49 [((.t 17), none), ((.t 18), some YCell)]),
      (iO 20 (.un .not (.t 19))),
      (iO 16 (.mv (.t 20)))])
    (.cond (.t 16)
    (.seq (.region [(iO 8 (.mv (nI 12)))])
      .ret)
    .skip)))))
  (.seq (.region [(iO 21 (.mv (.t 0))),
    (iO 22 (.mv (.t 1))),
    (iO 23 (.load true 18 (.t 7))),
    (iC 24 50 [((.t 21), none), ((.t 22), none), ((.t 23), some YCell)])])
  (.seq (.seq (.region [(iO 25 (.fad 1 1 (.t 7))),
    (iO 26 (.load false 1 (.t 25)))])
  (.cond (.t 26)
  (.seq (.region [(iO 8 (.mv (nI 0)))])
    .ret)
  .skip))
  (.seq (.draw [(iO 28 (.fad 2 2 (.t 7))),
    (iOa 29 (.load false 1 (.t 28)) [0]),
    (iCa 30 52 [((.t 29), none)] [0, 1]),
    (iO 31 (.load true 18 (.t 7))),
    (iCa 32 53 [((.t 31), some YCell)] (rg [0, 4])),
    (iOa 33 (.bin .shr (.t 32) (.c (.tv (.int .u64) (2 : Int)))) (rg [0, 5])),
    (iCa 34 51 [((.t 30), none), ((.t 33), none)] (rg [0, 6])),
    (iOa 27 (.mv (.t 34)) (rg [0, 7])),
    (iOa 35 (.ext (.t 27) 0) (rg [0, 8])),
    (iOa 36 (.ext (.t 27) 1) (rg [0, 8])),
    (iOa 9 (.mv (.t 35)) (rg [0, 9])),
    (iOa 10 (.mv (.t 36)) (rg [0, 11]))])
  (.seq (.region [(iO 37 (.mv (.t 0))),
    (iO 38 (.mv (.t 9))),
    (iC 39 8 [((.t 37), none), ((.t 38), none)])])
  (.seq (.seq (.region [(iO 40 (.fad 2 2 (.t 7))),
    (iO 41 (.load false 1 (.t 40))),
    (iC 42 54 [((.t 41), none)])])
  (.unit 0 z58u0d false z58u0b))
  (.seq (.seq (.region [(iO 52 (.mv (nI 0)))])
  (.block 1 (.unit 1 z58u1d true z58u1b)))
  (.seq (.seq (.region [(iO 77 (.mv (nI 0)))])
  (.block 3 (.unit 2 z58u2d true z58u2b)))
  (.seq (.region [(iO 8 (.mv (nI 0)))])
  .ret))))))))))
noncomputable def z58f : FDef := ⟨4, 94, [.tmp 8 none], z58b⟩
noncomputable def z58p : XPat := ⟨.normal, [(.ptr 0 []), (.tv .bool), (.tv (.arr 2 (.int .i64))), (.tv YCell)], [(.box (.cons (.row 1) (.cons (.tv (.int .i64)) .nil))), (.row (.int .u8) false)]⟩
noncomputable def z58x : List XPat := [⟨.ret, [(.tv (.int .i64))], [(.box (.cons (.row 1) (.cons (.tv (.int .i64)) .nil))), (.row (.int .u8) false)]⟩]
noncomputable def z58t (k : Nat) (d : z58p.D) : Option (XD z58x) := cellout_Put k d.1.2.1 d.1.2.2.1 d.1.2.2.2 d.2.1.2.1 d.2.2
noncomputable def z58_e (k : Nat) : UEntry := mkU z58p z58x (z58t k) nilU
theorem z58_n (k : Nat) : UNat (z58_e k) := mkU_nat nilU_nat
theorem z58_fu (k : Nat) : FU P GL 25 (z58_e k) :=
  fn_typed (uorc := uorT (z58U3 k)) hmo (T55_ok k).oo (z58U3_k k) (fd := z58f) (AllU.seq (AllU.no (by kernel_rfl)) (AllU.seq (AllU.no (by kernel_rfl)) (AllU.seq (AllU.no (by kernel_rfl)) (AllU.seq (AllU.no (by kernel_rfl)) (AllU.seq (AllU.no (by kernel_rfl)) (AllU.seq (AllU.no (by kernel_rfl)) (AllU.seq (AllU.seq (AllU.no (by kernel_rfl)) (AllU.unit (uorc := uorT (z58U3 k)) (u := 0) (z58u0_k k))) (AllU.seq (AllU.seq (AllU.no (by kernel_rfl)) (AllU.block (AllU.unit (uorc := uorT (z58U3 k)) (u := 1) (z58u1_k k)))) (AllU.seq (AllU.seq (AllU.no (by kernel_rfl)) (AllU.block (AllU.unit (uorc := uorT (z58U3 k)) (u := 2) (z58u2_k k)))) (AllU.no (by kernel_rfl))))))))))) (fn := Tryz.f25) (by kernel_rfl) (by kernel_rfl) (fun d => by kernel_rfl) FU_nil
noncomputable def T56 (k : Nat) : List (Nat × Ent) := (25, ⟨z58_e k⟩) :: T55 k
theorem T56_ok (k : Nat) : TabOK P GL (T56 k) := (T55_ok k).cons (z58_fu k) (z58_n k)
/-! ### overspill.sheetout.Put$1 -/
noncomputable def z59U0 (_ : Nat) : List (Nat × Ent) := []
theorem z59U0_k (k : Nat) : UTab (z59U0 k) := UTab.nil
noncomputable def sheetout_Put_f1 (k : Nat) (x0 : DCell) (x1 : Int) (x2 : DSheet) (x3 : Int) (x4 : Int) (x5 : List (Int)) (x6 : List (List (Int))) : Option ((Unit) × ((Unit) × (((Unit) × ((Int) × (Unit))) × ((DSheet) × ((Unit) × ((Int) × ((Int) × ((List (Int)) × (List (List (Int))))))))))) :=
  Option.bind (median_Of k x6 x3 x4) fun (v190 : List (Int)) =>
  Option.bind (cellout_Put k x2.2.2.2.1 v190 x0 x1 x5) fun (v244 : (Int) × (((Unit) × ((Int) × (Unit))) × (List (Int)))) =>
  bif (decide ((List.length x6) + 1 ≤ rowMax)) then
    some ((), ((), (((), (v244.2.1.2.1, ())), (x2, ((), (x3, (x4, (v244.2.2, (x6 ++ ([x0.2.2.2.2.1] : List (List (Int))))))))))))
  else
    none
noncomputable def z59b : AC :=
  (.seq (.region [(iO 6 (.box (.t 0)))])
  (.seq (.draw [(iO 7 (.load false 1 (.t 1))),
    (iO 8 (.fad 3 3 (.t 2))),
    (iOa 9 (.load false 1 (.t 8)) [1]),
    (iO 10 (.load false 1 (.t 3))),
    (iO 11 (.load false 1 (.t 4))),
    (iO 12 (.load false 1 (.t 5))),
    (iCa 13 26 [((.t 10), some (.sl (.arr 2 (.int .i64)))), ((.t 11), none), ((.t 12), none)] [3, 4, 5]),
    (iO 14 (.load true 18 (.t 6))),
    (iCa 15 25 [((.t 7), none), ((.t 9), none), ((.t 13), some (.arr 2 (.int .i64))), ((.t 14), some YCell)] (rg [0, 8]))])
  (.region [(iO 16 (.load false 1 (.t 3))),
    (iO 17 (.fad 4 4 (.t 6))),
    (iO 18 (.load true 2 (.t 17))),
    (iO 19 (.bslice (.arr 2 (.int .i64)) [(.t 18)])),
    (iO 20 (.app (.arr 2 (.int .i64)) (.t 16) (.t 19))),
    (iS (.store 1 none (.t 3) (.t 20)))])))
noncomputable def z59f : FDef := ⟨6, 21, [], z59b⟩
noncomputable def z59p : XPat := ⟨.normal, [(.tv YCell), (.ptr 0 []), (.ptr 2 []), (.ptr 3 []), (.ptr 4 []), (.ptr 5 [])], [(.box (.ptr 1 [])), (.box (.cons (.row 6) (.cons (.tv (.int .i64)) .nil))), (.box (.tv YSheet)), (.box (.row 7)), (.box (.tv (.int .i64))), (.box (.tv (.int .i64))), (.row (.int .u8) false), (.row (.arr 2 (.int .i64)) false)]⟩
noncomputable def z59x : List XPat := [⟨.ret, [(.tup .nil)], [(.box (.ptr 1 [])), (.box (.cons (.row 6) (.cons (.tv (.int .i64)) .nil))), (.box (.tv YSheet)), (.box (.row 7)), (.box (.tv (.int .i64))), (.box (.tv (.int .i64))), (.row (.int .u8) false), (.row (.arr 2 (.int .i64)) true)]⟩]
noncomputable def z59t (k : Nat) (d : z59p.D) : Option (XD z59x) := sheetout_Put_f1 k d.1.1 d.2.2.1.2.1 d.2.2.2.1 d.2.2.2.2.2.1 d.2.2.2.2.2.2.1 d.2.2.2.2.2.2.2.1 d.2.2.2.2.2.2.2.2
noncomputable def z59_e (k : Nat) : UEntry := mkU z59p z59x (z59t k) nilU
theorem z59_n (k : Nat) : UNat (z59_e k) := mkU_nat nilU_nat
theorem z59_fu (k : Nat) : FU P GL 24 (z59_e k) :=
  fn_typed (uorc := uorT (z59U0 k)) hmo (T56_ok k).oo (z59U0_k k) (fd := z59f) (AllU.no (by kernel_rfl)) (fn := Tryz.f24) (by kernel_rfl) (by kernel_rfl) (fun d => by kernel_rfl) FU_nil
noncomputable def T57 (k : Nat) : List (Nat × Ent) := (24, ⟨z59_e k⟩) :: T56 k
theorem T57_ok (k : Nat) : TabOK P GL (T57 k) := (T56_ok k).cons (z59_fu k) (z59_n k)
/-! ### overspill.sheetout.Put$1 -/
noncomputable def z60U0 (_ : Nat) : List (Nat × Ent) := []
theorem z60U0_k (k : Nat) : UTab (z60U0 k) := UTab.nil
noncomputable def sheetout_Put_f1_2 (k : Nat) (x0 : DCell) (x1 : Int) (x2 : DSheet) (x3 : Int) (x4 : Int) (x5 : List (Int)) (x6 : List (List (Int))) : Option ((Unit) × ((Unit) × (((Unit) × ((Int) × (Unit))) × ((DSheet) × ((Unit) × ((Int) × ((Int) × ((List (Int)) × (List (List (Int))))))))))) :=
  Option.bind (median_Of k x6 x3 x4) fun (v254 : List (Int)) =>
  Option.bind (cellout_Put k x2.2.2.2.1 v254 x0 x1 x5) fun (v255 : (Int) × (((Unit) × ((Int) × (Unit))) × (List (Int)))) =>
  bif (decide ((List.length x6) + 1 ≤ rowMax)) then
    some ((), ((), (((), (v255.2.1.2.1, ())), (x2, ((), (x3, (x4, (v255.2.2, (x6 ++ ([x0.2.2.2.2.1] : List (List (Int))))))))))))
  else
    none
noncomputable def z60b : AC :=
  (.seq (.region [(iO 6 (.box (.t 0)))])
  (.seq (.draw [(iO 7 (.load false 1 (.t 1))),
    (iO 8 (.fad 3 3 (.t 2))),
    (iOa 9 (.load false 1 (.t 8)) [1]),
    (iO 10 (.load false 1 (.t 3))),
    (iO 11 (.load false 1 (.t 4))),
    (iO 12 (.load false 1 (.t 5))),
    (iCa 13 26 [((.t 10), some (.sl (.arr 2 (.int .i64)))), ((.t 11), none), ((.t 12), none)] [3, 4, 5]),
    (iO 14 (.load true 18 (.t 6))),
    (iCa 15 25 [((.t 7), none), ((.t 9), none), ((.t 13), some (.arr 2 (.int .i64))), ((.t 14), some YCell)] (rg [0, 8]))])
  (.region [(iO 16 (.load false 1 (.t 3))),
    (iO 17 (.fad 4 4 (.t 6))),
    (iO 18 (.load true 2 (.t 17))),
    (iO 19 (.bslice (.arr 2 (.int .i64)) [(.t 18)])),
    (iO 20 (.app (.arr 2 (.int .i64)) (.t 16) (.t 19))),
    (iS (.store 1 none (.t 3) (.t 20)))])))
noncomputable def z60f : FDef := ⟨6, 21, [], z60b⟩
noncomputable def z60p : XPat := ⟨.normal, [(.tv YCell), (.ptr 0 []), (.ptr 2 []), (.ptr 3 []), (.ptr 4 []), (.ptr 5 [])], [(.box (.ptr 1 [])), (.box (.cons (.row 6) (.cons (.tv (.int .i64)) .nil))), (.box (.tv YSheet)), (.box (.row 7)), (.box (.tv (.int .i64))), (.box (.tv (.int .i64))), (.row (.int .u8) false), (.row (.arr 2 (.int .i64)) true)]⟩
noncomputable def z60x : List XPat := [⟨.ret, [(.tup .nil)], [(.box (.ptr 1 [])), (.box (.cons (.row 6) (.cons (.tv (.int .i64)) .nil))), (.box (.tv YSheet)), (.box (.row 7)), (.box (.tv (.int .i64))), (.box (.tv (.int .i64))), (.row (.int .u8) false), (.row (.arr 2 (.int .i64)) true)]⟩]
noncomputable def z60t (k : Nat) (d : z60p.D) : Option (XD z60x) := sheetout_Put_f1_2 k d.1.1 d.2.2.1.2.1 d.2.2.2.1 d.2.2.2.2.2.1 d.2.2.2.2.2.2.1 d.2.2.2.2.2.2.2.1 d.2.2.2.2.2.2.2.2
noncomputable def z60_e (k : Nat) : UEntry := mkU z60p z60x (z60t k) (z59_e k)
theorem z60_n (k : Nat) : UNat (z60_e k) := mkU_nat (z59_n k)
theorem z60_fu (k : Nat) : FU P GL 24 (z60_e k) :=
  fn_typed (uorc := uorT (z60U0 k)) hmo (T57_ok k).oo (z60U0_k k) (fd := z60f) (AllU.no (by kernel_rfl)) (fn := Tryz.f24) (by kernel_rfl) (by kernel_rfl) (fun d => by kernel_rfl) (z59_fu k)
noncomputable def T58 (k : Nat) : List (Nat × Ent) := (24, ⟨z60_e k⟩) :: T57 k
theorem T58_ok (k : Nat) : TabOK P GL (T58 k) := (T57_ok k).cons (z60_fu k) (z60_n k)
/-! ### overspill.sheetout.Put -/
noncomputable def z61U0 (_ : Nat) : List (Nat × Ent) := []
theorem z61U0_k (k : Nat) : UTab (z61U0 k) := UTab.nil
noncomputable def z61u0d : UDef := ⟨[(2, none), (9, none), (11, none), (13, none), (14, none), (49, none)], [50, 51, 52, 53, 54, 55, 56, 57, 58, 59], [(.normal, [])], []⟩
noncomputable def z61u0p : XPat := ⟨.normal, [(.ptr 0 []), (.tv (.int .i64)), (.ptr 2 []), (.tv (.int .i64)), (.ptr 3 []), (.tv .bool)], [(.box (.ptr 1 [])), (.box (.cons (.row 4) (.cons (.tv (.int .i64)) .nil))), (.box (.tv (.int .i64))), (.box (.tv YRow)), (.row (.int .u8) false)]⟩
noncomputable def z61u0x : List XPat := [⟨.normal, [], [(.box (.ptr 1 [])), (.box (.cons (.row 4) (.cons (.tv (.int .i64)) .nil))), (.box (.tv (.int .i64))), (.box (.tv YRow)), (.row (.int .u8) false)]⟩]
noncomputable def sheetout_Putu0 (k : Nat) (x0 : Int) (x1 : Int) (x2 : Bool) (x3 : Int) (x4 : Int) (x5 : DRow) (x6 : List (Int)) : Option ((Unit) × ((Unit) × (((Unit) × ((Int) × (Unit))) × ((Int) × ((DRow) × (List (Int))))))) :=
  bif x2 then
    Option.bind (rowhead_Put k x1 x5.2.1 x5.2.2.1 x3 x6) fun (v266 : (Int) × (((Unit) × ((Int) × (Unit))) × (List (Int)))) =>
    some ((), ((), (((), (v266.2.1.2.1, ())), ((wr .i64 (x1 * x0)), (x5, v266.2.2)))))
  else
  some ((), ((), (((), (x3, ())), (x4, (x5, x6)))))
noncomputable def z61u0b : AC :=
  (.cond (.t 49)
  (.seq (.region [(iO 50 (.load false 1 (.t 2))),
      (iO 51 (.mv (.t 13))),
      (iO 52 (.fad 1 1 (.t 14))),
      (iO 53 (.load false 1 (.t 52))),
      (iO 54 (.fad 2 2 (.t 14))),
      (iO 55 (.load false 1 (.t 54))),
      (iC 56 27 [((.t 50), none), ((.t 51), none), ((.t 53), none), ((.t 55), none)])])
    (.region [(iO 57 (.mv (.t 13))),
      (iO 58 (.mv (.t 9))),
      (iO 59 (.bin .mul (.t 57) (.t 58))),
      (iS (.store 1 none (.t 11) (.t 59)))]))
  .skip)
noncomputable def z61u0t (k : Nat) (d : z61u0p.D) : Option (XD z61u0x) := sheetout_Putu0 k d.1.2.1 d.1.2.2.2.1 d.1.2.2.2.2.2 d.2.2.1.2.1 d.2.2.2.1 d.2.2.2.2.1 d.2.2.2.2.2
theorem z61u0_k (k : Nat) : UOK P GL (mkU z61u0p z61u0x (z61u0t k) nilU) z61u0d false z61u0b :=
  unit_typed (ud := z61u0d) (body := z61u0b) (uorc := uorT (z61U0 k)) hmo (T58_ok k).oo (z61U0_k k) (AllU.no (by kernel_rfl)) (fun d => by kernel_rfl)
noncomputable def z61U1 (k : Nat) : List (Nat × Ent) := (0, ⟨mkU z61u0p z61u0x (z61u0t k) nilU⟩) :: z61U0 k
theorem z61U1_k (k : Nat) : UTab (z61U1 k) := (z61U0_k k).cons (mkU_nat nilU_nat)
noncomputable def z61u1d : UDef := ⟨[(12, none), (61, none), (62, none), (63, none)], [16, 63, 64, 65, 66, 67, 68, 69, 70], [((.exit 2), [])], [7]⟩
noncomputable def z61u1p : XPat := ⟨.normal, [(.fn 24 .nil (.cons (.ptr 0 []) (.cons (.ptr 2 []) (.cons (.ptr 3 []) (.cons (.ptr 4 []) (.cons (.ptr 5 []) .nil)))))), (.tv (.sl YCell)), (.tv (.int .i64)), (.tv (.int .i64))], [(.box (.ptr 1 [])), (.box (.cons (.row 6) (.cons (.tv (.int .i64)) .nil))), (.box (.tv YSheet)), (.box (.row 7)), (.box (.tv (.int .i64))), (.box (.tv (.int .i64))), (.row (.int .u8) false), (.row (.arr 2 (.int .i64)) true)]⟩
noncomputable def z61u1x : List XPat := [⟨(.exit 2), [], [(.box (.ptr 1 [])), (.box (.cons (.row 6) (.cons (.tv (.int .i64)) .nil))), (.box (.tv YSheet)), (.box (.row 7)), (.box (.tv (.int .i64))), (.box (.tv (.int .i64))), (.row (.int .u8) false), (.row (.arr 2 (.int .i64)) true)]⟩]
noncomputable def sheetout_Putu1 (k : Nat) : Nat → (List (DCell)) → (Int) → (Int) → (Int) → (DSheet) → (Int) → (Int) → (List (Int)) → (List (List (Int))) → Option ((Unit) × ((Unit) × (((Unit) × ((Int) × (Unit))) × ((DSheet) × ((Unit) × ((Int) × ((Int) × ((List (Int)) × (List (List (Int)))))))))))
  | 0, _, _, _, _, _, _, _, _, _ => none
  | n + 1, x0, x1, x2, x3, x4, x5, x6, x7, x8 =>
    bif (decide (x2 < x1)) then
      bif (inR x2 (List.length x0)) then
        Option.bind (sheetout_Put_f1_2 k (List.getD x0 (Int.toNat x2) (0, (false, (0, (0, ((Ty.zero (.arr 2 (.int .i64))), ((Ty.zero (.arr 6 (.int .i64))), ((Ty.zero (.arr 6 (.sl YEvent))), ())))))))) x3 x4 x5 x6 x7 x8) fun (v269 : (Unit) × ((Unit) × (((Unit) × ((Int) × (Unit))) × ((DSheet) × ((Unit) × ((Int) × ((Int) × ((List (Int)) × (List (List (Int))))))))))) =>
        Option.bind (sheetout_Putu1 k n x0 x1 (wr .i64 (x2 + 1)) v269.2.2.1.2.1 v269.2.2.2.1 v269.2.2.2.2.2.1 v269.2.2.2.2.2.2.1 v269.2.2.2.2.2.2.2.1 v269.2.2.2.2.2.2.2.2) fun r => some r
      else
        none
    else
    some ((), ((), (((), (x3, ())), (x4, ((), (x5, (x6, (x7, x8))))))))
noncomputable def z61u1b : AC :=
  (.seq (.region [(iO 64 (.bin .lss (.t 63) (.t 62)))])
  (.seq (.cond (.t 64)
  .skip
  (.exit 2))
  (.seq (.block 3 (.seq (.region [(iO 65 (.iads YCell (.t 61) (.t 63))),
    (iO 66 (.load true 18 (.t 65))),
    (iO 16 (.alloc 47 (.tv YCell))),
    (iS (.store 18 none (.t 16) (.t 66)))])
  (.region [(iO 67 (.mv (.t 12))),
    (iO 68 (.load true 18 (.t 16))),
    ⟨some 69, none, (.call (.t 67) [((.t 68), some YCell)]), []⟩])))
  (.region [(iO 70 (.bin .add (.t 63) (nI 1))),
    (iO 63 (.mv (.t 70)))]))))
noncomputable def z61u1t (k n : Nat) (d : z61u1p.D) : Option (XD z61u1x) := sheetout_Putu1 k n d.1.2.1 d.1.2.2.1 d.1.2.2.2 d.2.2.1.2.1 d.2.2.2.1 d.2.2.2.2.2.1 d.2.2.2.2.2.2.1 d.2.2.2.2.2.2.2.1 d.2.2.2.2.2.2.2.2
theorem z61u1_k (k : Nat) : UOK P GL (mkU z61u1p z61u1x (z61u1t k k) nilU) z61u1d true z61u1b :=
  loop_typed (ud := z61u1d) (body := z61u1b) (uorc := uorT (z61U1 k)) hmo (T58_ok k).oo (z61U1_k k) (AllU.no (by kernel_rfl)) (t := z61u1t k) (fun d => by kernel_rfl) (fun n d => by kernel_rfl) k
noncomputable def z61U2 (k : Nat) : List (Nat × Ent) := (1, ⟨mkU z61u1p z61u1x (z61u1t k k) nilU⟩) :: z61U1 k
theorem z61U2_k (k : Nat) : UTab (z61U2 k) := (z61U1_k k).cons (mkU_nat nilU_nat)
noncomputable def z61u2d : UDef := ⟨[(2, none), (9, none), (11, none), (12, none), (41, none), (42, none), (43, none)], [13, 14, 16, 43, 44, 45, 46, 47, 48, 49, 50, 51, 52, 53, 54, 55, 56, 57, 58, 59, 60, 61, 62, 63, 64, 65, 66, 67, 68, 69, 70, 71], [((.exit 0), [])], [7]⟩
noncomputable def z61u2p : XPat := ⟨.normal, [(.ptr 0 []), (.tv (.int .i64)), (.ptr 2 []), (.fn 24 .nil (.cons (.ptr 0 []) (.cons (.ptr 3 []) (.cons (.ptr 4 []) (.cons (.ptr 5 []) (.cons (.ptr 2 []) .nil)))))), (.tv (.sl YRow)), (.tv (.int .i64)), (.tv (.int .i64))], [(.box (.ptr 1 [])), (.box (.cons (.row 6) (.cons (.tv (.int .i64)) .nil))), (.box (.tv (.int .i64))), (.box (.tv YSheet)), (.box (.row 7)), (.box (.tv (.int .i64))), (.row (.int .u8) false), (.row (.arr 2 (.int .i64)) true)]⟩
noncomputable def z61u2x : List XPat := [⟨(.exit 0), [], [(.box (.ptr 1 [])), (.box (.cons (.row 6) (.cons (.tv (.int .i64)) .nil))), (.box (.tv (.int .i64))), (.box (.tv YSheet)), (.box (.row 7)), (.box (.tv (.int .i64))), (.row (.int .u8) false), (.row (.arr 2 (.int .i64)) true)]⟩]
noncomputable def sheetout_Putu2 (k : Nat) : Nat → (Int) → (List (DRow)) → (Int) → (Int) → (Int) → (Int) → (DSheet) → (Int) → (List (Int)) → (List (List (Int))) → Option ((Unit) × ((Unit) × (((Unit) × ((Int) × (Unit))) × ((Int) × ((DSheet) × ((Unit) × ((Int) × ((List (Int)) × (List (List (Int)))))))))))
  | 0, _, _, _, _, _, _, _, _, _, _ => none
  | n + 1, x0, x1, x2, x3, x4, x5, x6, x7, x8, x9 =>
    bif (decide (x3 < x2)) then
      bif (inR x3 (List.length x1)) then
        Option.bind (sheetout_Putu0 k x0 x3 ((List.getD x1 (Int.toNat x3) (false, (0, (0, (([] : List (DCell)), ()))))).1) x4 x5 (List.getD x1 (Int.toNat x3) (false, (0, (0, (([] : List (DCell)), ()))))) x8) fun (v271 : (Unit) × ((Unit) × (((Unit) × ((Int) × (Unit))) × ((Int) × ((DRow) × (List (Int))))))) =>
        Option.bind (sheetout_Putu1 k k v271.2.2.2.2.1.2.2.2.1 ((List.length v271.2.2.2.2.1.2.2.2.1 : Nat) : Int) 0 v271.2.2.1.2.1 x6 x7 v271.2.2.2.1 v271.2.2.2.2.2 x9) fun (v272 : (Unit) × ((Unit) × (((Unit) × ((Int) × (Unit))) × ((DSheet) × ((Unit) × ((Int) × ((Int) × ((List (Int)) × (List (List (Int))))))))))) =>
        Option.bind (sheetout_Putu2 k n x0 x1 x2 (wr .i64 (x3 + 1)) v272.2.2.1.2.1 v272.2.2.2.2.2.2.1 v272.2.2.2.1 v272.2.2.2.2.2.1 v272.2.2.2.2.2.2.2.1 v272.2.2.2.2.2.2.2.2) fun r => some r
      else
        none
    else
    some ((), ((), (((), (x4, ())), (x5, (x6, ((), (x7, (x8, x9))))))))
noncomputable def z61u2b : AC :=
  (.seq (.region [(iO 44 (.bin .lss (.t 43) (.t 42)))])
  (.seq (.cond (.t 44)
  .skip
  (.exit 0))
  (.seq (.block 1 (.seq (.region [(iO 45 (.mv (.t 43))),
    (iO 46 (.iads YRow (.t 41) (.t 43))),
    (iO 47 (.load true 4 (.t 46))),
    (iO 14 (.alloc 50 (.cons (.tv .bool) (.cons (.tv (.int .i64)) (.cons (.tv (.int .i64)) (.cons (.row YCell) .nil)))))),
    (iO 13 (.mv (.t 45))),
    (iS (.store 4 none (.t 14) (.t 47)))])
  (.seq (.seq (.region [(iO 48 (.fad 0 0 (.t 14))),
    (iO 49 (.load false 1 (.t 48)))])
  (.unit 0 z61u0d false z61u0b))
  (.seq (.region [(iO 60 (.fad 3 3 (.t 14))),
    (iO 61 (.load false 1 (.t 60))),
    (iO 62 (.len (.t 61))),
    (iO 63 (.mv (nI 0)))])
  (.block 2 (.unit 1 z61u1d true z61u1b))))))
  (.region [(iO 71 (.bin .add (.t 43) (nI 1))),
    (iO 43 (.mv (.t 71)))]))))
noncomputable def z61u2t (k n : Nat) (d : z61u2p.D) : Option (XD z61u2x) := sheetout_Putu2 k n d.1.2.1 d.1.2.2.2.2.1 d.1.2.2.2.2.2.1 d.1.2.2.2.2.2.2 d.2.2.1.2.1 d.2.2.2.1 d.2.2.2.2.1 d.2.2.2.2.2.2.1 d.2.2.2.2.2.2.2.1 d.2.2.2.2.2.2.2.2
theorem z61u2_k (k : Nat) : UOK P GL (mkU z61u2p z61u2x (z61u2t k k) nilU) z61u2d true z61u2b :=
  loop_typed (ud := z61u2d) (body := z61u2b) (uorc := uorT (z61U2 k)) hmo (T58_ok k).oo (z61U2_k k) (AllU.seq (AllU.no (by kernel_rfl)) (AllU.seq (AllU.no (by kernel_rfl)) (AllU.seq (AllU.block (AllU.seq (AllU.no (by kernel_rfl)) (AllU.seq (AllU.seq (AllU.no (by kernel_rfl)) (AllU.unit (uorc := uorT (z61U2 k)) (u := 0) (z61u0_k k))) (AllU.seq (AllU.no (by kernel_rfl)) (AllU.block (AllU.unit (uorc := uorT (z61U2 k)) (u := 1) (z61u1_k k))))))) (AllU.no (by kernel_rfl))))) (t := z61u2t k) (fun d => by kernel_rfl) (fun n d => by kernel_rfl) k
noncomputable def z61U3 (k : Nat) : List (Nat × Ent) := (2, ⟨mkU z61u2p z61u2x (z61u2t k k) nilU⟩) :: z61U2 k
theorem z61U3_k (k : Nat) : UTab (z61U3 k) := (z61U2_k k).cons (mkU_nat nilU_nat)
noncomputable def z61u3d : UDef := ⟨[(2, none), (75, none), (76, none)], [76, 77, 78, 79, 80], [((.exit 4), [])], []⟩
noncomputable def z61u3p : XPat := ⟨.normal, [(.ptr 0 []), (.tv (.int .i64)), (.tv (.int .i64))], [(.box (.ptr 1 [])), (.box (.cons (.row 2) (.cons (.tv (.int .i64)) .nil))), (.row (.int .u8) false)]⟩
noncomputable def z61u3x : List XPat := [⟨(.exit 4), [], [(.box (.ptr 1 [])), (.box (.cons (.row 2) (.cons (.tv (.int .i64)) .nil))), (.row (.int .u8) false)]⟩]
noncomputable def sheetout_Putu3 (k : Nat) : Nat → (Int) → (Int) → (Int) → (List (Int)) → Option ((Unit) × ((Unit) × (((Unit) × ((Int) × (Unit))) × (List (Int)))))
  | 0, _, _, _, _ => none
  | n + 1, x0, x1, x2, x3 =>
    bif (decide (x1 < x0)) then
      Option.bind (outbits_Writer_Put k 0 8 x2 x3) fun (v276 : (Int) × (((Unit) × ((Int) × (Unit))) × (List (Int)))) =>
      Option.bind (sheetout_Putu3 k n x0 (wr .i64 (x1 + 1)) v276.2.1.2.1 v276.2.2) fun r => some r
    else
    some ((), ((), (((), (x2, ())), x3)))
noncomputable def z61u3b : AC :=
  (.seq (.region [(iO 77 (.bin .lss (.t 76) (.t 75)))])
  (.seq (.cond (.t 77)
  .skip
  (.exit 4))
  (.seq (.block 5 (.region [(iO 78 (.load false 1 (.t 2))),
    (iC 79 29 [((.t 78), none), ((nI 0), none), ((nI 8), none)])]))
  (.region [(iO 80 (.bin .add (.t 76) (nI 1))),
    (iO 76 (.mv (.t 80)))]))))
noncomputable def z61u3t (k n : Nat) (d : z61u3p.D) : Option (XD z61u3x) := sheetout_Putu3 k n d.1.2.1 d.1.2.2 d.2.2.1.2.1 d.2.2.2
theorem z61u3_k (k : Nat) : UOK P GL (mkU z61u3p z61u3x (z61u3t k k) nilU) z61u3d true z61u3b :=
  loop_typed (ud := z61u3d) (body := z61u3b) (uorc := uorT (z61U3 k)) hmo (T58_ok k).oo (z61U3_k k) (AllU.no (by kernel_rfl)) (t := z61u3t k) (fun d => by kernel_rfl) (fun n d => by kernel_rfl) k
noncomputable def z61U4 (k : Nat) : List (Nat × Ent) := (3, ⟨mkU z61u3p z61u3x (z61u3t k k) nilU⟩) :: z61U3 k
theorem z61U4_k (k : Nat) : UTab (z61U4 k) := (z61U3_k k).cons (mkU_nat nilU_nat)
noncomputable def sheetout_Put (k : Nat) (x0 : DSheet) (x1 : Int) (x2 : List (Int)) : Option ((Int) × (((Unit) × ((Int) × (Unit))) × (List (Int)))) :=
  Option.bind (sound_Check k x0) fun (v261 : Int) =>
  bif (!(decide (v261 = 0))) then
    some (v261, (((), (x1, ())), x2))
  else
  Option.bind (sheethead_Put k x0 x1 x2) fun (v262 : (Int) × (((Unit) × ((Int) × (Unit))) × (List (Int)))) =>
  Option.bind (formats_Cells k x0.2.2.1) fun (v263 : (Int) × ((Int) × (Unit))) =>
  Option.bind (formats_Rows k x0.2.2.1) fun (v264 : (Int) × ((Int) × (Unit))) =>
  Option.bind (sheetout_Putu2 k k v264.2.1 x0.2.2.2.2.2.2.1 ((List.length x0.2.2.2.2.2.2.1 : Nat) : Int) 0 v262.2.1.2.1 0 x0 v263.1 v262.2.2 ([] : List (List (Int)))) fun (v273 : (Unit) × ((Unit) × (((Unit) × ((Int) × (Unit))) × ((Int) × ((DSheet) × ((Unit) × ((Int) × ((List (Int)) × (List (List (Int))))))))))) =>
  Option.bind (outbits_Writer_Fill k v273.2.2.1.2.1 v273.2.2.2.2.2.2.2.1) fun (v274 : (Int) × (((Unit) × ((Int) × (Unit))) × (List (Int)))) =>
  Option.bind (sheetout_Putu3 k k v273.2.2.2.2.1.2.2.2.2.2.2.2.1 0 v274.2.1.2.1 v274.2.2) fun (v277 : (Unit) × ((Unit) × (((Unit) × ((Int) × (Unit))) × (List (Int))))) =>
  some (0, (((), (v277.2.2.1.2.1, ())), v277.2.2.2))
noncomputable def z61b : AC :=
  (.seq (.region [(iO 2 (.box (.t 0))),
    (iO 3 (.box (.t 1))),
    (iO 4 (.mv (nI 0)))])
  (.seq (.seq (.region [(iO 17 (.load false 1 (.t 2))),
    (iO 18 (.eqp false (.t 17) (.c .nilp)))])
  (.cond (.t 18)
  (.seq (.region [(iO 4 .bad)])
    .ret)
  .skip))
  (.seq (.seq (.region [(iO 19 (.load true 8 (.t 3))),
    (iC 20 20 [((.t 19), some YSheet)]),
    (iO 5 (.mv (.t 20)))])
  (.seq (.region [(iO 21 (.mv (.t 5))),
    (iO 22 (.bin .neq (.t 21) (nI 0)))])
  (.cond (.t 22)
  (.seq (.region [(iO 23 (.mv (.t 5))),
      (iO 4 (.mv (.t 23)))])
    .ret)
  .skip)))
  (.seq (.region [(iO 24 (.load false 1 (.t 2))),
    (iO 25 (.load true 8 (.t 3))),
    (iC 26 21 [((.t 24), none), ((.t 25), some YSheet)])])
  (.seq (.region [(iO 28 (.fad 2 2 (.t 3))),
    (iO 29 (.load false 1 (.t 28))),
    (iC 30 22 [((.t 29), none)]),
    (iO 27 (.mv (.t 30))),
    (iO 31 (.ext (.t 27) 0)),
    (iO 32 (.ext (.t 27) 1)),
    (iO 6 (.alloc 3 (.tv (.int .i64)))),
    (iS (.store 1 none (.t 6) (.t 31))),
    (iO 7 (.mv (.t 32)))])
  (.seq (.region [(iO 34 (.fad 2 2 (.t 3))),
    (iO 35 (.load false 1 (.t 34))),
    (iC 36 23 [((.t 35), none)]),
    (iO 33 (.mv (.t 36))),
    (iO 37 (.ext (.t 33) 0)),
    (iO 38 (.ext (.t 33) 1)),
    (iO 8 (.mv (.t 37))),
    (iO 9 (.mv (.t 38)))])
  (.seq (.region [(iO 10 (.alloc 58 (.row (.arr 2 (.int .i64)))))])
  (.seq (.region [(iO 11 (.alloc 3 (.tv (.int .i64)))),
    (iS (.store 1 none (.t 11) (nI 0)))])
  (.seq (.region [(iO 39 (.mkfn 24 [] [(.t 2), (.t 3), (.t 10), (.t 6), (.t 11)])),
    (iO 12 (.mv (.t 39)))])
  (.seq (.seq (.region [(iO 40 (.fad 6 6 (.t 3))),
    (iO 41 (.load false 1 (.t 40))),
    (iO 42 (.len (.t 41))),
    (iO 43 (.mv (nI 0)))])
  (.block 0 (.unit 2 z61u2d true z61u2b)))
  (.seq (.region [(iO 72 (.load false 1 (.t 2))),
    (iC 73 28 [((.t 72), none)])])
  (.seq (.seq (.region [(iO 74 (.fad 7 7 (.t 3))),
    (iO 75 (.load false 1 (.t 74))),
    (iO 76 (.mv (nI 0)))])
  (.block 4 (.unit 3 z61u3d true z61u3b)))
  (.seq (.region [(iO 4 (.mv (nI 0)))])
  .ret)))))))))))))
noncomputable def z61f : FDef := ⟨2, 81, [.tmp 4 none], z61b⟩
noncomputable def z61p : XPat := ⟨.normal, [(.ptr 0 []), (.tv YSheet)], [(.box (.cons (.row 1) (.cons (.tv (.int .i64)) .nil))), (.row (.int .u8) false)]⟩
noncomputable def z61x : List XPat := [⟨.ret, [(.tv (.int .i64))], [(.box (.cons (.row 1) (.cons (.tv (.int .i64)) .nil))), (.row (.int .u8) false)]⟩]
noncomputable def z61t (k : Nat) (d : z61p.D) : Option (XD z61x) := sheetout_Put k d.1.2 d.2.1.2.1 d.2.2
noncomputable def z61_e (k : Nat) : UEntry := mkU z61p z61x (z61t k) nilU
theorem z61_n (k : Nat) : UNat (z61_e k) := mkU_nat nilU_nat
theorem z61_fu (k : Nat) : FU P GL 9 (z61_e k) :=
  fn_typed (uorc := uorT (z61U4 k)) hmo (T58_ok k).oo (z61U4_k k) (fd := z61f) (AllU.seq (AllU.no (by kernel_rfl)) (AllU.seq (AllU.no (by kernel_rfl)) (AllU.seq (AllU.no (by kernel_rfl)) (AllU.seq (AllU.no (by kernel_rfl)) (AllU.seq (AllU.no (by kernel_rfl)) (AllU.seq (AllU.no (by kernel_rfl)) (AllU.seq (AllU.no (by kernel_rfl)) (AllU.seq (AllU.no (by kernel_rfl)) (AllU.seq (AllU.no (by kernel_rfl)) (AllU.seq (AllU.seq (AllU.no (by kernel_rfl)) (AllU.block (AllU.unit (uorc := uorT (z61U4 k)) (u := 2) (z61u2_k k)))) (AllU.seq (AllU.no (by kernel_rfl)) (AllU.seq (AllU.seq (AllU.no (by kernel_rfl)) (AllU.block (AllU.unit (uorc := uorT (z61U4 k)) (u := 3) (z61u3_k k)))) (AllU.no (by kernel_rfl)))))))))))))) (fn := Tryz.f9) (by kernel_rfl) (by kernel_rfl) (fun d => by kernel_rfl) FU_nil
noncomputable def T59 (k : Nat) : List (Nat × Ent) := (9, ⟨z61_e k⟩) :: T58 k
theorem T59_ok (k : Nat) : TabOK P GL (T59 k) := (T58_ok k).cons (z61_fu k) (z61_n k)
/-! ### (*overspill.outbits.Writer).Len -/
noncomputable def z62U0 (_ : Nat) : List (Nat × Ent) := []
theorem z62U0_k (k : Nat) : UTab (z62U0 k) := UTab.nil
noncomputable def outbits_Writer_Len (k : Nat) (x0 : Int) (x1 : List (Int)) : Option ((Int) × (((Unit) × ((Int) × (Unit))) × (List (Int)))) :=
  some (x0, (((), (x0, ())), x1))
noncomputable def z62b : AC :=
  (.seq (.region [(iO 2 (.mv (nI 0)))])
  (.seq (.seq (.region [(iO 3 (.mv (.t 0))),
    (iO 4 (.eqp false (.t 3) (.c .nilp)))])
  (.cond (.t 4)
  (.seq (.region [(iO 2 .bad)])
    .ret)
  .skip))
  (.seq (.region [(iO 5 (.mv (.t 0))),
    (iO 6 (.nilc (.t 5))),
    (iO 7 (.fad 1 1 (.t 6))),
    (iO 8 (.load false 1 (.t 7))),
    (iO 2 (.mv (.t 8)))])
  .ret)))
noncomputable def z62f : FDef := ⟨1, 9, [.tmp 2 none], z62b⟩
noncomputable def z62p : XPat := ⟨.normal, [(.ptr 0 [])], [(.box (.cons (.row 1) (.cons (.tv (.int .i64)) .nil))), (.row (.int .u8) false)]⟩
noncomputable def z62x : List XPat := [⟨.ret, [(.tv (.int .i64))], [(.box (.cons (.row 1) (.cons (.tv (.int .i64)) .nil))), (.row (.int .u8) false)]⟩]
noncomputable def z62t (k : Nat) (d : z62p.D) : Option (XD z62x) := outbits_Writer_Len k d.2.1.2.1 d.2.2
noncomputable def z62_e (k : Nat) : UEntry := mkU z62p z62x (z62t k) nilU
theorem z62_n (k : Nat) : UNat (z62_e k) := mkU_nat nilU_nat
theorem z62_fu (k : Nat) : FU P GL 12 (z62_e k) :=
  fn_typed (uorc := uorT (z62U0 k)) hmo (T59_ok k).oo (z62U0_k k) (fd := z62f) (AllU.no (by kernel_rfl)) (fn := Tryz.f12) (by kernel_rfl) (by kernel_rfl) (fun d => by kernel_rfl) FU_nil
noncomputable def T60 (k : Nat) : List (Nat × Ent) := (12, ⟨z62_e k⟩) :: T59 k
theorem T60_ok (k : Nat) : TabOK P GL (T60 k) := (T59_ok k).cons (z62_fu k) (z62_n k)
/-! ### overspill.sheetout.Bits -/
noncomputable def z63U0 (_ : Nat) : List (Nat × Ent) := []
theorem z63U0_k (k : Nat) : UTab (z63U0 k) := UTab.nil
noncomputable def sheetout_Bits (k : Nat) (x0 : DSheet) : Option ((Int) × ((Int) × (Unit))) :=
  Option.bind (outbits_New k) fun (v20 : (Unit) × (((Unit) × ((Int) × (Unit))) × (List (Int)))) =>
  Option.bind (sheetout_Put k x0 v20.2.1.2.1 v20.2.2) fun (v278 : (Int) × (((Unit) × ((Int) × (Unit))) × (List (Int)))) =>
  Option.bind (outbits_Writer_Len k v278.2.1.2.1 v278.2.2) fun (v279 : (Int) × (((Unit) × ((Int) × (Unit))) × (List (Int)))) =>
  some (v279.1, (v278.1, ()))
noncomputable def z63b : AC :=
  (.seq (.region [(iO 1 (.box (.t 0))),
    (iO 2 (.mv (nI 0))),
    (iO 3 (.mv (nI 0)))])
  (.seq (.region [(iC 6 7 []),
    (iO 4 (.mv (.t 6)))])
  (.seq (.region [(iO 7 (.mv (.t 4))),
    (iO 8 (.load true 8 (.t 1))),
    (iC 9 9 [((.t 7), none), ((.t 8), some YSheet)]),
    (iO 5 (.mv (.t 9)))])
  (.seq (.region [(iO 10 (.mv (.t 4))),
    (iC 11 12 [((.t 10), none)]),
    (iO 12 (.mv (.t 5))),
    (iO 2 (.mv (.t 11))),
    (iO 3 (.mv (.t 12)))])
  .ret))))
noncomputable def z63f : FDef := ⟨1, 13, [.tmp 2 none, .tmp 3 none], z63b⟩
noncomputable def z63p : XPat := ⟨.normal, [(.tv YSheet)], []⟩
noncomputable def z63x : List XPat := [⟨.ret, [(.tup (.cons (.tv (.int .i64)) (.cons (.tv (.int .i64)) .nil)))], []⟩]
noncomputable def z63t (k : Nat) (d : z63p.D) : Option (XD z63x) := sheetout_Bits k d
noncomputable def z63_e (k : Nat) : UEntry := mkU z63p z63x (z63t k) nilU
theorem z63_n (k : Nat) : UNat (z63_e k) := mkU_nat nilU_nat
theorem z63_fu (k : Nat) : FU P GL 10 (z63_e k) :=
  fn_typed (uorc := uorT (z63U0 k)) hmo (T60_ok k).oo (z63U0_k k) (fd := z63f) (AllU.no (by kernel_rfl)) (fn := Tryz.f10) (by kernel_rfl) (by kernel_rfl) (fun d => by kernel_rfl) FU_nil
noncomputable def T61 (k : Nat) : List (Nat × Ent) := (10, ⟨z63_e k⟩) :: T60 k
theorem T61_ok (k : Nat) : TabOK P GL (T61 k) := (T60_ok k).cons (z63_fu k) (z63_n k)
/-! ### overspill.overspilllaw27.lives -/
noncomputable def z64U0 (_ : Nat) : List (Nat × Ent) := []
theorem z64U0_k (k : Nat) : UTab (z64U0 k) := UTab.nil
noncomputable def overspilllaw27_lives (k : Nat) : Option (Bool) :=
  Option.bind (sheetout_Bits k (0, (0, (6, (true, (5, (([] : List (Int)), (([(false, (0, (0, (([(0, (true, (0, (0, ((Ty.zero (.arr 2 (.int .i64))), ((Ty.zero (.arr 6 (.int .i64))), ((Ty.zero (.arr 6 (.sl YEvent))), ()))))))), (0, (true, (0, (0, ((Ty.zero (.arr 2 (.int .i64))), ((Ty.zero (.arr 6 (.int .i64))), ((Ty.zero (.arr 6 (.sl YEvent))), ())))))))] : List (DCell)), ())))), (false, (0, (0, (([(0, (true, (0, (0, ((Ty.zero (.arr 2 (.int .i64))), ((Ty.zero (.arr 6 (.int .i64))), ((Ty.zero (.arr 6 (.sl YEvent))), ()))))))), (0, (true, (0, (0, ((Ty.zero (.arr 2 (.int .i64))), ((Ty.zero (.arr 6 (.int .i64))), ((Ty.zero (.arr 6 (.sl YEvent))), ())))))))] : List (DCell)), ()))))] : List (DRow)), (0, ()))))))))) fun (v280 : (Int) × ((Int) × (Unit))) =>
  Option.bind (sheetout_Bits k (0, (0, (0, (false, (0, (([] : List (Int)), (([] : List (DRow)), (0, ()))))))))) fun (v281 : (Int) × ((Int) × (Unit))) =>
  bif (decide (v280.1 = 56)) then
    bif (decide (v280.2.1 = 0)) then
      some (decide (v281.2.1 = 12))
    else
    some false
  else
  some false
noncomputable def z64b : AC :=
  (.seq (.region [(iO 0 (.mv (.c (.tv .bool (false : Bool)))))])
  (.seq (.region [(iO 7 (.build 47 (.tv YCell) [(1, (.fld 1 1), 1, (.c (.tv .bool (true : Bool))))])),
    (iO 1 (.alloc 47 (.tv YCell))),
    (iS (.store 18 none (.t 1) (.t 7)))])
  (.seq (.region [(iO 8 (.load true 18 (.t 1))),
    (iO 9 (.load true 18 (.t 1))),
    (iO 10 (.bslice YCell [(.t 8), (.t 9)])),
    (iO 11 (.build 50 (.tv YRow) [(3, (.fld 3 3), 1, (.t 10))])),
    (iO 2 (.alloc 50 (.cons (.tv .bool) (.cons (.tv (.int .i64)) (.cons (.tv (.int .i64)) (.cons (.row YCell) .nil)))))),
    (iS (.store 4 none (.t 2) (.t 11)))])
  (.seq (.region [(iO 13 (.load true 4 (.t 2))),
    (iO 14 (.load true 4 (.t 2))),
    (iO 15 (.bslice YRow [(.t 13), (.t 14)])),
    (iO 16 (.build 25 (.tv YSheet) [(2, (.fld 2 2), 1, (nI 6)), (3, (.fld 3 3), 1, (.c (.tv .bool (true : Bool)))), (4, (.fld 4 4), 1, (nI 5)), (6, (.fld 6 6), 1, (.t 15))])),
    (iC 17 10 [((.t 16), some YSheet)]),
    (iO 12 (.mv (.t 17))),
    (iO 18 (.ext (.t 12) 0)),
    (iO 19 (.ext (.t 12) 1)),
    (iO 3 (.mv (.t 18))),
    (iO 4 (.mv (.t 19)))])
  (.seq (.region [(iO 21 (.build 25 (.tv YSheet) [])),
    (iC 22 10 [((.t 21), some YSheet)]),
    (iO 20 (.mv (.t 22))),
    (iO 23 (.ext (.t 20) 0)),
    (iO 24 (.ext (.t 20) 1)),
    (iO 5 (.mv (.t 23))),
    (iO 6 (.mv (.t 24)))])
  (.seq (.region [(iO 25 (.mv (.t 3))),
    (iO 26 (.bin .eql (.t 25) (nI 56))),
    (iO 27 (.mv (.t 26))),
    ⟨some 28, some (2, 27, true), (.op (.mv (.t 4))), []⟩,
    ⟨some 29, some (2, 27, true), (.op (.bin .eql (.t 28) (nI 0))), []⟩,
    (iO 30 (.pick (.t 27) (.t 29) (.c (.tv .bool (false : Bool))))),
    (iO 31 (.mv (.t 30))),
    ⟨some 32, some (6, 31, true), (.op (.mv (.t 6))), []⟩,
    ⟨some 33, some (6, 31, true), (.op (.bin .eql (.t 32) (nI 12))), []⟩,
    (iO 34 (.pick (.t 31) (.t 33) (.c (.tv .bool (false : Bool))))),
    (iO 0 (.mv (.t 34)))])
  .ret))))))
noncomputable def z64f : FDef := ⟨0, 35, [.tmp 0 none], z64b⟩
noncomputable def z64p : XPat := ⟨.normal, [], []⟩
noncomputable def z64x : List XPat := [⟨.ret, [(.tv .bool)], []⟩]
noncomputable def z64t (k : Nat) (d : z64p.D) : Option (XD z64x) := overspilllaw27_lives k
noncomputable def z64_e (k : Nat) : UEntry := mkU z64p z64x (z64t k) nilU
theorem z64_n (k : Nat) : UNat (z64_e k) := mkU_nat nilU_nat
theorem z64_fu (k : Nat) : FU P GL 6 (z64_e k) :=
  fn_typed (uorc := uorT (z64U0 k)) hmo (T61_ok k).oo (z64U0_k k) (fd := z64f) (AllU.no (by kernel_rfl)) (fn := Tryz.f6) (by kernel_rfl) (by kernel_rfl) (fun d => by kernel_rfl) FU_nil
noncomputable def T62 (k : Nat) : List (Nat × Ent) := (6, ⟨z64_e k⟩) :: T61 k
theorem T62_ok (k : Nat) : TabOK P GL (T62 k) := (T61_ok k).cons (z64_fu k) (z64_n k)
/-! ### overspill.sheetout.Put -/
noncomputable def z65U0 (_ : Nat) : List (Nat × Ent) := []
theorem z65U0_k (k : Nat) : UTab (z65U0 k) := UTab.nil
noncomputable def sheetout_Put_2 (k : Nat) (x0 : DSheet) : Option (Int) :=
  some 1
noncomputable def z65b : AC :=
  (.seq (.region [(iO 2 (.box (.t 0))),
    (iO 3 (.box (.t 1))),
    (iO 4 (.mv (nI 0)))])
  (.seq (.seq (.region [(iO 17 (.load false 1 (.t 2))),
    (iO 18 (.eqp false (.t 17) (.c .nilp)))])
  (.cond (.t 18)
  (.seq (.region [(iO 4 (.mv (nI 1)))])
    .ret)
  .skip))
  (.seq (.seq (.region [(iO 19 .bad),
    (iO 20 .bad),
    (iO 5 .bad)])
  (.seq (.region [(iO 21 .bad),
    (iO 22 .bad)])
  (.cond (.t 22)
  (.seq (.region [(iO 23 .bad),
      (iO 4 .bad)])
    .ret)
  .skip)))
  (.seq (.region [(iO 24 .bad),
    (iO 25 .bad),
    (iO 26 .bad)])
  (.seq (.region [(iO 28 .bad),
    (iO 29 .bad),
    (iO 30 .bad),
    (iO 27 .bad),
    (iO 31 .bad),
    (iO 32 .bad),
    (iO 6 .bad),
    (iS .bad),
    (iO 7 .bad)])
  (.seq (.region [(iO 34 .bad),
    (iO 35 .bad),
    (iO 36 .bad),
    (iO 33 .bad),
    (iO 37 .bad),
    (iO 38 .bad),
    (iO 8 .bad),
    (iO 9 .bad)])
  (.seq (.region [(iO 10 .bad)])
  (.seq (.region [(iO 11 .bad),
    (iS .bad)])
  (.seq (.region [(iO 39 .bad),
    (iO 12 .bad)])
  (.seq (.seq (.region [(iO 40 .bad),
    (iO 41 .bad),
    (iO 42 .bad),
    (iO 43 .bad)])
  (.block 0 .bad))
  (.seq (.region [(iO 72 .bad),
    (iO 73 .bad)])
  (.seq (.seq (.region [(iO 74 .bad),
    (iO 75 .bad),
    (iO 76 .bad)])
  (.block 4 .bad))
  (.seq (.region [(iO 4 .bad)])
  .ret)))))))))))))
noncomputable def z65f : FDef := ⟨2, 81, [.tmp 4 none], z65b⟩
noncomputable def z65p : XPat := ⟨.normal, [.nilp, (.tv YSheet)], []⟩
noncomputable def z65x : List XPat := [⟨.ret, [(.tv (.int .i64))], []⟩]
noncomputable def z65t (k : Nat) (d : z65p.D) : Option (XD z65x) := sheetout_Put_2 k d.2
noncomputable def z65_e (k : Nat) : UEntry := mkU z65p z65x (z65t k) (z61_e k)
theorem z65_n (k : Nat) : UNat (z65_e k) := mkU_nat (z61_n k)
theorem z65_fu (k : Nat) : FU P GL 9 (z65_e k) :=
  fn_typed (uorc := uorT (z65U0 k)) hmo (T62_ok k).oo (z65U0_k k) (fd := z65f) (AllU.no (by kernel_rfl)) (fn := Tryz.f9) (by kernel_rfl) (by kernel_rfl) (fun d => by kernel_rfl) (z61_fu k)
noncomputable def T63 (k : Nat) : List (Nat × Ent) := (9, ⟨z65_e k⟩) :: T62 k
theorem T63_ok (k : Nat) : TabOK P GL (T63 k) := (T62_ok k).cons (z65_fu k) (z65_n k)
/-! ### overspill.overspillref16.Size -/
noncomputable def z66U0 (_ : Nat) : List (Nat × Ent) := []
theorem z66U0_k (k : Nat) : UTab (z66U0 k) := UTab.nil
noncomputable def overspillref16_Size (k : Nat) (x0 : Int) : Option (List (Int)) :=
  bif (decide (x0 < 0)) then
    some (Ty.zero (.arr 4 (.int .i64)))
  else
  bif (decide ((7 : Int) ≤ x0)) then
    some (Ty.zero (.arr 4 (.int .i64)))
  else
  bif (inR x0 7) then
    some (List.getD ([(Ty.zero (.arr 4 (.int .i64))), (List.set (List.set (List.set (List.set (Ty.zero (.arr 4 (.int .i64))) 0 128) 1 96) 2 6) 3 1), (List.set (List.set (List.set (List.set (Ty.zero (.arr 4 (.int .i64))) 0 176) 1 144) 2 9) 3 1), (List.set (List.set (List.set (List.set (Ty.zero (.arr 4 (.int .i64))) 0 352) 1 288) 2 18) 3 1), (List.set (List.set (List.set (List.set (Ty.zero (.arr 4 (.int .i64))) 0 704) 1 576) 2 18) 3 2), (List.set (List.set (List.set (List.set (Ty.zero (.arr 4 (.int .i64))) 0 1408) 1 1152) 2 18) 3 4), (List.set (List.set (List.set (List.set (Ty.zero (.arr 4 (.int .i64))) 0 32) 1 32) 2 2) 3 1)] : List (List (Int))) (Int.toNat x0) (Ty.zero (.arr 4 (.int .i64))))
  else
    none
noncomputable def z66b : AC :=
  (.seq (.region [(iO 2 (.alloc 64 (.tv (.arr 4 (.int .i64)))))])
  (.seq (.region [(iO 4 (.build 64 (.tv (.arr 4 (.int .i64))) [])),
    (iO 5 (.build 64 (.tv (.arr 4 (.int .i64))) [(0, (.idx 0 4 1), 1, (nI 128)), (1, (.idx 1 4 1), 1, (nI 96)), (2, (.idx 2 4 1), 1, (nI 6)), (3, (.idx 3 4 1), 1, (nI 1))])),
    (iO 6 (.build 64 (.tv (.arr 4 (.int .i64))) [(0, (.idx 0 4 1), 1, (nI 176)), (1, (.idx 1 4 1), 1, (nI 144)), (2, (.idx 2 4 1), 1, (nI 9)), (3, (.idx 3 4 1), 1, (nI 1))])),
    (iO 7 (.build 64 (.tv (.arr 4 (.int .i64))) [(0, (.idx 0 4 1), 1, (nI 352)), (1, (.idx 1 4 1), 1, (nI 288)), (2, (.idx 2 4 1), 1, (nI 18)), (3, (.idx 3 4 1), 1, (nI 1))])),
    (iO 8 (.build 64 (.tv (.arr 4 (.int .i64))) [(0, (.idx 0 4 1), 1, (nI 704)), (1, (.idx 1 4 1), 1, (nI 576)), (2, (.idx 2 4 1), 1, (nI 18)), (3, (.idx 3 4 1), 1, (nI 2))])),
    (iO 9 (.build 64 (.tv (.arr 4 (.int .i64))) [(0, (.idx 0 4 1), 1, (nI 1408)), (1, (.idx 1 4 1), 1, (nI 1152)), (2, (.idx 2 4 1), 1, (nI 18)), (3, (.idx 3 4 1), 1, (nI 4))])),
    (iO 10 (.build 64 (.tv (.arr 4 (.int .i64))) [(0, (.idx 0 4 1), 1, (nI 32)), (1, (.idx 1 4 1), 1, (nI 32)), (2, (.idx 2 4 1), 1, (nI 2)), (3, (.idx 3 4 1), 1, (nI 1))])),
    (iO 11 (.bslice (.arr 4 (.int .i64)) [(.t 4), (.t 5), (.t 6), (.t 7), (.t 8), (.t 9), (.t 10)])),
    (iO 3 (.mv (.t 11)))])
  (.seq (.seq (.region [(iO 12 (.mv (.t 0))),
    (iO 13 (.bin .lss (.t 12) (nI 0))),
    (iO 14 (.mv (.t 13))),
    ⟨some 15, some (2, 14, false), (.op (.mv (.t 0))), []⟩,
    ⟨some 16, some (2, 14, false), (.op (.mv (.t 3))), []⟩,
    ⟨some 17, some (2, 14, false), (.op (.len (.t 16))), []⟩,
    ⟨some 18, some (2, 14, false), (.op (.bin .geq (.t 15) (.t 17))), []⟩,
    (iO 19 (.pick (.t 14) (.c (.tv .bool (true : Bool))) (.t 18)))])
  (.cond (.t 19)
  (.seq (.region [(iO 20 (.build 64 (.tv (.arr 4 (.int .i64))) [])),
      (iS (.store 4 none (.t 2) (.t 20)))])
    .ret)
  .skip))
  (.seq (.region [(iO 21 (.mv (.t 3))),
    (iO 22 (.mv (.t 0))),
    (iO 23 (.iads (.arr 4 (.int .i64)) (.t 21) (.t 22))),
    (iO 24 (.load true 4 (.t 23))),
    (iS (.store 4 none (.t 2) (.t 24)))])
  .ret))))
noncomputable def z66f : FDef := ⟨1, 25, [.cell 2 4 true (some (.arr 4 (.int .i64)))], z66b⟩
noncomputable def z66p : XPat := ⟨.normal, [(.tv (.int .i64))], []⟩
noncomputable def z66x : List XPat := [⟨.ret, [(.tv (.arr 4 (.int .i64)))], []⟩]
noncomputable def z66t (k : Nat) (d : z66p.D) : Option (XD z66x) := overspillref16_Size k d
noncomputable def z66_e (k : Nat) : UEntry := mkU z66p z66x (z66t k) nilU
theorem z66_n (k : Nat) : UNat (z66_e k) := mkU_nat nilU_nat
theorem z66_fu (k : Nat) : FU P GL 31 (z66_e k) :=
  fn_typed (uorc := uorT (z66U0 k)) hmo (T63_ok k).oo (z66U0_k k) (fd := z66f) (AllU.no (by kernel_rfl)) (fn := Tryz.f31) (by kernel_rfl) (by kernel_rfl) (fun d => by kernel_rfl) FU_nil
noncomputable def T64 (k : Nat) : List (Nat × Ent) := (31, ⟨z66_e k⟩) :: T63 k
theorem T64_ok (k : Nat) : TabOK P GL (T64 k) := (T63_ok k).cons (z66_fu k) (z66_n k)
/-! ### overspill.overspillref16.Many -/
noncomputable def z67U0 (_ : Nat) : List (Nat × Ent) := []
theorem z67U0_k (k : Nat) : UTab (z67U0 k) := UTab.nil
noncomputable def overspillref16_Many (k : Nat) (x0 : Int) : Option (Int) :=
  Option.bind (overspillref16_Size k x0) fun (v288 : List (Int)) =>
  Option.bind (overspillref16_Size k x0) fun (v289 : List (Int)) =>
  some (wr .i64 ((wr .i64 (Int.tdiv (List.getD v288 0 0) 16)) * (wr .i64 (Int.tdiv (List.getD v289 1 0) 16))))
noncomputable def z67b : AC :=
  (.seq (.region [(iO 2 (.mv (nI 0)))])
  (.seq (.region [(iO 3 (.mv (.t 0))),
    (iC 4 31 [((.t 3), none)]),
    (iO 5 (.ix 4 1 false (.t 4) (nI 0))),
    (iO 6 (.bin .quo (.t 5) (nI 16))),
    (iO 7 (.mv (.t 0))),
    (iC 8 31 [((.t 7), none)]),
    (iO 9 (.ix 4 1 false (.t 8) (nI 1))),
    (iO 10 (.bin .quo (.t 9) (nI 16))),
    (iO 11 (.bin .mul (.t 6) (.t 10))),
    (iO 2 (.mv (.t 11)))])
  .ret))
noncomputable def z67f : FDef := ⟨1, 12, [.tmp 2 none], z67b⟩
noncomputable def z67p : XPat := ⟨.normal, [(.tv (.int .i64))], []⟩
noncomputable def z67x : List XPat := [⟨.ret, [(.tv (.int .i64))], []⟩]
noncomputable def z67t (k : Nat) (d : z67p.D) : Option (XD z67x) := overspillref16_Many k d
noncomputable def z67_e (k : Nat) : UEntry := mkU z67p z67x (z67t k) nilU
theorem z67_n (k : Nat) : UNat (z67_e k) := mkU_nat nilU_nat
theorem z67_fu (k : Nat) : FU P GL 62 (z67_e k) :=
  fn_typed (uorc := uorT (z67U0 k)) hmo (T64_ok k).oo (z67U0_k k) (fd := z67f) (AllU.no (by kernel_rfl)) (fn := Tryz.f62) (by kernel_rfl) (by kernel_rfl) (fun d => by kernel_rfl) FU_nil
noncomputable def T65 (k : Nat) : List (Nat × Ent) := (62, ⟨z67_e k⟩) :: T64 k
theorem T65_ok (k : Nat) : TabOK P GL (T65 k) := (T64_ok k).cons (z67_fu k) (z67_n k)
/-! ### overspill.overspillref24.Right -/
noncomputable def z68U0 (_ : Nat) : List (Nat × Ent) := []
theorem z68U0_k (k : Nat) : UTab (z68U0 k) := UTab.nil
noncomputable def z68u0d : UDef := ⟨[(1, none)], [4, 5, 6, 7, 8, 9, 10, 11, 12, 13, 14, 15, 16, 17, 18, 19, 20, 21, 22, 23, 24, 25, 26, 27, 28, 29, 30, 31, 32, 33, 34, 35, 36, 37, 38, 39, 40, 41, 42, 43], [(.normal, [(43, none)])], []⟩
noncomputable def z68u0p : XPat := ⟨.normal, [(.ptr 0 [])], [(.box (.tv YSheet))]⟩
noncomputable def z68u0x : List XPat := [⟨.normal, [(.tv .bool)], [(.box (.tv YSheet))]⟩]
noncomputable def overspillref24_Rightu0 (k : Nat) (x0 : DSheet) : Option ((Bool) × (DSheet)) :=
  bif (decide (x0.1 < 0)) then
    some (true, x0)
  else
  bif (decide ((255 : Int) < x0.1)) then
    some (true, x0)
  else
  bif (decide (x0.2.1 < 0)) then
    some (true, x0)
  else
  bif (decide ((7 : Int) < x0.2.1)) then
    some (true, x0)
  else
  Option.bind (overspillref16_Many k x0.2.2.1) fun (v291 : Int) =>
  bif (decide (v291 = 0)) then
    some (true, x0)
  else
  bif (decide (x0.2.2.2.2.1 < 1)) then
    some (true, x0)
  else
  bif (decide ((31 : Int) < x0.2.2.2.2.1)) then
    some (true, x0)
  else
  some ((decide ((8 : Int) < ((List.length x0.2.2.2.2.2.1 : Nat) : Int))), x0)
noncomputable def z68u0b : AC :=
  (.region [(iO 4 (.fad 0 0 (.t 1))),
    (iO 5 (.load false 1 (.t 4))),
    (iO 6 (.bin .lss (.t 5) (nI 0))),
    (iO 7 (.mv (.t 6))),
    ⟨some 8, some (3, 7, false), (.op (.fad 0 0 (.t 1))), []⟩,
    ⟨some 9, some (3, 7, false), (.op (.load false 1 (.t 8))), []⟩,
    ⟨some 10, some (3, 7, false), (.op (.bin .gtr (.t 9) (nI 255))), []⟩,
    (iO 11 (.pick (.t 7) (.c (.tv .bool (true : Bool))) (.t 10))),
    (iO 12 (.mv (.t 11))),
    ⟨some 13, some (8, 12, false), (.op (.fad 1 1 (.t 1))), []⟩,
    ⟨some 14, some (8, 12, false), (.op (.load false 1 (.t 13))), []⟩,
    ⟨some 15, some (8, 12, false), (.op (.bin .lss (.t 14) (nI 0))), []⟩,
    (iO 16 (.pick (.t 12) (.c (.tv .bool (true : Bool))) (.t 15))),
    (iO 17 (.mv (.t 16))),
    ⟨some 18, some (13, 17, false), (.op (.fad 1 1 (.t 1))), []⟩,
    ⟨some 19, some (13, 17, false), (.op (.load false 1 (.t 18))), []⟩,
    ⟨some 20, some (13, 17, false), (.op (.bin .gtr (.t 19) (nI 7))), []⟩,
    (iO 21 (.pick (.t 17) (.c (.tv .bool (true : Bool))) (.t 20))),
    (iO 22 (.mv (.t 21))),
    ⟨some 23, some (18, 22, false), (.op (.fad 2 2 (.t 1))), []⟩,
    ⟨some 24, some (18, 22, false), (.op (.load false 1 (.t 23))), []⟩,
    ⟨some 25, some (18, 22, false), (.call (.c (.fn 62 .nil .nil)) [((.t 24), none)]), []⟩,
    ⟨some 26, some (18, 22, false), (.op (.bin .eql (.t 25) (nI 0))), []⟩,
    (iO 27 (.pick (.t 22) (.c (.tv .bool (true : Bool))) (.t 26))),
    (iO 28 (.mv (.t 27))),
    ⟨some 29, some (24, 28, false), (.op (.fad 4 4 (.t 1))), []⟩,
    ⟨some 30, some (24, 28, false), (.op (.load false 1 (.t 29))), []⟩,
    ⟨some 31, some (24, 28, false), (.op (.bin .lss (.t 30) (nI 1))), []⟩,
    (iO 32 (.pick (.t 28) (.c (.tv .bool (true : Bool))) (.t 31))),
    (iO 33 (.mv (.t 32))),
    ⟨some 34, some (29, 33, false), (.op (.fad 4 4 (.t 1))), []⟩,
    ⟨some 35, some (29, 33, false), (.op (.load false 1 (.t 34))), []⟩,
    ⟨some 36, some (29, 33, false), (.op (.bin .gtr (.t 35) (nI 31))), []⟩,
    (iO 37 (.pick (.t 33) (.c (.tv .bool (true : Bool))) (.t 36))),
    (iO 38 (.mv (.t 37))),
    ⟨some 39, some (34, 38, false), (.op (.fad 5 5 (.t 1))), []⟩,
    ⟨some 40, some (34, 38, false), (.op (.load false 1 (.t 39))), []⟩,
    ⟨some 41, some (34, 38, false), (.op (.len (.t 40))), []⟩,
    ⟨some 42, some (34, 38, false), (.op (.bin .gtr (.t 41) (nI 8))), []⟩,
    (iO 43 (.pick (.t 38) (.c (.tv .bool (true : Bool))) (.t 42)))])
noncomputable def z68u0t (k : Nat) (d : z68u0p.D) : Option (XD z68u0x) := overspillref24_Rightu0 k d.2
theorem z68u0_k (k : Nat) : UOK P GL (mkU z68u0p z68u0x (z68u0t k) nilU) z68u0d false z68u0b :=
  unit_typed (ud := z68u0d) (body := z68u0b) (uorc := uorT (z68U0 k)) hmo (T65_ok k).oo (z68U0_k k) (AllU.no (by kernel_rfl)) (fun d => by kernel_rfl)
noncomputable def z68U1 (k : Nat) : List (Nat × Ent) := (0, ⟨mkU z68u0p z68u0x (z68u0t k) nilU⟩) :: z68U0 k
theorem z68U1_k (k : Nat) : UTab (z68U1 k) := (z68U0_k k).cons (mkU_nat nilU_nat)
noncomputable def z68u1d : UDef := ⟨[(1, none), (3, none)], [2, 3, 44, 45, 46, 47, 48, 49, 50, 51, 52, 53, 54, 55, 56, 57, 58, 59, 60, 61, 62, 63, 64], [(.ret, [(2, none)]), ((.exit 0), [])], []⟩
noncomputable def z68u1p : XPat := ⟨.normal, [(.ptr 0 []), (.tv (.int .i64))], [(.box (.tv YSheet))]⟩
noncomputable def z68u1x : List XPat := [⟨.ret, [(.tv .bool)], [(.box (.tv YSheet))]⟩, ⟨(.exit 0), [], [(.box (.tv YSheet))]⟩]
noncomputable def overspillref24_Rightu1 (k : Nat) : Nat → (Int) → (DSheet) → Option (((Bool) × (DSheet)) ⊕ ((Unit) × (DSheet)))
  | 0, _, _ => none
  | n + 1, x0, x1 =>
    bif (decide (x0 < ((List.length x1.2.2.2.2.2.1 : Nat) : Int))) then
      bif (inR x0 (List.length x1.2.2.2.2.2.1)) then
        bif (decide ((List.getD x1.2.2.2.2.2.1 (Int.toNat x0) 0) < 0)) then
          some (Sum.inl (false, x1))
        else
        bif (inR x0 (List.length x1.2.2.2.2.2.1)) then
          bif (decide ((255 : Int) < (List.getD x1.2.2.2.2.2.1 (Int.toNat x0) 0))) then
            some (Sum.inl (false, x1))
          else
          Option.bind (overspillref24_Rightu1 k n (wr .i64 (x0 + 1)) x1) fun r => Sum.elim (fun w => some (Sum.inl w)) (fun w => some (Sum.inr w)) r
        else
          none
      else
        none
    else
    some (Sum.inr ((), x1))
noncomputable def z68u1b : AC :=
  (.seq (.seq (.region [(iO 44 (.mv (.t 3))),
    (iO 45 (.fad 5 5 (.t 1))),
    (iO 46 (.load false 1 (.t 45))),
    (iO 47 (.len (.t 46))),
    (iO 48 (.bin .lss (.t 44) (.t 47)))])
  (.cond (.t 48)
  .skip
  (.exit 0)))
  (.seq (.block 1 (.seq (.region [(iO 51 (.fad 5 5 (.t 1))),
    (iO 52 (.load false 1 (.t 51))),
    (iO 53 (.mv (.t 3))),
    (iO 54 (.iads (.int .i64) (.t 52) (.t 53))),
    (iO 55 (.load false 1 (.t 54))),
    (iO 56 (.bin .lss (.t 55) (nI 0))),
    (iO 57 (.mv (.t 56))),
    ⟨some 58, some (6, 57, false), (.op (.fad 5 5 (.t 1))), []⟩,
    ⟨some 59, some (6, 57, false), (.op (.load false 1 (.t 58))), []⟩,
    ⟨some 60, some (6, 57, false), (.op (.mv (.t 3))), []⟩,
    ⟨some 61, some (6, 57, false), (.op (.iads (.int .i64) (.t 59) (.t 60))), []⟩,
    ⟨some 62, some (6, 57, false), (.op (.load false 1 (.t 61))), []⟩,
    ⟨some 63, some (6, 57, false), (.op (.bin .gtr (.t 62) (nI 255))), []⟩,
    (iO 64 (.pick (.t 57) (.c (.tv .bool (true : Bool))) (.t 63)))])
  (.cond (.t 64)
  (.seq (.region [(iO 2 (.mv (.c (.tv .bool (false : Bool)))))])
    .ret)
  .skip)))
  (.region [(iO 49 (.mv (.t 3))),
    (iO 50 (.bin .add (.t 49) (nI 1))),
    (iO 3 (.mv (.t 50)))])))
noncomputable def z68u1t (k n : Nat) (d : z68u1p.D) : Option (XD z68u1x) := overspillref24_Rightu1 k n d.1.2 d.2
theorem z68u1_k (k : Nat) : UOK P GL (mkU z68u1p z68u1x (z68u1t k k) nilU) z68u1d true z68u1b :=
  loop_typed (ud := z68u1d) (body := z68u1b) (uorc := uorT (z68U1 k)) hmo (T65_ok k).oo (z68U1_k k) (AllU.no (by kernel_rfl)) (t := z68u1t k) (fun d => by kernel_rfl) (fun n d => by kernel_rfl) k
noncomputable def z68U2 (k : Nat) : List (Nat × Ent) := (1, ⟨mkU z68u1p z68u1x (z68u1t k k) nilU⟩) :: z68U1 k
theorem z68U2_k (k : Nat) : UTab (z68U2 k) := (z68U1_k k).cons (mkU_nat nilU_nat)
noncomputable def overspillref24_Right (k : Nat) (x0 : DSheet) : Option (Bool) :=
  Option.bind (overspillref24_Rightu0 k x0) fun (v292 : (Bool) × (DSheet)) =>
  bif v292.1 then
    some false
  else
  Option.bind (overspillref24_Rightu1 k k 0 v292.2) fun r =>
  Sum.elim (fun (v293 : (Bool) × (DSheet)) =>
    some v293.1)
    (fun (v294 : (Unit) × (DSheet)) =>
    some true) r
noncomputable def z68b : AC :=
  (.seq (.region [(iO 1 (.box (.t 0))),
    (iO 2 (.mv (.c (.tv .bool (false : Bool)))))])
  (.seq (.seq (.unit 0 z68u0d false z68u0b)
  (.cond (.t 43)
  (.seq (.region [(iO 2 (.mv (.c (.tv .bool (false : Bool)))))])
    .ret)
  .skip))
  (.seq (.seq (.region [(iO 3 (.mv (nI 0)))])
  (.block 0 (.unit 1 z68u1d true z68u1b)))
  (.seq (.region [(iO 2 (.mv (.c (.tv .bool (true : Bool)))))])
  .ret))))
noncomputable def z68f : FDef := ⟨1, 65, [.tmp 2 none], z68b⟩
noncomputable def z68p : XPat := ⟨.normal, [(.tv YSheet)], []⟩
noncomputable def z68x : List XPat := [⟨.ret, [(.tv .bool)], []⟩]
noncomputable def z68t (k : Nat) (d : z68p.D) : Option (XD z68x) := overspillref24_Right k d
noncomputable def z68_e (k : Nat) : UEntry := mkU z68p z68x (z68t k) nilU
theorem z68_n (k : Nat) : UNat (z68_e k) := mkU_nat nilU_nat
theorem z68_fu (k : Nat) : FU P GL 30 (z68_e k) :=
  fn_typed (uorc := uorT (z68U2 k)) hmo (T65_ok k).oo (z68U2_k k) (fd := z68f) (AllU.seq (AllU.no (by kernel_rfl)) (AllU.seq (AllU.seq (AllU.unit (uorc := uorT (z68U2 k)) (u := 0) (z68u0_k k)) (AllU.no (by kernel_rfl))) (AllU.seq (AllU.seq (AllU.no (by kernel_rfl)) (AllU.block (AllU.unit (uorc := uorT (z68U2 k)) (u := 1) (z68u1_k k)))) (AllU.no (by kernel_rfl))))) (fn := Tryz.f30) (by kernel_rfl) (by kernel_rfl) (fun d => by kernel_rfl) FU_nil
noncomputable def T66 (k : Nat) : List (Nat × Ent) := (30, ⟨z68_e k⟩) :: T65 k
theorem T66_ok (k : Nat) : TabOK P GL (T66 k) := (T65_ok k).cons (z68_fu k) (z68_n k)
/-! ### overspill.overspillref16.Across -/
noncomputable def z69U0 (_ : Nat) : List (Nat × Ent) := []
theorem z69U0_k (k : Nat) : UTab (z69U0 k) := UTab.nil
noncomputable def overspillref16_Across (k : Nat) (x0 : Int) : Option (Int) :=
  Option.bind (overspillref16_Size k x0) fun (v300 : List (Int)) =>
  some (wr .i64 (Int.tdiv (List.getD v300 0 0) 16))
noncomputable def z69b : AC :=
  (.seq (.region [(iO 2 (.mv (nI 0)))])
  (.seq (.region [(iO 3 (.mv (.t 0))),
    (iC 4 31 [((.t 3), none)]),
    (iO 5 (.ix 4 1 false (.t 4) (nI 0))),
    (iO 6 (.bin .quo (.t 5) (nI 16))),
    (iO 2 (.mv (.t 6)))])
  .ret))
noncomputable def z69f : FDef := ⟨1, 7, [.tmp 2 none], z69b⟩
noncomputable def z69p : XPat := ⟨.normal, [(.tv (.int .i64))], []⟩
noncomputable def z69x : List XPat := [⟨.ret, [(.tv (.int .i64))], []⟩]
noncomputable def z69t (k : Nat) (d : z69p.D) : Option (XD z69x) := overspillref16_Across k d
noncomputable def z69_e (k : Nat) : UEntry := mkU z69p z69x (z69t k) nilU
theorem z69_n (k : Nat) : UNat (z69_e k) := mkU_nat nilU_nat
theorem z69_fu (k : Nat) : FU P GL 40 (z69_e k) :=
  fn_typed (uorc := uorT (z69U0 k)) hmo (T66_ok k).oo (z69U0_k k) (fd := z69f) (AllU.no (by kernel_rfl)) (fn := Tryz.f40) (by kernel_rfl) (by kernel_rfl) (fun d => by kernel_rfl) FU_nil
noncomputable def T67 (k : Nat) : List (Nat × Ent) := (40, ⟨z69_e k⟩) :: T66 k
theorem T67_ok (k : Nat) : TabOK P GL (T67 k) := (T66_ok k).cons (z69_fu k) (z69_n k)
/-! ### overspill.overspillref22.zero -/
noncomputable def z70U0 (_ : Nat) : List (Nat × Ent) := []
theorem z70U0_k (k : Nat) : UTab (z70U0 k) := UTab.nil
noncomputable def z70u0d : UDef := ⟨[(1, none), (3, none)], [2, 3, 4, 5, 6, 7, 8, 9, 10, 11, 12, 13, 14, 15, 16, 17, 18, 19, 20], [(.ret, [(2, none)]), ((.exit 0), [])], []⟩
noncomputable def z70u0p : XPat := ⟨.normal, [(.ptr 0 []), (.tv (.int .i64))], [(.box (.tv YCell))]⟩
noncomputable def z70u0x : List XPat := [⟨.ret, [(.tv .bool)], [(.box (.tv YCell))]⟩, ⟨(.exit 0), [], [(.box (.tv YCell))]⟩]
noncomputable def overspillref22_zerou0 (k : Nat) : Nat → (Int) → (DCell) → Option (((Bool) × (DCell)) ⊕ ((Unit) × (DCell)))
  | 0, _, _ => none
  | n + 1, x0, x1 =>
    bif (decide (x0 < 6)) then
      bif (inR x0 6) then
        bif (decide ((0 : Int) < ((List.length (List.getD x1.2.2.2.2.2.2.1 (Int.toNat x0) ([] : List (DEvent))) : Nat) : Int))) then
          some (Sum.inl (false, x1))
        else
        bif (inR x0 6) then
          bif (!(decide ((List.getD x1.2.2.2.2.2.1 (Int.toNat x0) 0) = 0))) then
            some (Sum.inl (false, x1))
          else
          Option.bind (overspillref22_zerou0 k n (wr .i64 (x0 + 1)) x1) fun r => Sum.elim (fun w => some (Sum.inl w)) (fun w => some (Sum.inr w)) r
        else
          none
      else
        none
    else
    some (Sum.inr ((), x1))
noncomputable def z70u0b : AC :=
  (.seq (.seq (.region [(iO 4 (.mv (.t 3))),
    (iO 5 (.bin .lss (.t 4) (nI 6)))])
  (.cond (.t 5)
  .skip
  (.exit 0)))
  (.seq (.block 1 (.seq (.region [(iO 8 (.mv (.t 3))),
    (iO 9 (.fad 6 12 (.t 1))),
    (iO 10 (.iad 6 1 (.t 9) (.t 8))),
    (iO 11 (.load false 1 (.t 10))),
    (iO 12 (.len (.t 11))),
    (iO 13 (.bin .gtr (.t 12) (nI 0))),
    (iO 14 (.mv (.t 13))),
    ⟨some 15, some (6, 14, false), (.op (.mv (.t 3))), []⟩,
    ⟨some 16, some (6, 14, false), (.op (.fad 5 6 (.t 1))), []⟩,
    ⟨some 17, some (6, 14, false), (.op (.iad 6 1 (.t 16) (.t 15))), []⟩,
    ⟨some 18, some (6, 14, false), (.op (.load false 1 (.t 17))), []⟩,
    ⟨some 19, some (6, 14, false), (.op (.bin .neq (.t 18) (nI 0))), []⟩,
    (iO 20 (.pick (.t 14) (.c (.tv .bool (true : Bool))) (.t 19)))])
  (.cond (.t 20)
  (.seq (.region [(iO 2 (.mv (.c (.tv .bool (false : Bool)))))])
    .ret)
  .skip)))
  (.region [(iO 6 (.mv (.t 3))),
    (iO 7 (.bin .add (.t 6) (nI 1))),
    (iO 3 (.mv (.t 7)))])))
noncomputable def z70u0t (k n : Nat) (d : z70u0p.D) : Option (XD z70u0x) := overspillref22_zerou0 k n d.1.2 d.2
theorem z70u0_k (k : Nat) : UOK P GL (mkU z70u0p z70u0x (z70u0t k k) nilU) z70u0d true z70u0b :=
  loop_typed (ud := z70u0d) (body := z70u0b) (uorc := uorT (z70U0 k)) hmo (T67_ok k).oo (z70U0_k k) (AllU.no (by kernel_rfl)) (t := z70u0t k) (fun d => by kernel_rfl) (fun n d => by kernel_rfl) k
noncomputable def z70U1 (k : Nat) : List (Nat × Ent) := (0, ⟨mkU z70u0p z70u0x (z70u0t k k) nilU⟩) :: z70U0 k
theorem z70U1_k (k : Nat) : UTab (z70U1 k) := (z70U0_k k).cons (mkU_nat nilU_nat)
noncomputable def overspillref22_zero (k : Nat) (x0 : DCell) : Option (Bool) :=
  Option.bind (overspillref22_zerou0 k k 0 x0) fun r =>
  Sum.elim (fun (v306 : (Bool) × (DCell)) =>
    some v306.1)
    (fun (v307 : (Unit) × (DCell)) =>
    bif (decide (v307.2.2.2.1 = 0)) then
      bif (decide (v307.2.2.2.2.1 = 0)) then
        bif (decide ((List.getD v307.2.2.2.2.2.1 0 0) = 0)) then
          some (decide ((List.getD v307.2.2.2.2.2.1 1 0) = 0))
        else
        some false
      else
      some false
    else
    some false) r
noncomputable def z70b : AC :=
  (.seq (.region [(iO 1 (.box (.t 0))),
    (iO 2 (.mv (.c (.tv .bool (false : Bool)))))])
  (.seq (.seq (.region [(iO 3 (.mv (nI 0)))])
  (.block 0 (.unit 0 z70u0d true z70u0b)))
  (.seq (.region [(iO 21 (.fad 2 2 (.t 1))),
    (iO 22 (.load false 1 (.t 21))),
    (iO 23 (.bin .eql (.t 22) (nI 0))),
    (iO 24 (.mv (.t 23))),
    ⟨some 25, some (3, 24, true), (.op (.fad 3 3 (.t 1))), []⟩,
    ⟨some 26, some (3, 24, true), (.op (.load false 1 (.t 25))), []⟩,
    ⟨some 27, some (3, 24, true), (.op (.bin .eql (.t 26) (nI 0))), []⟩,
    (iO 28 (.pick (.t 24) (.t 27) (.c (.tv .bool (false : Bool))))),
    (iO 29 (.mv (.t 28))),
    ⟨some 30, some (8, 29, true), (.op (.fad 4 4 (.t 1))), []⟩,
    ⟨some 31, some (8, 29, true), (.op (.iad 2 1 (.t 30) (nI 0))), []⟩,
    ⟨some 32, some (8, 29, true), (.op (.load false 1 (.t 31))), []⟩,
    ⟨some 33, some (8, 29, true), (.op (.bin .eql (.t 32) (nI 0))), []⟩,
    (iO 34 (.pick (.t 29) (.t 33) (.c (.tv .bool (false : Bool))))),
    (iO 35 (.mv (.t 34))),
    ⟨some 36, some (14, 35, true), (.op (.fad 4 4 (.t 1))), []⟩,
    ⟨some 37, some (14, 35, true), (.op (.iad 2 1 (.t 36) (nI 1))), []⟩,
    ⟨some 38, some (14, 35, true), (.op (.load false 1 (.t 37))), []⟩,
    ⟨some 39, some (14, 35, true), (.op (.bin .eql (.t 38) (nI 0))), []⟩,
    (iO 40 (.pick (.t 35) (.t 39) (.c (.tv .bool (false : Bool))))),
    (iO 2 (.mv (.t 40)))])
  .ret)))
noncomputable def z70f : FDef := ⟨1, 41, [.tmp 2 none], z70b⟩
noncomputable def z70p : XPat := ⟨.normal, [(.tv YCell)], []⟩
noncomputable def z70x : List XPat := [⟨.ret, [(.tv .bool)], []⟩]
noncomputable def z70t (k : Nat) (d : z70p.D) : Option (XD z70x) := overspillref22_zero k d
noncomputable def z70_e (k : Nat) : UEntry := mkU z70p z70x (z70t k) nilU
theorem z70_n (k : Nat) : UNat (z70_e k) := mkU_nat nilU_nat
theorem z70_fu (k : Nat) : FU P GL 86 (z70_e k) :=
  fn_typed (uorc := uorT (z70U1 k)) hmo (T67_ok k).oo (z70U1_k k) (fd := z70f) (AllU.seq (AllU.no (by kernel_rfl)) (AllU.seq (AllU.seq (AllU.no (by kernel_rfl)) (AllU.block (AllU.unit (uorc := uorT (z70U1 k)) (u := 0) (z70u0_k k)))) (AllU.no (by kernel_rfl)))) (fn := Tryz.f86) (by kernel_rfl) (by kernel_rfl) (fun d => by kernel_rfl) FU_nil
noncomputable def T68 (k : Nat) : List (Nat × Ent) := (86, ⟨z70_e k⟩) :: T67 k
theorem T68_ok (k : Nat) : TabOK P GL (T68 k) := (T67_ok k).cons (z70_fu k) (z70_n k)
/-! ### overspill.overspillref20.Row -/
noncomputable def z71U0 (_ : Nat) : List (Nat × Ent) := []
theorem z71U0_k (k : Nat) : UTab (z71U0 k) := UTab.nil
noncomputable def overspillref20_Row (k : Nat) (x0 : Int) : Option (List UInt8) :=
  bif (decide (x0 < (-2))) then
    some ([] : List UInt8)
  else
  bif (decide ((2 : Int) < x0)) then
    some ([] : List UInt8)
  else
  bif (decide (x0 = 0)) then
    some ([] : List UInt8)
  else
  bif (inR (wr .i64 (x0 + 2)) 5) then
    some (List.getD ([([48, 49] : List UInt8), ([48, 48] : List UInt8), ([] : List UInt8), ([49, 48] : List UInt8), ([49, 49] : List UInt8)] : List (List UInt8)) (Int.toNat (wr .i64 (x0 + 2))) ([] : List UInt8))
  else
    none
noncomputable def z71b : AC :=
  (.seq (.region [(iO 2 (.mv (.c (.tv .str (([] : List UInt8) : List UInt8)))))])
  (.seq (.seq (.region [(iO 3 (.mv (.t 0))),
    (iO 4 (.bin .lss (.t 3) (nI (-2)))),
    (iO 5 (.mv (.t 4))),
    ⟨some 6, some (2, 5, false), (.op (.mv (.t 0))), []⟩,
    ⟨some 7, some (2, 5, false), (.op (.bin .gtr (.t 6) (nI 2))), []⟩,
    (iO 8 (.pick (.t 5) (.c (.tv .bool (true : Bool))) (.t 7))),
    (iO 9 (.mv (.t 8))),
    ⟨some 10, some (6, 9, false), (.op (.mv (.t 0))), []⟩,
    ⟨some 11, some (6, 9, false), (.op (.bin .eql (.t 10) (nI 0))), []⟩,
    (iO 12 (.pick (.t 9) (.c (.tv .bool (true : Bool))) (.t 11)))])
  (.cond (.t 12)
  (.seq (.region [(iO 2 (.mv (.c (.tv .str (([] : List UInt8) : List UInt8)))))])
    .ret)
  .skip))
  (.seq (.region [(iO 13 (.bslice .str [(.c (.tv .str (([48, 49] : List UInt8) : List UInt8))), (.c (.tv .str (([48, 48] : List UInt8) : List UInt8))), (.c (.tv .str (([] : List UInt8) : List UInt8))), (.c (.tv .str (([49, 48] : List UInt8) : List UInt8))), (.c (.tv .str (([49, 49] : List UInt8) : List UInt8)))])),
    (iO 14 (.mv (.t 0))),
    (iO 15 (.bin .add (.t 14) (nI 2))),
    (iO 16 (.iads .str (.t 13) (.t 15))),
    (iO 17 (.load false 1 (.t 16))),
    (iO 2 (.mv (.t 17)))])
  .ret)))
noncomputable def z71f : FDef := ⟨1, 18, [.tmp 2 none], z71b⟩
noncomputable def z71p : XPat := ⟨.normal, [(.tv (.int .i64))], []⟩
noncomputable def z71x : List XPat := [⟨.ret, [(.tv .str)], []⟩]
noncomputable def z71t (k : Nat) (d : z71p.D) : Option (XD z71x) := overspillref20_Row k d
noncomputable def z71_e (k : Nat) : UEntry := mkU z71p z71x (z71t k) nilU
theorem z71_n (k : Nat) : UNat (z71_e k) := mkU_nat nilU_nat
theorem z71_fu (k : Nat) : FU P GL 69 (z71_e k) :=
  fn_typed (uorc := uorT (z71U0 k)) hmo (T68_ok k).oo (z71U0_k k) (fd := z71f) (AllU.no (by kernel_rfl)) (fn := Tryz.f69) (by kernel_rfl) (by kernel_rfl) (fun d => by kernel_rfl) FU_nil
noncomputable def T69 (k : Nat) : List (Nat × Ent) := (69, ⟨z71_e k⟩) :: T68 k
theorem T69_ok (k : Nat) : TabOK P GL (T69 k) := (T68_ok k).cons (z71_fu k) (z71_n k)
/-! ### overspill.overspillref21.Intra -/
noncomputable def z72U0 (_ : Nat) : List (Nat × Ent) := []
theorem z72U0_k (k : Nat) : UTab (z72U0 k) := UTab.nil
noncomputable def overspillref21_Intra (k : Nat) (x0 : Int) : Option (Bool) :=
  bif (decide (x0 = 3)) then
    some true
  else
  some (decide (x0 = 4))
noncomputable def z72b : AC :=
  (.seq (.region [(iO 2 (.mv (.c (.tv .bool (false : Bool)))))])
  (.seq (.region [(iO 3 (.mv (.t 0))),
    (iO 4 (.bin .eql (.t 3) (nI 3))),
    (iO 5 (.mv (.t 4))),
    ⟨some 6, some (2, 5, false), (.op (.mv (.t 0))), []⟩,
    ⟨some 7, some (2, 5, false), (.op (.bin .eql (.t 6) (nI 4))), []⟩,
    (iO 8 (.pick (.t 5) (.c (.tv .bool (true : Bool))) (.t 7))),
    (iO 2 (.mv (.t 8)))])
  .ret))
noncomputable def z72f : FDef := ⟨1, 9, [.tmp 2 none], z72b⟩
noncomputable def z72p : XPat := ⟨.normal, [(.tv (.int .i64))], []⟩
noncomputable def z72x : List XPat := [⟨.ret, [(.tv .bool)], []⟩]
noncomputable def z72t (k : Nat) (d : z72p.D) : Option (XD z72x) := overspillref21_Intra k d
noncomputable def z72_e (k : Nat) : UEntry := mkU z72p z72x (z72t k) nilU
theorem z72_n (k : Nat) : UNat (z72_e k) := mkU_nat nilU_nat
theorem z72_fu (k : Nat) : FU P GL 34 (z72_e k) :=
  fn_typed (uorc := uorT (z72U0 k)) hmo (T69_ok k).oo (z72U0_k k) (fd := z72f) (AllU.no (by kernel_rfl)) (fn := Tryz.f34) (by kernel_rfl) (by kernel_rfl) (fun d => by kernel_rfl) FU_nil
noncomputable def T70 (k : Nat) : List (Nat × Ent) := (34, ⟨z72_e k⟩) :: T69 k
theorem T70_ok (k : Nat) : TabOK P GL (T70 k) := (T69_ok k).cons (z72_fu k) (z72_n k)
/-! ### overspill.overspillref15.from -/
noncomputable def z73U0 (_ : Nat) : List (Nat × Ent) := []
theorem z73U0_k (k : Nat) : UTab (z73U0 k) := UTab.nil
noncomputable def overspillref15_from (k : Nat) (x0 : Bool) : Option (Int) :=
  bif x0 then
    some 1
  else
  some 0
noncomputable def z73b : AC :=
  (.seq (.region [(iO 2 (.mv (nI 0)))])
  (.seq (.seq (.region [(iO 3 (.mv (.t 0)))])
  (.cond (.t 3)
  (.seq (.region [(iO 2 (.mv (nI 1)))])
    .ret)
  .skip))
  (.seq (.region [(iO 2 (.mv (nI 0)))])
  .ret)))
noncomputable def z73f : FDef := ⟨1, 4, [.tmp 2 none], z73b⟩
noncomputable def z73p : XPat := ⟨.normal, [(.tv .bool)], []⟩
noncomputable def z73x : List XPat := [⟨.ret, [(.tv (.int .i64))], []⟩]
noncomputable def z73t (k : Nat) (d : z73p.D) : Option (XD z73x) := overspillref15_from k d
noncomputable def z73_e (k : Nat) : UEntry := mkU z73p z73x (z73t k) nilU
theorem z73_n (k : Nat) : UNat (z73_e k) := mkU_nat nilU_nat
theorem z73_fu (k : Nat) : FU P GL 101 (z73_e k) :=
  fn_typed (uorc := uorT (z73U0 k)) hmo (T70_ok k).oo (z73U0_k k) (fd := z73f) (AllU.no (by kernel_rfl)) (fn := Tryz.f101) (by kernel_rfl) (by kernel_rfl) (fun d => by kernel_rfl) FU_nil
noncomputable def T71 (k : Nat) : List (Nat × Ent) := (101, ⟨z73_e k⟩) :: T70 k
theorem T71_ok (k : Nat) : TabOK P GL (T71 k) := (T70_ok k).cons (z73_fu k) (z73_n k)
/-! ### overspill.overspillref09.Right -/
noncomputable def z74U0 (_ : Nat) : List (Nat × Ent) := []
theorem z74U0_k (k : Nat) : UTab (z74U0 k) := UTab.nil
noncomputable def overspillref09_Right (k : Nat) (x0 : DEvent) : Option (Bool) :=
  bif (decide ((0 : Int) ≤ x0.2.1)) then
    bif (decide (x0.2.1 ≤ 63)) then
      bif (decide (((-127) : Int) ≤ x0.2.2.1)) then
        bif (decide (x0.2.2.1 ≤ 127)) then
          some (!(decide (x0.2.2.1 = 0)))
        else
        some false
      else
      some false
    else
    some false
  else
  some false
noncomputable def z74b : AC :=
  (.seq (.region [(iO 1 (.box (.t 0))),
    (iO 2 (.mv (.c (.tv .bool (false : Bool)))))])
  (.seq (.region [(iO 3 (.fad 1 1 (.t 1))),
    (iO 4 (.load false 1 (.t 3))),
    (iO 5 (.bin .geq (.t 4) (nI 0))),
    (iO 6 (.mv (.t 5))),
    ⟨some 7, some (3, 6, true), (.op (.fad 1 1 (.t 1))), []⟩,
    ⟨some 8, some (3, 6, true), (.op (.load false 1 (.t 7))), []⟩,
    ⟨some 9, some (3, 6, true), (.op (.bin .leq (.t 8) (nI 63))), []⟩,
    (iO 10 (.pick (.t 6) (.t 9) (.c (.tv .bool (false : Bool))))),
    (iO 11 (.mv (.t 10))),
    ⟨some 12, some (8, 11, true), (.op (.fad 2 2 (.t 1))), []⟩,
    ⟨some 13, some (8, 11, true), (.op (.load false 1 (.t 12))), []⟩,
    ⟨some 14, some (8, 11, true), (.op (.bin .geq (.t 13) (nI (-127)))), []⟩,
    (iO 15 (.pick (.t 11) (.t 14) (.c (.tv .bool (false : Bool))))),
    (iO 16 (.mv (.t 15))),
    ⟨some 17, some (13, 16, true), (.op (.fad 2 2 (.t 1))), []⟩,
    ⟨some 18, some (13, 16, true), (.op (.load false 1 (.t 17))), []⟩,
    ⟨some 19, some (13, 16, true), (.op (.bin .leq (.t 18) (nI 127))), []⟩,
    (iO 20 (.pick (.t 16) (.t 19) (.c (.tv .bool (false : Bool))))),
    (iO 21 (.mv (.t 20))),
    ⟨some 22, some (18, 21, true), (.op (.fad 2 2 (.t 1))), []⟩,
    ⟨some 23, some (18, 21, true), (.op (.load false 1 (.t 22))), []⟩,
    ⟨some 24, some (18, 21, true), (.op (.bin .neq (.t 23) (nI 0))), []⟩,
    (iO 25 (.pick (.t 21) (.t 24) (.c (.tv .bool (false : Bool))))),
    (iO 2 (.mv (.t 25)))])
  .ret))
noncomputable def z74f : FDef := ⟨1, 26, [.tmp 2 none], z74b⟩
noncomputable def z74p : XPat := ⟨.normal, [(.tv YEvent)], []⟩
noncomputable def z74x : List XPat := [⟨.ret, [(.tv .bool)], []⟩]
noncomputable def z74t (k : Nat) (d : z74p.D) : Option (XD z74x) := overspillref09_Right k d
noncomputable def z74_e (k : Nat) : UEntry := mkU z74p z74x (z74t k) nilU
theorem z74_n (k : Nat) : UNat (z74_e k) := mkU_nat nilU_nat
theorem z74_fu (k : Nat) : FU P GL 102 (z74_e k) :=
  fn_typed (uorc := uorT (z74U0 k)) hmo (T71_ok k).oo (z74U0_k k) (fd := z74f) (AllU.no (by kernel_rfl)) (fn := Tryz.f102) (by kernel_rfl) (by kernel_rfl) (fun d => by kernel_rfl) FU_nil
noncomputable def T72 (k : Nat) : List (Nat × Ent) := (102, ⟨z74_e k⟩) :: T71 k
theorem T72_ok (k : Nat) : TabOK P GL (T72 k) := (T71_ok k).cons (z74_fu k) (z74_n k)
/-! ### overspill.overspillref10.Levels -/
noncomputable def z75U0 (_ : Nat) : List (Nat × Ent) := []
theorem z75U0_k (k : Nat) : UTab (z75U0 k) := UTab.nil
noncomputable def z75u0d : UDef := ⟨[(1, none)], [9, 10, 11, 12, 13, 14], [(.normal, [(14, none)])], []⟩
noncomputable def z75u0p : XPat := ⟨.normal, [(.tv (.int .i64))], []⟩
noncomputable def z75u0x : List XPat := [⟨.normal, [(.tv .bool)], []⟩]
noncomputable def overspillref10_Levelsu0 (k : Nat) (x0 : Int) : Option (Bool) :=
  bif (decide (x0 < 0)) then
    some true
  else
  some (decide ((1 : Int) < x0))
noncomputable def z75u0b : AC :=
  (.region [(iO 9 (.mv (.t 1))),
    (iO 10 (.bin .lss (.t 9) (nI 0))),
    (iO 11 (.mv (.t 10))),
    ⟨some 12, some (2, 11, false), (.op (.mv (.t 1))), []⟩,
    ⟨some 13, some (2, 11, false), (.op (.bin .gtr (.t 12) (nI 1))), []⟩,
    (iO 14 (.pick (.t 11) (.c (.tv .bool (true : Bool))) (.t 13)))])
noncomputable def z75u0t (k : Nat) (d : z75u0p.D) : Option (XD z75u0x) := overspillref10_Levelsu0 k d
theorem z75u0_k (k : Nat) : UOK P GL (mkU z75u0p z75u0x (z75u0t k) nilU) z75u0d false z75u0b :=
  unit_typed (ud := z75u0d) (body := z75u0b) (uorc := uorT (z75U0 k)) hmo (T72_ok k).oo (z75U0_k k) (AllU.no (by kernel_rfl)) (fun d => by kernel_rfl)
noncomputable def z75U1 (k : Nat) : List (Nat × Ent) := (0, ⟨mkU z75u0p z75u0x (z75u0t k) nilU⟩) :: z75U0 k
theorem z75U1_k (k : Nat) : UTab (z75U1 k) := (z75U0_k k).cons (mkU_nat nilU_nat)
noncomputable def z75u1d : UDef := ⟨[(0, none), (8, none)], [24, 25, 26, 27, 28, 29, 30, 31, 32, 33, 34, 35, 36, 37, 38, 39, 40, 41, 42], [(.normal, [(42, none)])], []⟩
noncomputable def z75u1p : XPat := ⟨.normal, [(.tv (.sl YEvent)), (.tv (.int .i64))], []⟩
noncomputable def z75u1x : List XPat := [⟨.normal, [(.tv .bool)], []⟩]
noncomputable def overspillref10_Levelsu1 (k : Nat) (x0 : List (DEvent)) (x1 : Int) : Option (Bool) :=
  bif (inR x1 (List.length x0)) then
    Option.bind (overspillref09_Right k (List.getD x0 (Int.toNat x1) (false, (0, (0, ()))))) fun (v323 : Bool) =>
    bif (!v323) then
      some true
    else
    bif (inR x1 (List.length x0)) then
      some (true ^^ ((List.getD x0 (Int.toNat x1) (false, (0, (0, ())))).1 == (decide ((wr .i64 (x1 + 1)) = ((List.length x0 : Nat) : Int)))))
    else
      none
  else
    none
noncomputable def z75u1b : AC :=
  (.region [(iO 24 (.mv (.t 0))),
    (iO 25 (.mv (.t 8))),
    (iO 26 (.iads YEvent (.t 24) (.t 25))),
    (iO 27 (.load true 3 (.t 26))),
    (iC 28 102 [((.t 27), some YEvent)]),
    (iO 29 (.un .not (.t 28))),
    (iO 30 (.mv (.t 29))),
    ⟨some 31, some (6, 30, false), (.op (.mv (.t 0))), []⟩,
    ⟨some 32, some (6, 30, false), (.op (.mv (.t 8))), []⟩,
    ⟨some 33, some (6, 30, false), (.op (.iads YEvent (.t 31) (.t 32))), []⟩,
    ⟨some 34, some (6, 30, false), (.op (.fad 0 0 (.t 33))), []⟩,
    ⟨some 35, some (6, 30, false), (.op (.load false 1 (.t 34))), []⟩,
    ⟨some 36, some (6, 30, false), (.op (.mv (.t 8))), []⟩,
    ⟨some 37, some (6, 30, false), (.op (.bin .add (.t 36) (nI 1))), []⟩,
    ⟨some 38, some (6, 30, false), (.op (.mv (.t 0))), []⟩,
    ⟨some 39, some (6, 30, false), (.op (.len (.t 38))), []⟩,
    ⟨some 40, some (6, 30, false), (.op (.bin .eql (.t 37) (.t 39))), []⟩,
    ⟨some 41, some (6, 30, false), (.op (.eqb true (.t 35) (.t 40))), []⟩,
    (iO 42 (.pick (.t 30) (.c (.tv .bool (true : Bool))) (.t 41)))])
noncomputable def z75u1t (k : Nat) (d : z75u1p.D) : Option (XD z75u1x) := overspillref10_Levelsu1 k d.1 d.2
theorem z75u1_k (k : Nat) : UOK P GL (mkU z75u1p z75u1x (z75u1t k) nilU) z75u1d false z75u1b :=
  unit_typed (ud := z75u1d) (body := z75u1b) (uorc := uorT (z75U1 k)) hmo (T72_ok k).oo (z75U1_k k) (AllU.no (by kernel_rfl)) (fun d => by kernel_rfl)
noncomputable def z75U2 (k : Nat) : List (Nat × Ent) := (1, ⟨mkU z75u1p z75u1x (z75u1t k) nilU⟩) :: z75U1 k
theorem z75U2_k (k : Nat) : UTab (z75U2 k) := (z75U1_k k).cons (mkU_nat nilU_nat)
noncomputable def z75u2d : UDef := ⟨[(0, none), (4, none), (6, none), (7, none), (8, none)], [5, 7, 8, 18, 19, 20, 21, 22, 23, 24, 25, 26, 27, 28, 29, 30, 31, 32, 33, 34, 35, 36, 37, 38, 39, 40, 41, 42, 43, 44, 45, 46, 47, 48, 49, 50, 51, 52, 53, 54, 55, 56, 57, 58, 59, 60, 61], [(.ret, [(5, none)]), ((.exit 0), [])], []⟩
noncomputable def z75u2p : XPat := ⟨.normal, [(.tv (.sl YEvent)), (.ptr 0 []), (.ptr 1 []), (.tv (.int .i64)), (.tv (.int .i64))], [(.box (.tv (.arr 64 (.int .i64)))), (.box (.tv (.arr 64 (.int .i64))))]⟩
noncomputable def z75u2x : List XPat := [⟨.ret, [(.tv (.int .i64))], [(.box (.tv (.arr 64 (.int .i64)))), (.box (.tv (.arr 64 (.int .i64))))]⟩, ⟨(.exit 0), [], [(.box (.tv (.arr 64 (.int .i64)))), (.box (.tv (.arr 64 (.int .i64))))]⟩]
noncomputable def overspillref10_Levelsu2 (k : Nat) : Nat → (List (DEvent)) → (Int) → (Int) → (List (Int)) → (List (Int)) → Option (((Int) × ((List (Int)) × (List (Int)))) ⊕ ((Unit) × ((List (Int)) × (List (Int)))))
  | 0, _, _, _, _, _ => none
  | n + 1, x0, x1, x2, x3, x4 =>
    bif (decide (x2 < ((List.length x0 : Nat) : Int))) then
      Option.bind (overspillref10_Levelsu1 k x0 x2) fun (v325 : Bool) =>
      bif v325 then
        some (Sum.inl (7, ((Ty.zero (.arr 64 (.int .i64))), x4)))
      else
      bif (inR x2 (List.length x0)) then
        bif (decide ((63 : Int) < (wr .i64 ((wr .i64 (x1 + (List.getD x0 (Int.toNat x2) (false, (0, (0, ())))).2.1)) + 1)))) then
          some (Sum.inl (7, ((Ty.zero (.arr 64 (.int .i64))), x4)))
        else
        bif (inR x2 (List.length x0)) then
          bif (inR (wr .i64 ((wr .i64 (x1 + (List.getD x0 (Int.toNat x2) (false, (0, (0, ())))).2.1)) + 1)) 64) then
            Option.bind (overspillref10_Levelsu2 k n x0 (wr .i64 ((wr .i64 (x1 + (List.getD x0 (Int.toNat x2) (false, (0, (0, ())))).2.1)) + 1)) (wr .i64 (x2 + 1)) x3 (List.set x4 (Int.toNat (wr .i64 ((wr .i64 (x1 + (List.getD x0 (Int.toNat x2) (false, (0, (0, ())))).2.1)) + 1))) (List.getD x0 (Int.toNat x2) (false, (0, (0, ())))).2.2.1)) fun r => Sum.elim (fun w => some (Sum.inl w)) (fun w => some (Sum.inr w)) r
          else
            none
        else
          none
      else
        none
    else
    some (Sum.inr ((), (x3, x4)))
noncomputable def z75u2b : AC :=
  (.seq (.seq (.region [(iO 18 (.mv (.t 8))),
    (iO 19 (.mv (.t 0))),
    (iO 20 (.len (.t 19))),
    (iO 21 (.bin .lss (.t 18) (.t 20)))])
  (.cond (.t 21)
  .skip
  (.exit 0)))
  (.seq (.block 1 (.seq (.seq (.unit 1 z75u1d false z75u1b)
  (.cond (.t 42)
  (.seq (.region [(iO 43 (.build 118 (.tv (.arr 64 (.int .i64))) [])),
      (iS (.store 64 none (.t 4) (.t 43))),
      (iO 5 (.mv (nI 7)))])
    .ret)
  .skip))
  (.seq (.region [(iO 44 (.mv (.t 7))),
    (iO 45 (.mv (.t 0))),
    (iO 46 (.mv (.t 8))),
    (iO 47 (.iads YEvent (.t 45) (.t 46))),
    (iO 48 (.fad 1 1 (.t 47))),
    (iO 49 (.load false 1 (.t 48))),
    (iO 50 (.bin .add (.t 44) (.t 49))),
    (iO 51 (.bin .add (.t 50) (nI 1))),
    (iO 7 (.mv (.t 51)))])
  (.seq (.seq (.region [(iO 52 (.mv (.t 7))),
    (iO 53 (.bin .gtr (.t 52) (nI 63)))])
  (.cond (.t 53)
  (.seq (.region [(iO 54 (.build 118 (.tv (.arr 64 (.int .i64))) [])),
      (iS (.store 64 none (.t 4) (.t 54))),
      (iO 5 (.mv (nI 7)))])
    .ret)
  .skip))
  (.region [(iO 55 (.mv (.t 7))),
    (iO 56 (.mv (.t 0))),
    (iO 57 (.mv (.t 8))),
    (iO 58 (.iads YEvent (.t 56) (.t 57))),
    (iO 59 (.fad 2 2 (.t 58))),
    (iO 60 (.load false 1 (.t 59))),
    (iO 61 (.iad 64 1 (.t 6) (.t 55))),
    (iS (.store 1 none (.t 61) (.t 60)))])))))
  (.region [(iO 22 (.mv (.t 8))),
    (iO 23 (.bin .add (.t 22) (nI 1))),
    (iO 8 (.mv (.t 23)))])))
noncomputable def z75u2t (k n : Nat) (d : z75u2p.D) : Option (XD z75u2x) := overspillref10_Levelsu2 k n d.1.1 d.1.2.2.2.1 d.1.2.2.2.2 d.2.1 d.2.2
theorem z75u2_k (k : Nat) : UOK P GL (mkU z75u2p z75u2x (z75u2t k k) nilU) z75u2d true z75u2b :=
  loop_typed (ud := z75u2d) (body := z75u2b) (uorc := uorT (z75U2 k)) hmo (T72_ok k).oo (z75U2_k k) (AllU.seq (AllU.no (by kernel_rfl)) (AllU.seq (AllU.block (AllU.seq (AllU.seq (AllU.unit (uorc := uorT (z75U2 k)) (u := 1) (z75u1_k k)) (AllU.no (by kernel_rfl))) (AllU.no (by kernel_rfl)))) (AllU.no (by kernel_rfl)))) (t := z75u2t k) (fun d => by kernel_rfl) (fun n d => by kernel_rfl) k
noncomputable def z75U3 (k : Nat) : List (Nat × Ent) := (2, ⟨mkU z75u2p z75u2x (z75u2t k k) nilU⟩) :: z75U2 k
theorem z75U3_k (k : Nat) : UTab (z75U3 k) := (z75U2_k k).cons (mkU_nat nilU_nat)
noncomputable def overspillref10_Levels (k : Nat) (x0 : List (DEvent)) (x1 : Int) : Option ((List (Int)) × ((Int) × (Unit))) :=
  Option.bind (overspillref10_Levelsu0 k x1) fun (v321 : Bool) =>
  bif v321 then
    some ((Ty.zero (.arr 64 (.int .i64))), (1, ()))
  else
  Option.bind (overspillref10_Levelsu2 k k x0 (wr .i64 (x1 - 1)) 0 (Ty.zero (.arr 64 (.int .i64))) (Ty.zero (.arr 64 (.int .i64)))) fun r =>
  Sum.elim (fun (v326 : (Int) × ((List (Int)) × (List (Int)))) =>
    some (v326.2.1, (v326.1, ())))
    (fun (v327 : (Unit) × ((List (Int)) × (List (Int)))) =>
    some (v327.2.2, (0, ()))) r
noncomputable def z75b : AC :=
  (.seq (.region [(iO 4 (.alloc 118 (.tv (.arr 64 (.int .i64))))),
    (iO 5 (.mv (nI 0)))])
  (.seq (.region [(iO 6 (.alloc 118 (.tv (.arr 64 (.int .i64)))))])
  (.seq (.seq (.unit 0 z75u0d false z75u0b)
  (.cond (.t 14)
  (.seq (.region [(iO 15 (.load true 64 (.t 6))),
      (iS (.store 64 none (.t 4) (.t 15))),
      (iO 5 (.mv (nI 1)))])
    .ret)
  .skip))
  (.seq (.region [(iO 16 (.mv (.t 1))),
    (iO 17 (.bin .sub (.t 16) (nI 1))),
    (iO 7 (.mv (.t 17)))])
  (.seq (.seq (.region [(iO 8 (.mv (nI 0)))])
  (.block 0 (.unit 2 z75u2d true z75u2b)))
  (.seq (.region [(iO 62 (.load true 64 (.t 6))),
    (iS (.store 64 none (.t 4) (.t 62))),
    (iO 5 (.mv (nI 0)))])
  .ret))))))
noncomputable def z75f : FDef := ⟨2, 63, [.cell 4 64 true (some (.arr 64 (.int .i64))), .tmp 5 none], z75b⟩
noncomputable def z75p : XPat := ⟨.normal, [(.tv (.sl YEvent)), (.tv (.int .i64))], []⟩
noncomputable def z75x : List XPat := [⟨.ret, [(.tup (.cons (.tv (.arr 64 (.int .i64))) (.cons (.tv (.int .i64)) .nil)))], []⟩]
noncomputable def z75t (k : Nat) (d : z75p.D) : Option (XD z75x) := overspillref10_Levels k d.1 d.2
noncomputable def z75_e (k : Nat) : UEntry := mkU z75p z75x (z75t k) nilU
theorem z75_n (k : Nat) : UNat (z75_e k) := mkU_nat nilU_nat
theorem z75_fu (k : Nat) : FU P GL 100 (z75_e k) :=
  fn_typed (uorc := uorT (z75U3 k)) hmo (T72_ok k).oo (z75U3_k k) (fd := z75f) (AllU.seq (AllU.no (by kernel_rfl)) (AllU.seq (AllU.no (by kernel_rfl)) (AllU.seq (AllU.seq (AllU.unit (uorc := uorT (z75U3 k)) (u := 0) (z75u0_k k)) (AllU.no (by kernel_rfl))) (AllU.seq (AllU.no (by kernel_rfl)) (AllU.seq (AllU.seq (AllU.no (by kernel_rfl)) (AllU.block (AllU.unit (uorc := uorT (z75U3 k)) (u := 2) (z75u2_k k)))) (AllU.no (by kernel_rfl))))))) (fn := Tryz.f100) (by kernel_rfl) (by kernel_rfl) (fun d => by kernel_rfl) FU_nil
noncomputable def T73 (k : Nat) : List (Nat × Ent) := (100, ⟨z75_e k⟩) :: T72 k
theorem T73_ok (k : Nat) : TabOK P GL (T73 k) := (T72_ok k).cons (z75_fu k) (z75_n k)
/-! ### overspill.overspillref15.May -/
noncomputable def z76U0 (_ : Nat) : List (Nat × Ent) := []
theorem z76U0_k (k : Nat) : UTab (z76U0 k) := UTab.nil
noncomputable def overspillref15_May (k : Nat) (x0 : Bool) (x1 : Int) (x2 : List (DEvent)) : Option (Bool) :=
  Option.bind (overspillref15_from k x0) fun (v320 : Int) =>
  Option.bind (overspillref10_Levels k x2 v320) fun (v328 : (List (Int)) × ((Int) × (Unit))) =>
  bif x0 then
    bif (decide (v328.2.1 = 0)) then
      bif (decide ((1 : Int) ≤ x1)) then
        some (decide (x1 ≤ 254))
      else
      some false
    else
    some false
  else
  bif (decide (v328.2.1 = 0)) then
    some (decide (x1 = 0))
  else
  some false
noncomputable def z76b : AC :=
  (.seq (.region [(iO 6 (.mv (.c (.tv .bool (false : Bool)))))])
  (.seq (.region [(iO 10 (.mv (.t 2))),
    (iO 11 (.mv (.t 0))),
    (iC 12 101 [((.t 11), none)]),
    (iC 13 100 [((.t 10), some (.sl YEvent)), ((.t 12), none)]),
    (iO 9 (.mv (.t 13))),
    (iO 14 (.ext (.t 9) 0)),
    (iO 15 (.ext (.t 9) 1)),
    (iO 7 (.alloc 118 (.tv (.arr 64 (.int .i64))))),
    (iS (.store 64 none (.t 7) (.t 14))),
    (iO 8 (.mv (.t 15)))])
  (.seq (.seq (.region [(iO 16 (.mv (.t 0)))])
  (.cond (.t 16)
  (.seq (.region [(iO 17 (.mv (.t 8))),
      (iO 18 (.bin .eql (.t 17) (nI 0))),
      (iO 19 (.mv (.t 18))),
      ⟨some 20, some (2, 19, true), (.op (.mv (.t 1))), []⟩,
      ⟨some 21, some (2, 19, true), (.op (.bin .geq (.t 20) (nI 1))), []⟩,
      (iO 22 (.pick (.t 19) (.t 21) (.c (.tv .bool (false : Bool))))),
      (iO 23 (.mv (.t 22))),
      ⟨some 24, some (6, 23, true), (.op (.mv (.t 1))), []⟩,
      ⟨some 25, some (6, 23, true), (.op (.bin .leq (.t 24) (nI 254))), []⟩,
      (iO 26 (.pick (.t 23) (.t 25) (.c (.tv .bool (false : Bool))))),
      (iO 6 (.mv (.t 26)))])
    .ret)
  .skip))
  (.seq (.region [(iO 27 (.mv (.t 8))),
    (iO 28 (.bin .eql (.t 27) (nI 0))),
    (iO 29 (.mv (.t 28))),
    ⟨some 30, some (2, 29, true), (.op (.mv (.t 1))), []⟩,
    ⟨some 31, some (2, 29, true), (.op (.bin .eql (.t 30) (nI 0))), []⟩,
    (iO 32 (.pick (.t 29) (.t 31) (.c (.tv .bool (false : Bool))))),
    (iO 6 (.mv (.t 32)))])
  .ret))))
noncomputable def z76f : FDef := ⟨3, 33, [.tmp 6 none], z76b⟩
noncomputable def z76p : XPat := ⟨.normal, [(.tv .bool), (.tv (.int .i64)), (.tv (.sl YEvent))], []⟩
noncomputable def z76x : List XPat := [⟨.ret, [(.tv .bool)], []⟩]
noncomputable def z76t (k : Nat) (d : z76p.D) : Option (XD z76x) := overspillref15_May k d.1 d.2.1 d.2.2
noncomputable def z76_e (k : Nat) : UEntry := mkU z76p z76x (z76t k) nilU
theorem z76_n (k : Nat) : UNat (z76_e k) := mkU_nat nilU_nat
theorem z76_fu (k : Nat) : FU P GL 87 (z76_e k) :=
  fn_typed (uorc := uorT (z76U0 k)) hmo (T73_ok k).oo (z76U0_k k) (fd := z76f) (AllU.no (by kernel_rfl)) (fn := Tryz.f87) (by kernel_rfl) (by kernel_rfl) (fun d => by kernel_rfl) FU_nil
noncomputable def T74 (k : Nat) : List (Nat × Ent) := (87, ⟨z76_e k⟩) :: T73 k
theorem T74_ok (k : Nat) : TabOK P GL (T74 k) := (T73_ok k).cons (z76_fu k) (z76_n k)
/-! ### overspill.overspillref22.Right -/
noncomputable def z77U0 (_ : Nat) : List (Nat × Ent) := []
theorem z77U0_k (k : Nat) : UTab (z77U0 k) := UTab.nil
noncomputable def z77u0d : UDef := ⟨[(3, none)], [7, 8, 9, 10, 11, 12, 13, 14], [(.normal, [(14, none)])], []⟩
noncomputable def z77u0p : XPat := ⟨.normal, [(.ptr 0 [])], [(.box (.tv YCell))]⟩
noncomputable def z77u0x : List XPat := [⟨.normal, [(.tv .bool)], [(.box (.tv YCell))]⟩]
noncomputable def overspillref22_Rightu0 (k : Nat) (x0 : DCell) : Option ((Bool) × (DCell)) :=
  bif (decide (x0.1 < 0)) then
    some (true, x0)
  else
  some ((decide ((64 : Int) < x0.1)), x0)
noncomputable def z77u0b : AC :=
  (.region [(iO 7 (.fad 0 0 (.t 3))),
    (iO 8 (.load false 1 (.t 7))),
    (iO 9 (.bin .lss (.t 8) (nI 0))),
    (iO 10 (.mv (.t 9))),
    ⟨some 11, some (3, 10, false), (.op (.fad 0 0 (.t 3))), []⟩,
    ⟨some 12, some (3, 10, false), (.op (.load false 1 (.t 11))), []⟩,
    ⟨some 13, some (3, 10, false), (.op (.bin .gtr (.t 12) (nI 64))), []⟩,
    (iO 14 (.pick (.t 10) (.c (.tv .bool (true : Bool))) (.t 13)))])
noncomputable def z77u0t (k : Nat) (d : z77u0p.D) : Option (XD z77u0x) := overspillref22_Rightu0 k d.2
theorem z77u0_k (k : Nat) : UOK P GL (mkU z77u0p z77u0x (z77u0t k) nilU) z77u0d false z77u0b :=
  unit_typed (ud := z77u0d) (body := z77u0b) (uorc := uorT (z77U0 k)) hmo (T74_ok k).oo (z77U0_k k) (AllU.no (by kernel_rfl)) (fun d => by kernel_rfl)
noncomputable def z77U1 (k : Nat) : List (Nat × Ent) := (0, ⟨mkU z77u0p z77u0x (z77u0t k) nilU⟩) :: z77U0 k
theorem z77U1_k (k : Nat) : UTab (z77U1 k) := (z77U0_k k).cons (mkU_nat nilU_nat)
noncomputable def z77u1d : UDef := ⟨[(0, none), (3, none)], [4, 17, 18, 19, 20, 21], [(.normal, [(4, none)])], []⟩
noncomputable def z77u1p : XPat := ⟨.normal, [(.tv .bool), (.ptr 0 [])], [(.box (.tv YCell))]⟩
noncomputable def z77u1x : List XPat := [⟨.normal, [(.tv .bool)], [(.box (.tv YCell))]⟩]
noncomputable def overspillref22_Rightu1 (k : Nat) (x0 : Bool) (x1 : DCell) : Option ((Bool) × (DCell)) :=
  bif x0 then
    Option.bind (overspillref22_zero k x1) fun (v309 : Bool) =>
    some (v309, x1)
  else
  some (false, x1)
noncomputable def z77u1b : AC :=
  (.region [(iO 17 (.mv (.t 0))),
    (iO 18 (.mv (.t 17))),
    ⟨some 19, some (1, 18, true), (.op (.load true 18 (.t 3))), []⟩,
    ⟨some 20, some (1, 18, true), (.call (.c (.fn 86 .nil .nil)) [((.t 19), some YCell)]), []⟩,
    (iO 21 (.pick (.t 18) (.t 20) (.c (.tv .bool (false : Bool))))),
    (iO 4 (.mv (.t 21)))])
noncomputable def z77u1t (k : Nat) (d : z77u1p.D) : Option (XD z77u1x) := overspillref22_Rightu1 k d.1.1 d.2
theorem z77u1_k (k : Nat) : UOK P GL (mkU z77u1p z77u1x (z77u1t k) nilU) z77u1d false z77u1b :=
  unit_typed (ud := z77u1d) (body := z77u1b) (uorc := uorT (z77U1 k)) hmo (T74_ok k).oo (z77U1_k k) (AllU.no (by kernel_rfl)) (fun d => by kernel_rfl)
noncomputable def z77U2 (k : Nat) : List (Nat × Ent) := (1, ⟨mkU z77u1p z77u1x (z77u1t k) nilU⟩) :: z77U1 k
theorem z77U2_k (k : Nat) : UTab (z77U2 k) := (z77U1_k k).cons (mkU_nat nilU_nat)
noncomputable def z77u2d : UDef := ⟨[(0, none), (3, none)], [22, 23, 24, 25, 26, 27, 28, 29, 30, 31, 32, 33, 34, 35, 36, 37, 38, 39, 40, 41, 42, 43], [(.normal, [(43, none)])], []⟩
noncomputable def z77u2p : XPat := ⟨.normal, [(.tv .bool), (.ptr 0 [])], [(.box (.tv YCell))]⟩
noncomputable def z77u2x : List XPat := [⟨.normal, [(.tv .bool)], [(.box (.tv YCell))]⟩]
noncomputable def overspillref22_Rightu2 (k : Nat) (x0 : Bool) (x1 : DCell) : Option ((Bool) × (DCell)) :=
  bif (decide (x1.2.2.1 < 0)) then
    some (true, x1)
  else
  bif (decide ((4 : Int) < x1.2.2.1)) then
    some (true, x1)
  else
  bif (decide (x1.2.2.1 = 2)) then
    some (true, x1)
  else
  bif (decide (x1.2.2.1 < 2)) then
    some ((!x0), x1)
  else
  some (false, x1)
noncomputable def z77u2b : AC :=
  (.region [(iO 22 (.fad 2 2 (.t 3))),
    (iO 23 (.load false 1 (.t 22))),
    (iO 24 (.bin .lss (.t 23) (nI 0))),
    (iO 25 (.mv (.t 24))),
    ⟨some 26, some (3, 25, false), (.op (.fad 2 2 (.t 3))), []⟩,
    ⟨some 27, some (3, 25, false), (.op (.load false 1 (.t 26))), []⟩,
    ⟨some 28, some (3, 25, false), (.op (.bin .gtr (.t 27) (nI 4))), []⟩,
    (iO 29 (.pick (.t 25) (.c (.tv .bool (true : Bool))) (.t 28))),
    (iO 30 (.mv (.t 29))),
    ⟨some 31, some (8, 30, false), (.op (.fad 2 2 (.t 3))), []⟩,
    ⟨some 32, some (8, 30, false), (.op (.load false 1 (.t 31))), []⟩,
    ⟨some 33, some (8, 30, false), (.op (.bin .eql (.t 32) (nI 2))), []⟩,
    (iO 34 (.pick (.t 30) (.c (.tv .bool (true : Bool))) (.t 33))),
    (iO 35 (.mv (.t 34))),
    ⟨some 36, some (13, 35, false), (.op (.fad 2 2 (.t 3))), []⟩,
    ⟨some 37, some (13, 35, false), (.op (.load false 1 (.t 36))), []⟩,
    ⟨some 38, some (13, 35, false), (.op (.bin .lss (.t 37) (nI 2))), []⟩,
    ⟨some 39, some (13, 35, false), (.op (.mv (.t 38))), []⟩,
    ⟨some 40, some (17, 39, true), (.op (.mv (.t 0))), []⟩,
    ⟨some 41, some (17, 39, true), (.op (.un .not (.t 40))), []⟩,
    ⟨some 42, some (13, 35, false), (.op (.pick (.t 39) (.t 41) (.c (.tv .bool (false : Bool))))), []⟩,
    (iO 43 (.pick (.t 35) (.c (.tv .bool (true : Bool))) (.t 42)))])
noncomputable def z77u2t (k : Nat) (d : z77u2p.D) : Option (XD z77u2x) := overspillref22_Rightu2 k d.1.1 d.2
theorem z77u2_k (k : Nat) : UOK P GL (mkU z77u2p z77u2x (z77u2t k) nilU) z77u2d false z77u2b :=
  unit_typed (ud := z77u2d) (body := z77u2b) (uorc := uorT (z77U2 k)) hmo (T74_ok k).oo (z77U2_k k) (AllU.no (by kernel_rfl)) (fun d => by kernel_rfl)
noncomputable def z77U3 (k : Nat) : List (Nat × Ent) := (2, ⟨mkU z77u2p z77u2x (z77u2t k) nilU⟩) :: z77U2 k
theorem z77U3_k (k : Nat) : UTab (z77U3 k) := (z77U2_k k).cons (mkU_nat nilU_nat)
noncomputable def z77u3d : UDef := ⟨[(3, none)], [44, 45, 46, 47, 48, 49, 50, 51], [(.normal, [(51, none)])], []⟩
noncomputable def z77u3p : XPat := ⟨.normal, [(.ptr 0 [])], [(.box (.tv YCell))]⟩
noncomputable def z77u3x : List XPat := [⟨.normal, [(.tv .bool)], [(.box (.tv YCell))]⟩]
noncomputable def overspillref22_Rightu3 (k : Nat) (x0 : DCell) : Option ((Bool) × (DCell)) :=
  bif (decide (x0.2.2.1 = 1)) then
    some (true, x0)
  else
  some ((decide (x0.2.2.1 = 4)), x0)
noncomputable def z77u3b : AC :=
  (.region [(iO 44 (.fad 2 2 (.t 3))),
    (iO 45 (.load false 1 (.t 44))),
    (iO 46 (.bin .eql (.t 45) (nI 1))),
    (iO 47 (.mv (.t 46))),
    ⟨some 48, some (3, 47, false), (.op (.fad 2 2 (.t 3))), []⟩,
    ⟨some 49, some (3, 47, false), (.op (.load false 1 (.t 48))), []⟩,
    ⟨some 50, some (3, 47, false), (.op (.bin .eql (.t 49) (nI 4))), []⟩,
    (iO 51 (.pick (.t 47) (.c (.tv .bool (true : Bool))) (.t 50)))])
noncomputable def z77u3t (k : Nat) (d : z77u3p.D) : Option (XD z77u3x) := overspillref22_Rightu3 k d.2
theorem z77u3_k (k : Nat) : UOK P GL (mkU z77u3p z77u3x (z77u3t k) nilU) z77u3d false z77u3b :=
  unit_typed (ud := z77u3d) (body := z77u3b) (uorc := uorT (z77U3 k)) hmo (T74_ok k).oo (z77U3_k k) (AllU.no (by kernel_rfl)) (fun d => by kernel_rfl)
noncomputable def z77U4 (k : Nat) : List (Nat × Ent) := (3, ⟨mkU z77u3p z77u3x (z77u3t k) nilU⟩) :: z77U3 k
theorem z77U4_k (k : Nat) : UTab (z77U4 k) := (z77U3_k k).cons (mkU_nat nilU_nat)
noncomputable def z77u4d : UDef := ⟨[(3, none), (51, none)], [4, 52, 53, 54, 55, 56, 57, 58], [(.ret, [(4, none)]), (.normal, [])], []⟩
noncomputable def z77u4p : XPat := ⟨.normal, [(.ptr 0 []), (.tv .bool)], [(.box (.tv YCell))]⟩
noncomputable def z77u4x : List XPat := [⟨.ret, [(.tv .bool)], [(.box (.tv YCell))]⟩, ⟨.normal, [], [(.box (.tv YCell))]⟩]
noncomputable def overspillref22_Rightu4 (k : Nat) (x0 : Bool) (x1 : DCell) : Option (((Bool) × (DCell)) ⊕ ((Unit) × (DCell))) :=
  bif x0 then
    Option.bind (overspillref20_Row k x1.2.2.2.1) fun (v314 : List UInt8) =>
    bif (decide (v314 = ([] : List UInt8))) then
      some (Sum.inl (false, x1))
    else
    some (Sum.inr ((), x1))
  else
  bif (!(decide (x1.2.2.2.1 = 0))) then
    some (Sum.inl (false, x1))
  else
  some (Sum.inr ((), x1))
noncomputable def z77u4b : AC :=
  (.cond (.t 51)
  (.seq (.region [(iO 52 (.fad 3 3 (.t 3))),
      (iO 53 (.load false 1 (.t 52))),
      (iC 54 69 [((.t 53), none)]),
      (iO 55 (.bin .eql (.t 54) (.c (.tv .str (([] : List UInt8) : List UInt8)))))])
    (.cond (.t 55)
    (.seq (.region [(iO 4 (.mv (.c (.tv .bool (false : Bool)))))])
      .ret)
    .skip))
  (.seq (.region [(iO 56 (.fad 3 3 (.t 3))),
      (iO 57 (.load false 1 (.t 56))),
      (iO 58 (.bin .neq (.t 57) (nI 0)))])
    (.cond (.t 58)
    (.seq (.region [(iO 4 (.mv (.c (.tv .bool (false : Bool)))))])
      .ret)
    .skip)))
noncomputable def z77u4t (k : Nat) (d : z77u4p.D) : Option (XD z77u4x) := overspillref22_Rightu4 k d.1.2 d.2
theorem z77u4_k (k : Nat) : UOK P GL (mkU z77u4p z77u4x (z77u4t k) nilU) z77u4d false z77u4b :=
  unit_typed (ud := z77u4d) (body := z77u4b) (uorc := uorT (z77U4 k)) hmo (T74_ok k).oo (z77U4_k k) (AllU.no (by kernel_rfl)) (fun d => by kernel_rfl)
noncomputable def z77U5 (k : Nat) : List (Nat × Ent) := (4, ⟨mkU z77u4p z77u4x (z77u4t k) nilU⟩) :: z77U4 k
theorem z77U5_k (k : Nat) : UTab (z77U5 k) := (z77U4_k k).cons (mkU_nat nilU_nat)
noncomputable def z77u5d : UDef := ⟨[(3, none), (5, none)], [4, 5, 59, 60, 61, 62, 63, 64, 65, 66, 67, 68, 69, 70, 71, 72, 73, 74, 75, 76, 77, 78, 79, 80, 81, 82, 83, 84, 85, 86], [(.ret, [(4, none)]), ((.exit 0), [])], []⟩
noncomputable def z77u5p : XPat := ⟨.normal, [(.ptr 0 []), (.tv (.int .i64))], [(.box (.tv YCell))]⟩
noncomputable def z77u5x : List XPat := [⟨.ret, [(.tv .bool)], [(.box (.tv YCell))]⟩, ⟨(.exit 0), [], [(.box (.tv YCell))]⟩]
noncomputable def overspillref22_Rightu5 (k : Nat) : Nat → (Int) → (DCell) → Option (((Bool) × (DCell)) ⊕ ((Unit) × (DCell)))
  | 0, _, _ => none
  | n + 1, x0, x1 =>
    bif (decide (x0 < 2)) then
      bif (inR x0 2) then
        bif (decide ((List.getD x1.2.2.2.2.1 (Int.toNat x0) 0) < (-32))) then
          some (Sum.inl (false, x1))
        else
        bif (inR x0 2) then
          bif (decide ((31 : Int) < (List.getD x1.2.2.2.2.1 (Int.toNat x0) 0))) then
            some (Sum.inl (false, x1))
          else
          bif (decide ((2 : Int) < x1.2.2.1)) then
            bif (inR x0 2) then
              bif (!(decide ((List.getD x1.2.2.2.2.1 (Int.toNat x0) 0) = 0))) then
                some (Sum.inl (false, x1))
              else
              Option.bind (overspillref22_Rightu5 k n (wr .i64 (x0 + 1)) x1) fun r => Sum.elim (fun w => some (Sum.inl w)) (fun w => some (Sum.inr w)) r
            else
              none
          else
          Option.bind (overspillref22_Rightu5 k n (wr .i64 (x0 + 1)) x1) fun r => Sum.elim (fun w => some (Sum.inl w)) (fun w => some (Sum.inr w)) r
        else
          none
      else
        none
    else
    some (Sum.inr ((), x1))
noncomputable def z77u5b : AC :=
  (.seq (.seq (.region [(iO 59 (.mv (.t 5))),
    (iO 60 (.bin .lss (.t 59) (nI 2)))])
  (.cond (.t 60)
  .skip
  (.exit 0)))
  (.seq (.block 1 (.seq (.region [(iO 63 (.mv (.t 5))),
    (iO 64 (.fad 4 4 (.t 3))),
    (iO 65 (.iad 2 1 (.t 64) (.t 63))),
    (iO 66 (.load false 1 (.t 65))),
    (iO 67 (.bin .lss (.t 66) (nI (-32)))),
    (iO 68 (.mv (.t 67))),
    ⟨some 69, some (5, 68, false), (.op (.mv (.t 5))), []⟩,
    ⟨some 70, some (5, 68, false), (.op (.fad 4 4 (.t 3))), []⟩,
    ⟨some 71, some (5, 68, false), (.op (.iad 2 1 (.t 70) (.t 69))), []⟩,
    ⟨some 72, some (5, 68, false), (.op (.load false 1 (.t 71))), []⟩,
    ⟨some 73, some (5, 68, false), (.op (.bin .gtr (.t 72) (nI 31))), []⟩,
    (iO 74 (.pick (.t 68) (.c (.tv .bool (true : Bool))) (.t 73))),
    (iO 75 (.mv (.t 74))),
    ⟨some 76, some (12, 75, false), (.op (.fad 2 2 (.t 3))), []⟩,
    ⟨some 77, some (12, 75, false), (.op (.load false 1 (.t 76))), []⟩,
    ⟨some 78, some (12, 75, false), (.op (.bin .gtr (.t 77) (nI 2))), []⟩,
    ⟨some 79, some (12, 75, false), (.op (.mv (.t 78))), []⟩,
    ⟨some 80, some (16, 79, true), (.op (.mv (.t 5))), []⟩,
    ⟨some 81, some (16, 79, true), (.op (.fad 4 4 (.t 3))), []⟩,
    ⟨some 82, some (16, 79, true), (.op (.iad 2 1 (.t 81) (.t 80))), []⟩,
    ⟨some 83, some (16, 79, true), (.op (.load false 1 (.t 82))), []⟩,
    ⟨some 84, some (16, 79, true), (.op (.bin .neq (.t 83) (nI 0))), []⟩,
    ⟨some 85, some (12, 75, false), (.op (.pick (.t 79) (.t 84) (.c (.tv .bool (false : Bool))))), []⟩,
    (iO 86 (.pick (.t 75) (.c (.tv .bool (true : Bool))) (.t 85)))])
  (.cond (.t 86)
  (.seq (.region [(iO 4 (.mv (.c (.tv .bool (false : Bool)))))])
    .ret)
  .skip)))
  (.region [(iO 61 (.mv (.t 5))),
    (iO 62 (.bin .add (.t 61) (nI 1))),
    (iO 5 (.mv (.t 62)))])))
noncomputable def z77u5t (k n : Nat) (d : z77u5p.D) : Option (XD z77u5x) := overspillref22_Rightu5 k n d.1.2 d.2
theorem z77u5_k (k : Nat) : UOK P GL (mkU z77u5p z77u5x (z77u5t k k) nilU) z77u5d true z77u5b :=
  loop_typed (ud := z77u5d) (body := z77u5b) (uorc := uorT (z77U5 k)) hmo (T74_ok k).oo (z77U5_k k) (AllU.no (by kernel_rfl)) (t := z77u5t k) (fun d => by kernel_rfl) (fun n d => by kernel_rfl) k
noncomputable def z77U6 (k : Nat) : List (Nat × Ent) := (5, ⟨mkU z77u5p z77u5x (z77u5t k k) nilU⟩) :: z77U5 k
theorem z77U6_k (k : Nat) : UTab (z77U6 k) := (z77U5_k k).cons (mkU_nat nilU_nat)
noncomputable def z77u6d : UDef := ⟨[(3, none), (6, none)], [4, 6, 87, 88, 89, 90, 91, 92, 93, 94, 95, 96, 97, 98, 99, 100, 101, 102, 103], [(.ret, [(4, none)]), ((.exit 2), [])], []⟩
noncomputable def z77u6p : XPat := ⟨.normal, [(.ptr 0 []), (.tv (.int .i64))], [(.box (.tv YCell))]⟩
noncomputable def z77u6x : List XPat := [⟨.ret, [(.tv .bool)], [(.box (.tv YCell))]⟩, ⟨(.exit 2), [], [(.box (.tv YCell))]⟩]
noncomputable def overspillref22_Rightu6 (k : Nat) : Nat → (Int) → (DCell) → Option (((Bool) × (DCell)) ⊕ ((Unit) × (DCell)))
  | 0, _, _ => none
  | n + 1, x0, x1 =>
    bif (decide (x0 < 6)) then
      Option.bind (overspillref21_Intra k x1.2.2.1) fun (v330 : Bool) =>
      bif (inR x0 6) then
        bif (inR x0 6) then
          Option.bind (overspillref15_May k v330 (List.getD x1.2.2.2.2.2.1 (Int.toNat x0) 0) (List.getD x1.2.2.2.2.2.2.1 (Int.toNat x0) ([] : List (DEvent)))) fun (v331 : Bool) =>
          bif (!v331) then
            some (Sum.inl (false, x1))
          else
          Option.bind (overspillref22_Rightu6 k n (wr .i64 (x0 + 1)) x1) fun r => Sum.elim (fun w => some (Sum.inl w)) (fun w => some (Sum.inr w)) r
        else
          none
      else
        none
    else
    some (Sum.inr ((), x1))
noncomputable def z77u6b : AC :=
  (.seq (.seq (.region [(iO 87 (.mv (.t 6))),
    (iO 88 (.bin .lss (.t 87) (nI 6)))])
  (.cond (.t 88)
  .skip
  (.exit 2)))
  (.seq (.block 3 (.seq (.draw [(iO 91 (.fad 2 2 (.t 3))),
    (iOa 92 (.load false 1 (.t 91)) [0]),
    (iCa 93 34 [((.t 92), none)] [0, 1]),
    (iO 94 (.mv (.t 6))),
    (iO 95 (.fad 5 6 (.t 3))),
    (iOa 96 (.iad 6 1 (.t 95) (.t 94)) [3, 4]),
    (iOa 97 (.load false 1 (.t 96)) [3, 4, 5]),
    (iO 98 (.mv (.t 6))),
    (iO 99 (.fad 6 12 (.t 3))),
    (iOa 100 (.iad 6 1 (.t 99) (.t 98)) [7, 8]),
    (iOa 101 (.load false 1 (.t 100)) [7, 8, 9]),
    (iCa 102 87 [((.t 93), none), ((.t 97), none), ((.t 101), some (.sl YEvent))] (rg [0, 11])),
    (iOa 103 (.un .not (.t 102)) (rg [0, 12]))])
  (.cond (.t 103)
  (.seq (.region [(iO 4 (.mv (.c (.tv .bool (false : Bool)))))])
    .ret)
  .skip)))
  (.region [(iO 89 (.mv (.t 6))),
    (iO 90 (.bin .add (.t 89) (nI 1))),
    (iO 6 (.mv (.t 90)))])))
noncomputable def z77u6t (k n : Nat) (d : z77u6p.D) : Option (XD z77u6x) := overspillref22_Rightu6 k n d.1.2 d.2
theorem z77u6_k (k : Nat) : UOK P GL (mkU z77u6p z77u6x (z77u6t k k) nilU) z77u6d true z77u6b :=
  loop_typed (ud := z77u6d) (body := z77u6b) (uorc := uorT (z77U6 k)) hmo (T74_ok k).oo (z77U6_k k) (AllU.no (by kernel_rfl)) (t := z77u6t k) (fun d => by kernel_rfl) (fun n d => by kernel_rfl) k
noncomputable def z77U7 (k : Nat) : List (Nat × Ent) := (6, ⟨mkU z77u6p z77u6x (z77u6t k k) nilU⟩) :: z77U6 k
theorem z77U7_k (k : Nat) : UTab (z77U7 k) := (z77U6_k k).cons (mkU_nat nilU_nat)
noncomputable def overspillref22_Right (k : Nat) (x0 : Bool) (x1 : DCell) : Option (Bool) :=
  Option.bind (overspillref22_Rightu0 k x1) fun (v305 : (Bool) × (DCell)) =>
  bif v305.1 then
    some false
  else
  bif v305.2.2.1 then
    Option.bind (overspillref22_Rightu1 k x0 v305.2) fun (v310 : (Bool) × (DCell)) =>
    some v310.1
  else
  Option.bind (overspillref22_Rightu2 k x0 v305.2) fun (v311 : (Bool) × (DCell)) =>
  bif v311.1 then
    some false
  else
  Option.bind (overspillref22_Rightu3 k v311.2) fun (v312 : (Bool) × (DCell)) =>
  Option.bind (overspillref22_Rightu4 k v312.1 v312.2) fun r =>
  Sum.elim (fun (v315 : (Bool) × (DCell)) =>
    some v315.1)
    (fun (v316 : (Unit) × (DCell)) =>
    Option.bind (overspillref22_Rightu5 k k 0 v316.2) fun r =>
    Sum.elim (fun (v317 : (Bool) × (DCell)) =>
      some v317.1)
      (fun (v318 : (Unit) × (DCell)) =>
      Option.bind (overspillref22_Rightu6 k k 0 v318.2) fun r =>
      Sum.elim (fun (v332 : (Bool) × (DCell)) =>
        some v332.1)
        (fun (v333 : (Unit) × (DCell)) =>
        some true) r) r) r
noncomputable def z77b : AC :=
  (.seq (.region [(iO 3 (.box (.t 1))),
    (iO 4 (.mv (.c (.tv .bool (false : Bool)))))])
  (.seq (.seq (.unit 0 z77u0d false z77u0b)
  (.cond (.t 14)
  (.seq (.region [(iO 4 (.mv (.c (.tv .bool (false : Bool)))))])
    .ret)
  .skip))
  (.seq (.seq (.region [(iO 15 (.fad 1 1 (.t 3))),
    (iO 16 (.load false 1 (.t 15)))])
  (.cond (.t 16)
  (.seq (.unit 1 z77u1d false z77u1b)
    .ret)
  .skip))
  (.seq (.seq (.unit 2 z77u2d false z77u2b)
  (.cond (.t 43)
  (.seq (.region [(iO 4 (.mv (.c (.tv .bool (false : Bool)))))])
    .ret)
  .skip))
  (.seq (.seq (.unit 3 z77u3d false z77u3b)
  (.unit 4 z77u4d false z77u4b))
  (.seq (.seq (.region [(iO 5 (.mv (nI 0)))])
  (.block 0 (.unit 5 z77u5d true z77u5b)))
  (.seq (.seq (.region [(iO 6 (.mv (nI 0)))])
  (.block 2 (.unit 6 z77u6d true z77u6b)))
  (.seq (.region [(iO 4 (.mv (.c (.tv .bool (true : Bool)))))])
  .ret))))))))
noncomputable def z77f : FDef := ⟨2, 104, [.tmp 4 none], z77b⟩
noncomputable def z77p : XPat := ⟨.normal, [(.tv .bool), (.tv YCell)], []⟩
noncomputable def z77x : List XPat := [⟨.ret, [(.tv .bool)], []⟩]
noncomputable def z77t (k : Nat) (d : z77p.D) : Option (XD z77x) := overspillref22_Right k d.1 d.2
noncomputable def z77_e (k : Nat) : UEntry := mkU z77p z77x (z77t k) nilU
theorem z77_n (k : Nat) : UNat (z77_e k) := mkU_nat nilU_nat
theorem z77_fu (k : Nat) : FU P GL 63 (z77_e k) :=
  fn_typed (uorc := uorT (z77U7 k)) hmo (T74_ok k).oo (z77U7_k k) (fd := z77f) (AllU.seq (AllU.no (by kernel_rfl)) (AllU.seq (AllU.seq (AllU.unit (uorc := uorT (z77U7 k)) (u := 0) (z77u0_k k)) (AllU.no (by kernel_rfl))) (AllU.seq (AllU.seq (AllU.no (by kernel_rfl)) (AllU.cond (AllU.seq (AllU.unit (uorc := uorT (z77U7 k)) (u := 1) (z77u1_k k)) (AllU.no (by kernel_rfl))) (AllU.no (by kernel_rfl)))) (AllU.seq (AllU.seq (AllU.unit (uorc := uorT (z77U7 k)) (u := 2) (z77u2_k k)) (AllU.no (by kernel_rfl))) (AllU.seq (AllU.seq (AllU.unit (uorc := uorT (z77U7 k)) (u := 3) (z77u3_k k)) (AllU.unit (uorc := uorT (z77U7 k)) (u := 4) (z77u4_k k))) (AllU.seq (AllU.seq (AllU.no (by kernel_rfl)) (AllU.block (AllU.unit (uorc := uorT (z77U7 k)) (u := 5) (z77u5_k k)))) (AllU.seq (AllU.seq (AllU.no (by kernel_rfl)) (AllU.block (AllU.unit (uorc := uorT (z77U7 k)) (u := 6) (z77u6_k k)))) (AllU.no (by kernel_rfl))))))))) (fn := Tryz.f63) (by kernel_rfl) (by kernel_rfl) (fun d => by kernel_rfl) FU_nil
noncomputable def T75 (k : Nat) : List (Nat × Ent) := (63, ⟨z77_e k⟩) :: T74 k
theorem T75_ok (k : Nat) : TabOK P GL (T75 k) := (T74_ok k).cons (z77_fu k) (z77_n k)
/-! ### overspill.overspillref25.row -/
noncomputable def z78U0 (_ : Nat) : List (Nat × Ent) := []
theorem z78U0_k (k : Nat) : UTab (z78U0 k) := UTab.nil
noncomputable def z78u0d : UDef := ⟨[(1, none), (5, none), (25, none)], [4, 26, 27, 28, 29, 30, 31, 32, 33, 34, 35, 36, 37, 38, 39, 40, 41, 42, 43, 44, 45, 46, 47, 48, 49, 50, 51, 52, 53, 54, 55], [(.ret, [(4, none)]), (.normal, [])], []⟩
noncomputable def z78u0p : XPat := ⟨.normal, [(.tv (.int .i64)), (.ptr 0 []), (.tv .bool)], [(.box (.tv YRow))]⟩
noncomputable def z78u0x : List XPat := [⟨.ret, [(.tv .bool)], [(.box (.tv YRow))]⟩, ⟨.normal, [], [(.box (.tv YRow))]⟩]
noncomputable def overspillref25_rowu0 (k : Nat) (x0 : Int) (x1 : Bool) (x2 : DRow) : Option (((Bool) × (DRow)) ⊕ ((Unit) × (DRow))) :=
  bif x1 then
    bif (decide (x0 = 0)) then
      some (Sum.inl (false, x2))
    else
    bif (decide (x2.2.1 < 0)) then
      some (Sum.inl (false, x2))
    else
    bif (decide ((3 : Int) < x2.2.1)) then
      some (Sum.inl (false, x2))
    else
    bif (decide (x2.2.2.1 < 1)) then
      some (Sum.inl (false, x2))
    else
    bif (decide ((31 : Int) < x2.2.2.1)) then
      some (Sum.inl (false, x2))
    else
    some (Sum.inr ((), x2))
  else
  bif (!(decide (x2.2.1 = 0))) then
    some (Sum.inl (false, x2))
  else
  bif (!(decide (x2.2.2.1 = 0))) then
    some (Sum.inl (false, x2))
  else
  some (Sum.inr ((), x2))
noncomputable def z78u0b : AC :=
  (.cond (.t 25)
  (.seq (.region [(iO 26 (.mv (.t 1))),
      (iO 27 (.bin .eql (.t 26) (nI 0))),
      (iO 28 (.mv (.t 27))),
      ⟨some 29, some (2, 28, false), (.op (.fad 1 1 (.t 5))), []⟩,
      ⟨some 30, some (2, 28, false), (.op (.load false 1 (.t 29))), []⟩,
      ⟨some 31, some (2, 28, false), (.op (.bin .lss (.t 30) (nI 0))), []⟩,
      (iO 32 (.pick (.t 28) (.c (.tv .bool (true : Bool))) (.t 31))),
      (iO 33 (.mv (.t 32))),
      ⟨some 34, some (7, 33, false), (.op (.fad 1 1 (.t 5))), []⟩,
      ⟨some 35, some (7, 33, false), (.op (.load false 1 (.t 34))), []⟩,
      ⟨some 36, some (7, 33, false), (.op (.bin .gtr (.t 35) (nI 3))), []⟩,
      (iO 37 (.pick (.t 33) (.c (.tv .bool (true : Bool))) (.t 36))),
      (iO 38 (.mv (.t 37))),
      ⟨some 39, some (12, 38, false), (.op (.fad 2 2 (.t 5))), []⟩,
      ⟨some 40, some (12, 38, false), (.op (.load false 1 (.t 39))), []⟩,
      ⟨some 41, some (12, 38, false), (.op (.bin .lss (.t 40) (nI 1))), []⟩,
      (iO 42 (.pick (.t 38) (.c (.tv .bool (true : Bool))) (.t 41))),
      (iO 43 (.mv (.t 42))),
      ⟨some 44, some (17, 43, false), (.op (.fad 2 2 (.t 5))), []⟩,
      ⟨some 45, some (17, 43, false), (.op (.load false 1 (.t 44))), []⟩,
      ⟨some 46, some (17, 43, false), (.op (.bin .gtr (.t 45) (nI 31))), []⟩,
      (iO 47 (.pick (.t 43) (.c (.tv .bool (true : Bool))) (.t 46)))])
    (.cond (.t 47)
    (.seq (.region [(iO 4 (.mv (.c (.tv .bool (false : Bool)))))])
      .ret)
    .skip))
  (.seq (.region [(iO 48 (.fad 1 1 (.t 5))),
      (iO 49 (.load false 1 (.t 48))),
      (iO 50 (.bin .neq (.t 49) (nI 0))),
      (iO 51 (.mv (.t 50))),
      ⟨some 52, some (3, 51, false), (.op (.fad 2 2 (.t 5))), []⟩,
      ⟨some 53, some (3, 51, false), (.op (.load false 1 (.t 52))), []⟩,
      ⟨some 54, some (3, 51, false), (.op (.bin .neq (.t 53) (nI 0))), []⟩,
      (iO 55 (.pick (.t 51) (.c (.tv .bool (true : Bool))) (.t 54)))])
    (.cond (.t 55)
    (.seq (.region [(iO 4 (.mv (.c (.tv .bool (false : Bool)))))])
      .ret)
    .skip)))
noncomputable def z78u0t (k : Nat) (d : z78u0p.D) : Option (XD z78u0x) := overspillref25_rowu0 k d.1.1 d.1.2.2 d.2
theorem z78u0_k (k : Nat) : UOK P GL (mkU z78u0p z78u0x (z78u0t k) nilU) z78u0d false z78u0b :=
  unit_typed (ud := z78u0d) (body := z78u0b) (uorc := uorT (z78U0 k)) hmo (T75_ok k).oo (z78U0_k k) (AllU.no (by kernel_rfl)) (fun d => by kernel_rfl)
noncomputable def z78U1 (k : Nat) : List (Nat × Ent) := (0, ⟨mkU z78u0p z78u0x (z78u0t k) nilU⟩) :: z78U0 k
theorem z78U1_k (k : Nat) : UTab (z78U1 k) := (z78U0_k k).cons (mkU_nat nilU_nat)
noncomputable def z78u1d : UDef := ⟨[(2, none), (5, none), (6, none)], [4, 6, 56, 57, 58, 59, 60, 61, 62, 63, 64, 65, 66, 67, 68, 69, 70, 71], [(.ret, [(4, none)]), ((.exit 0), [])], []⟩
noncomputable def z78u1p : XPat := ⟨.normal, [(.ptr 0 []), (.ptr 1 []), (.tv (.int .i64))], [(.box (.tv YSheet)), (.box (.tv YRow))]⟩
noncomputable def z78u1x : List XPat := [⟨.ret, [(.tv .bool)], [(.box (.tv YSheet)), (.box (.tv YRow))]⟩, ⟨(.exit 0), [], [(.box (.tv YSheet)), (.box (.tv YRow))]⟩]
noncomputable def overspillref25_rowu1 (k : Nat) : Nat → (Int) → (DSheet) → (DRow) → Option (((Bool) × ((DSheet) × (DRow))) ⊕ ((Unit) × ((DSheet) × (DRow))))
  | 0, _, _, _ => none
  | n + 1, x0, x1, x2 =>
    bif (decide (x0 < ((List.length x2.2.2.2.1 : Nat) : Int))) then
      bif (inR x0 (List.length x2.2.2.2.1)) then
        Option.bind (overspillref22_Right k x1.2.2.2.1 (List.getD x2.2.2.2.1 (Int.toNat x0) (0, (false, (0, (0, ((Ty.zero (.arr 2 (.int .i64))), ((Ty.zero (.arr 6 (.int .i64))), ((Ty.zero (.arr 6 (.sl YEvent))), ()))))))))) fun (v335 : Bool) =>
        bif (!v335) then
          some (Sum.inl (false, (x1, x2)))
        else
        Option.bind (overspillref25_rowu1 k n (wr .i64 (x0 + 1)) x1 x2) fun r => Sum.elim (fun w => some (Sum.inl w)) (fun w => some (Sum.inr w)) r
      else
        none
    else
    some (Sum.inr ((), (x1, x2)))
noncomputable def z78u1b : AC :=
  (.seq (.seq (.region [(iO 56 (.mv (.t 6))),
    (iO 57 (.fad 3 3 (.t 5))),
    (iO 58 (.load false 1 (.t 57))),
    (iO 59 (.len (.t 58))),
    (iO 60 (.bin .lss (.t 56) (.t 59)))])
  (.cond (.t 60)
  .skip
  (.exit 0)))
  (.seq (.block 1 (.seq (.draw [(iO 63 (.fad 3 3 (.t 2))),
    (iOa 64 (.load false 1 (.t 63)) [0]),
    (iO 65 (.fad 3 3 (.t 5))),
    (iOa 66 (.load false 1 (.t 65)) [2]),
    (iO 67 (.mv (.t 6))),
    (iOa 68 (.iads YCell (.t 66) (.t 67)) [2, 3, 4]),
    (iOa 69 (.load true 18 (.t 68)) (rg [2, 4])),
    (iCa 70 63 [((.t 64), none), ((.t 69), some YCell)] (rg [0, 7])),
    (iOa 71 (.un .not (.t 70)) (rg [0, 8]))])
  (.cond (.t 71)
  (.seq (.region [(iO 4 (.mv (.c (.tv .bool (false : Bool)))))])
    .ret)
  .skip)))
  (.region [(iO 61 (.mv (.t 6))),
    (iO 62 (.bin .add (.t 61) (nI 1))),
    (iO 6 (.mv (.t 62)))])))
noncomputable def z78u1t (k n : Nat) (d : z78u1p.D) : Option (XD z78u1x) := overspillref25_rowu1 k n d.1.2.2 d.2.1 d.2.2
theorem z78u1_k (k : Nat) : UOK P GL (mkU z78u1p z78u1x (z78u1t k k) nilU) z78u1d true z78u1b :=
  loop_typed (ud := z78u1d) (body := z78u1b) (uorc := uorT (z78U1 k)) hmo (T75_ok k).oo (z78U1_k k) (AllU.no (by kernel_rfl)) (t := z78u1t k) (fun d => by kernel_rfl) (fun n d => by kernel_rfl) k
noncomputable def z78U2 (k : Nat) : List (Nat × Ent) := (1, ⟨mkU z78u1p z78u1x (z78u1t k k) nilU⟩) :: z78U1 k
theorem z78U2_k (k : Nat) : UTab (z78U2 k) := (z78U1_k k).cons (mkU_nat nilU_nat)
noncomputable def overspillref25_row (k : Nat) (x0 : DSheet) (x1 : Int) : Option (Bool) :=
  bif (inR x1 (List.length x0.2.2.2.2.2.2.1)) then
    Option.bind (overspillref16_Across k x0.2.2.1) fun (v301 : Int) =>
    Option.bind (overspillref16_Size k x0.2.2.1) fun (v302 : List (Int)) =>
    bif (!(decide (((List.length (List.getD x0.2.2.2.2.2.2.1 (Int.toNat x1) (false, (0, (0, (([] : List (DCell)), ()))))).2.2.2.1 : Nat) : Int) = (wr .i64 (v301 * (List.getD v302 3 0)))))) then
      some false
    else
    Option.bind (overspillref25_rowu0 k x1 ((List.getD x0.2.2.2.2.2.2.1 (Int.toNat x1) (false, (0, (0, (([] : List (DCell)), ()))))).1) (List.getD x0.2.2.2.2.2.2.1 (Int.toNat x1) (false, (0, (0, (([] : List (DCell)), ())))))) fun r =>
    Sum.elim (fun (v303 : (Bool) × (DRow)) =>
      some v303.1)
      (fun (v304 : (Unit) × (DRow)) =>
      Option.bind (overspillref25_rowu1 k k 0 x0 v304.2) fun r =>
      Sum.elim (fun (v336 : (Bool) × ((DSheet) × (DRow))) =>
        some v336.1)
        (fun (v337 : (Unit) × ((DSheet) × (DRow))) =>
        some true) r) r
  else
    none
noncomputable def z78b : AC :=
  (.seq (.region [(iO 2 (.box (.t 0))),
    (iO 4 (.mv (.c (.tv .bool (false : Bool)))))])
  (.seq (.region [(iO 7 (.fad 6 6 (.t 2))),
    (iO 8 (.load false 1 (.t 7))),
    (iO 9 (.mv (.t 1))),
    (iO 10 (.iads YRow (.t 8) (.t 9))),
    (iO 11 (.load true 4 (.t 10))),
    (iO 5 (.alloc 50 (.cons (.tv .bool) (.cons (.tv (.int .i64)) (.cons (.tv (.int .i64)) (.cons (.row YCell) .nil)))))),
    (iS (.store 4 none (.t 5) (.t 11)))])
  (.seq (.seq (.draw [(iO 12 (.fad 3 3 (.t 5))),
    (iOa 13 (.load false 1 (.t 12)) [0]),
    (iOa 14 (.len (.t 13)) [0, 1]),
    (iO 15 (.fad 2 2 (.t 2))),
    (iOa 16 (.load false 1 (.t 15)) [3]),
    (iCa 17 40 [((.t 16), none)] [3, 4]),
    (iO 18 (.fad 2 2 (.t 2))),
    (iOa 19 (.load false 1 (.t 18)) [6]),
    (iCa 20 31 [((.t 19), none)] (rg [3, 5])),
    (iOa 21 (.ix 4 1 false (.t 20) (nI 3)) (rg [3, 6])),
    (iOa 22 (.bin .mul (.t 17) (.t 21)) (rg [3, 7])),
    (iOa 23 (.bin .neq (.t 14) (.t 22)) (rg [0, 11]))])
  (.cond (.t 23)
  (.seq (.region [(iO 4 (.mv (.c (.tv .bool (false : Bool)))))])
    .ret)
  .skip))
  (.seq (.seq (.region [(iO 24 (.fad 0 0 (.t 5))),
    (iO 25 (.load false 1 (.t 24)))])
  (.unit 0 z78u0d false z78u0b))
  (.seq (.seq (.region [(iO 6 (.mv (nI 0)))])
  (.block 0 (.unit 1 z78u1d true z78u1b)))
  (.seq (.region [(iO 4 (.mv (.c (.tv .bool (true : Bool)))))])
  .ret))))))
noncomputable def z78f : FDef := ⟨2, 72, [.tmp 4 none], z78b⟩
noncomputable def z78p : XPat := ⟨.normal, [(.tv YSheet), (.tv (.int .i64))], []⟩
noncomputable def z78x : List XPat := [⟨.ret, [(.tv .bool)], []⟩]
noncomputable def z78t (k : Nat) (d : z78p.D) : Option (XD z78x) := overspillref25_row k d.1 d.2
noncomputable def z78_e (k : Nat) : UEntry := mkU z78p z78x (z78t k) nilU
theorem z78_n (k : Nat) : UNat (z78_e k) := mkU_nat nilU_nat
theorem z78_fu (k : Nat) : FU P GL 32 (z78_e k) :=
  fn_typed (uorc := uorT (z78U2 k)) hmo (T75_ok k).oo (z78U2_k k) (fd := z78f) (AllU.seq (AllU.no (by kernel_rfl)) (AllU.seq (AllU.no (by kernel_rfl)) (AllU.seq (AllU.no (by kernel_rfl)) (AllU.seq (AllU.seq (AllU.no (by kernel_rfl)) (AllU.unit (uorc := uorT (z78U2 k)) (u := 0) (z78u0_k k))) (AllU.seq (AllU.seq (AllU.no (by kernel_rfl)) (AllU.block (AllU.unit (uorc := uorT (z78U2 k)) (u := 1) (z78u1_k k)))) (AllU.no (by kernel_rfl))))))) (fn := Tryz.f32) (by kernel_rfl) (by kernel_rfl) (fun d => by kernel_rfl) FU_nil
noncomputable def T76 (k : Nat) : List (Nat × Ent) := (32, ⟨z78_e k⟩) :: T75 k
theorem T76_ok (k : Nat) : TabOK P GL (T76 k) := (T75_ok k).cons (z78_fu k) (z78_n k)
/-! ### overspill.overspillref25.Cells -/
noncomputable def z79U0 (_ : Nat) : List (Nat × Ent) := []
theorem z79U0_k (k : Nat) : UTab (z79U0 k) := UTab.nil
noncomputable def z79u0d : UDef := ⟨[(1, none), (3, none), (4, none)], [3, 4, 5, 6, 7, 8, 9, 10, 11, 12, 13, 14, 15, 16, 17, 18, 19], [((.exit 0), [(3, none)])], []⟩
noncomputable def z79u0p : XPat := ⟨.normal, [(.ptr 0 []), (.row 1), (.tv (.int .i64))], [(.box (.tv YSheet)), (.row YCell false)]⟩
noncomputable def z79u0x : List XPat := [⟨(.exit 0), [(.row 1)], [(.box (.tv YSheet)), (.row YCell false)]⟩]
noncomputable def overspillref25_Cellsu0 (k : Nat) : Nat → (Int) → (DSheet) → (List (DCell)) → Option ((Unit) × ((DSheet) × (List (DCell))))
  | 0, _, _, _ => none
  | n + 1, x0, x1, x2 =>
    bif (decide (x0 < ((List.length x1.2.2.2.2.2.2.1 : Nat) : Int))) then
      bif (inR x0 (List.length x1.2.2.2.2.2.2.1)) then
        bif (decide ((List.length x2) + (List.length (List.getD x1.2.2.2.2.2.2.1 (Int.toNat x0) (false, (0, (0, (([] : List (DCell)), ()))))).2.2.2.1) ≤ rowMax)) then
          Option.bind (overspillref25_Cellsu0 k n (wr .i64 (x0 + 1)) x1 (x2 ++ (List.getD x1.2.2.2.2.2.2.1 (Int.toNat x0) (false, (0, (0, (([] : List (DCell)), ()))))).2.2.2.1)) fun r => some r
        else
          none
      else
        none
    else
    some ((), (x1, x2))
noncomputable def z79u0b : AC :=
  (.seq (.seq (.region [(iO 5 (.mv (.t 4))),
    (iO 6 (.fad 6 6 (.t 1))),
    (iO 7 (.load false 1 (.t 6))),
    (iO 8 (.len (.t 7))),
    (iO 9 (.bin .lss (.t 5) (.t 8)))])
  (.cond (.t 9)
  .skip
  (.exit 0)))
  (.seq (.block 1 (.region [(iO 12 (.mv (.t 3))),
    (iO 13 (.fad 6 6 (.t 1))),
    (iO 14 (.load false 1 (.t 13))),
    (iO 15 (.mv (.t 4))),
    (iO 16 (.iads YRow (.t 14) (.t 15))),
    (iO 17 (.fad 3 3 (.t 16))),
    (iO 18 (.load false 1 (.t 17))),
    (iO 19 (.app YCell (.t 12) (.t 18))),
    (iO 3 (.mv (.t 19)))]))
  (.region [(iO 10 (.mv (.t 4))),
    (iO 11 (.bin .add (.t 10) (nI 1))),
    (iO 4 (.mv (.t 11)))])))
noncomputable def z79u0t (k n : Nat) (d : z79u0p.D) : Option (XD z79u0x) := overspillref25_Cellsu0 k n d.1.2.2 d.2.1 d.2.2
theorem z79u0_k (k : Nat) : UOK P GL (mkU z79u0p z79u0x (z79u0t k k) nilU) z79u0d true z79u0b :=
  loop_typed (ud := z79u0d) (body := z79u0b) (uorc := uorT (z79U0 k)) hmo (T76_ok k).oo (z79U0_k k) (AllU.no (by kernel_rfl)) (t := z79u0t k) (fun d => by kernel_rfl) (fun n d => by kernel_rfl) k
noncomputable def z79U1 (k : Nat) : List (Nat × Ent) := (0, ⟨mkU z79u0p z79u0x (z79u0t k k) nilU⟩) :: z79U0 k
theorem z79U1_k (k : Nat) : UTab (z79U1 k) := (z79U0_k k).cons (mkU_nat nilU_nat)
noncomputable def overspillref25_Cells (k : Nat) (x0 : DSheet) : Option (List (DCell)) :=
  Option.bind (overspillref25_Cellsu0 k k 0 x0 ([] : List (DCell))) fun (v342 : (Unit) × ((DSheet) × (List (DCell)))) =>
  some v342.2.2
noncomputable def z79b : AC :=
  (.seq (.region [(iO 1 (.box (.t 0))),
    (iO 2 (.nrow YCell))])
  (.seq (.region [(iO 3 (.nrow YCell))])
  (.seq (.seq (.region [(iO 4 (.mv (nI 0)))])
  (.block 0 (.unit 0 z79u0d true z79u0b)))
  (.seq (.region [(iO 20 (.mv (.t 3))),
    (iO 2 (.mv (.t 20)))])
  .ret))))
noncomputable def z79f : FDef := ⟨1, 21, [.tmp 2 (some (.sl YCell))], z79b⟩
noncomputable def z79p : XPat := ⟨.normal, [(.tv YSheet)], []⟩
noncomputable def z79x : List XPat := [⟨.ret, [(.tv (.sl YCell))], []⟩]
noncomputable def z79t (k : Nat) (d : z79p.D) : Option (XD z79x) := overspillref25_Cells k d
noncomputable def z79_e (k : Nat) : UEntry := mkU z79p z79x (z79t k) nilU
theorem z79_n (k : Nat) : UNat (z79_e k) := mkU_nat nilU_nat
theorem z79_fu (k : Nat) : FU P GL 33 (z79_e k) :=
  fn_typed (uorc := uorT (z79U1 k)) hmo (T76_ok k).oo (z79U1_k k) (fd := z79f) (AllU.seq (AllU.no (by kernel_rfl)) (AllU.seq (AllU.no (by kernel_rfl)) (AllU.seq (AllU.seq (AllU.no (by kernel_rfl)) (AllU.block (AllU.unit (uorc := uorT (z79U1 k)) (u := 0) (z79u0_k k)))) (AllU.no (by kernel_rfl))))) (fn := Tryz.f33) (by kernel_rfl) (by kernel_rfl) (fun d => by kernel_rfl) FU_nil
noncomputable def T77 (k : Nat) : List (Nat × Ent) := (33, ⟨z79_e k⟩) :: T76 k
theorem T77_ok (k : Nat) : TabOK P GL (T77 k) := (T76_ok k).cons (z79_fu k) (z79_n k)
/-! ### overspill.overspillref18.inside -/
noncomputable def z80U0 (_ : Nat) : List (Nat × Ent) := []
theorem z80U0_k (k : Nat) : UTab (z80U0 k) := UTab.nil
noncomputable def overspillref18_inside (k : Nat) (x0 : Int) (x1 : Int) : Option (Bool) :=
  bif (decide ((0 : Int) ≤ x0)) then
    some (decide ((wr .i64 ((wr .i64 (Int.tdiv (wr .i64 (x0 + 30)) 2)) + (Int.tmod (wr .i64 (x0 + 30)) 2))) < x1))
  else
  some false
noncomputable def z80b : AC :=
  (.seq (.region [(iO 4 (.mv (.c (.tv .bool (false : Bool)))))])
  (.seq (.region [(iO 6 (.mv (.t 0))),
    (iO 7 (.bin .add (.t 6) (nI 30))),
    (iO 5 (.mv (.t 7)))])
  (.seq (.region [(iO 8 (.mv (.t 0))),
    (iO 9 (.bin .geq (.t 8) (nI 0))),
    (iO 10 (.mv (.t 9))),
    ⟨some 11, some (2, 10, true), (.op (.mv (.t 5))), []⟩,
    ⟨some 12, some (2, 10, true), (.op (.bin .quo (.t 11) (nI 2))), []⟩,
    ⟨some 13, some (2, 10, true), (.op (.mv (.t 5))), []⟩,
    ⟨some 14, some (2, 10, true), (.op (.bin .rem (.t 13) (nI 2))), []⟩,
    ⟨some 15, some (2, 10, true), (.op (.bin .add (.t 12) (.t 14))), []⟩,
    ⟨some 16, some (2, 10, true), (.op (.mv (.t 1))), []⟩,
    ⟨some 17, some (2, 10, true), (.op (.bin .lss (.t 15) (.t 16))), []⟩,
    (iO 18 (.pick (.t 10) (.t 17) (.c (.tv .bool (false : Bool))))),
    (iO 4 (.mv (.t 18)))])
  .ret)))
noncomputable def z80f : FDef := ⟨2, 19, [.tmp 4 none], z80b⟩
noncomputable def z80p : XPat := ⟨.normal, [(.tv (.int .i64)), (.tv (.int .i64))], []⟩
noncomputable def z80x : List XPat := [⟨.ret, [(.tv .bool)], []⟩]
noncomputable def z80t (k : Nat) (d : z80p.D) : Option (XD z80x) := overspillref18_inside k d.1 d.2
noncomputable def z80_e (k : Nat) : UEntry := mkU z80p z80x (z80t k) nilU
theorem z80_n (k : Nat) : UNat (z80_e k) := mkU_nat nilU_nat
theorem z80_fu (k : Nat) : FU P GL 64 (z80_e k) :=
  fn_typed (uorc := uorT (z80U0 k)) hmo (T77_ok k).oo (z80U0_k k) (fd := z80f) (AllU.no (by kernel_rfl)) (fn := Tryz.f64) (by kernel_rfl) (by kernel_rfl) (fun d => by kernel_rfl) FU_nil
noncomputable def T78 (k : Nat) : List (Nat × Ent) := (64, ⟨z80_e k⟩) :: T77 k
theorem T78_ok (k : Nat) : TabOK P GL (T78 k) := (T77_ok k).cons (z80_fu k) (z80_n k)
/-! ### overspill.overspillref18.May -/
noncomputable def z81U0 (_ : Nat) : List (Nat × Ent) := []
theorem z81U0_k (k : Nat) : UTab (z81U0 k) := UTab.nil
noncomputable def z81u0d : UDef := ⟨[(0, none), (1, none)], [10, 11, 12, 13, 14, 15, 16, 17], [(.normal, [(17, none)])], []⟩
noncomputable def z81u0p : XPat := ⟨.normal, [(.tv (.int .i64)), (.tv (.int .i64))], []⟩
noncomputable def z81u0x : List XPat := [⟨.normal, [(.tv .bool)], []⟩]
noncomputable def overspillref18_Mayu0 (k : Nat) (x0 : Int) (x1 : Int) : Option (Bool) :=
  bif (decide (x1 < 0)) then
    some true
  else
  Option.bind (overspillref16_Many k x0) fun (v346 : Int) =>
  some (decide (v346 ≤ x1))
noncomputable def z81u0b : AC :=
  (.region [(iO 10 (.mv (.t 1))),
    (iO 11 (.bin .lss (.t 10) (nI 0))),
    (iO 12 (.mv (.t 11))),
    ⟨some 13, some (2, 12, false), (.op (.mv (.t 1))), []⟩,
    ⟨some 14, some (2, 12, false), (.op (.mv (.t 0))), []⟩,
    ⟨some 15, some (2, 12, false), (.call (.c (.fn 62 .nil .nil)) [((.t 14), none)]), []⟩,
    ⟨some 16, some (2, 12, false), (.op (.bin .geq (.t 13) (.t 15))), []⟩,
    (iO 17 (.pick (.t 12) (.c (.tv .bool (true : Bool))) (.t 16)))])
noncomputable def z81u0t (k : Nat) (d : z81u0p.D) : Option (XD z81u0x) := overspillref18_Mayu0 k d.1 d.2
theorem z81u0_k (k : Nat) : UOK P GL (mkU z81u0p z81u0x (z81u0t k) nilU) z81u0d false z81u0b :=
  unit_typed (ud := z81u0d) (body := z81u0b) (uorc := uorT (z81U0 k)) hmo (T78_ok k).oo (z81U0_k k) (AllU.no (by kernel_rfl)) (fun d => by kernel_rfl)
noncomputable def z81U1 (k : Nat) : List (Nat × Ent) := (0, ⟨mkU z81u0p z81u0x (z81u0t k) nilU⟩) :: z81U0 k
theorem z81U1_k (k : Nat) : UTab (z81U1 k) := (z81U0_k k).cons (mkU_nat nilU_nat)
noncomputable def z81u1d : UDef := ⟨[(5, none), (9, none)], [6, 9, 26, 27, 28, 29, 30, 31, 32, 33, 34, 35, 36, 37, 38, 39], [(.ret, [(6, none)]), ((.exit 0), [])], []⟩
noncomputable def z81u1p : XPat := ⟨.normal, [(.ptr 0 []), (.tv (.int .i64))], [(.box (.tv (.arr 2 (.int .i64))))]⟩
noncomputable def z81u1x : List XPat := [⟨.ret, [(.tv .bool)], [(.box (.tv (.arr 2 (.int .i64))))]⟩, ⟨(.exit 0), [], [(.box (.tv (.arr 2 (.int .i64))))]⟩]
noncomputable def overspillref18_Mayu1 (k : Nat) : Nat → (Int) → (List (Int)) → Option (((Bool) × (List (Int))) ⊕ ((Unit) × (List (Int))))
  | 0, _, _ => none
  | n + 1, x0, x1 =>
    bif (decide (x0 < 2)) then
      bif (inR x0 2) then
        bif (decide ((List.getD x1 (Int.toNat x0) 0) < (-32))) then
          some (Sum.inl (false, x1))
        else
        bif (inR x0 2) then
          bif (decide ((31 : Int) < (List.getD x1 (Int.toNat x0) 0))) then
            some (Sum.inl (false, x1))
          else
          Option.bind (overspillref18_Mayu1 k n (wr .i64 (x0 + 1)) x1) fun r => Sum.elim (fun w => some (Sum.inl w)) (fun w => some (Sum.inr w)) r
        else
          none
      else
        none
    else
    some (Sum.inr ((), x1))
noncomputable def z81u1b : AC :=
  (.seq (.seq (.region [(iO 26 (.mv (.t 9))),
    (iO 27 (.bin .lss (.t 26) (nI 2)))])
  (.cond (.t 27)
  .skip
  (.exit 0)))
  (.seq (.block 1 (.seq (.region [(iO 30 (.mv (.t 9))),
    (iO 31 (.iad 2 1 (.t 5) (.t 30))),
    (iO 32 (.load false 1 (.t 31))),
    (iO 33 (.bin .lss (.t 32) (nI (-32)))),
    (iO 34 (.mv (.t 33))),
    ⟨some 35, some (4, 34, false), (.op (.mv (.t 9))), []⟩,
    ⟨some 36, some (4, 34, false), (.op (.iad 2 1 (.t 5) (.t 35))), []⟩,
    ⟨some 37, some (4, 34, false), (.op (.load false 1 (.t 36))), []⟩,
    ⟨some 38, some (4, 34, false), (.op (.bin .gtr (.t 37) (nI 31))), []⟩,
    (iO 39 (.pick (.t 34) (.c (.tv .bool (true : Bool))) (.t 38)))])
  (.cond (.t 39)
  (.seq (.region [(iO 6 (.mv (.c (.tv .bool (false : Bool)))))])
    .ret)
  .skip)))
  (.region [(iO 28 (.mv (.t 9))),
    (iO 29 (.bin .add (.t 28) (nI 1))),
    (iO 9 (.mv (.t 29)))])))
noncomputable def z81u1t (k n : Nat) (d : z81u1p.D) : Option (XD z81u1x) := overspillref18_Mayu1 k n d.1.2 d.2
theorem z81u1_k (k : Nat) : UOK P GL (mkU z81u1p z81u1x (z81u1t k k) nilU) z81u1d true z81u1b :=
  loop_typed (ud := z81u1d) (body := z81u1b) (uorc := uorT (z81U1 k)) hmo (T78_ok k).oo (z81U1_k k) (AllU.no (by kernel_rfl)) (t := z81u1t k) (fun d => by kernel_rfl) (fun n d => by kernel_rfl) k
noncomputable def z81U2 (k : Nat) : List (Nat × Ent) := (1, ⟨mkU z81u1p z81u1x (z81u1t k k) nilU⟩) :: z81U1 k
theorem z81U2_k (k : Nat) : UTab (z81U2 k) := (z81U1_k k).cons (mkU_nat nilU_nat)
noncomputable def overspillref18_May (k : Nat) (x0 : Int) (x1 : Int) (x2 : List (Int)) : Option (Bool) :=
  Option.bind (overspillref18_Mayu0 k x0 x1) fun (v347 : Bool) =>
  bif v347 then
    some false
  else
  Option.bind (overspillref16_Across k x0) fun (v348 : Int) =>
  bif (decide (v348 = 0)) then
    none
  else
  Option.bind (overspillref16_Across k x0) fun (v349 : Int) =>
  bif (decide (v349 = 0)) then
    none
  else
  Option.bind (overspillref18_Mayu1 k k 0 x2) fun r =>
  Sum.elim (fun (v350 : (Bool) × (List (Int))) =>
    some v350.1)
    (fun (v351 : (Unit) × (List (Int))) =>
    Option.bind (overspillref16_Size k x0) fun (v352 : List (Int)) =>
    Option.bind (overspillref18_inside k (wr .i64 ((wr .i64 (32 * (Int.tmod x1 v348))) + (List.getD v351.2 0 0))) (List.getD v352 0 0)) fun (v353 : Bool) =>
    bif v353 then
      Option.bind (overspillref16_Size k x0) fun (v354 : List (Int)) =>
      Option.bind (overspillref18_inside k (wr .i64 ((wr .i64 (32 * (wr .i64 (Int.tdiv x1 v349)))) + (List.getD v351.2 1 0))) (List.getD v354 1 0)) fun (v355 : Bool) =>
      some v355
    else
    some false) r
noncomputable def z81b : AC :=
  (.seq (.region [(iO 5 (.box (.t 2))),
    (iO 6 (.mv (.c (.tv .bool (false : Bool)))))])
  (.seq (.seq (.unit 0 z81u0d false z81u0b)
  (.cond (.t 17)
  (.seq (.region [(iO 6 (.mv (.c (.tv .bool (false : Bool)))))])
    .ret)
  .skip))
  (.seq (.region [(iO 18 (.mv (.t 1))),
    (iO 19 (.mv (.t 0))),
    (iC 20 40 [((.t 19), none)]),
    (iO 21 (.bin .rem (.t 18) (.t 20))),
    (iO 7 (.mv (.t 21)))])
  (.seq (.region [(iO 22 (.mv (.t 1))),
    (iO 23 (.mv (.t 0))),
    (iC 24 40 [((.t 23), none)]),
    (iO 25 (.bin .quo (.t 22) (.t 24))),
    (iO 8 (.mv (.t 25)))])
  (.seq (.seq (.region [(iO 9 (.mv (nI 0)))])
  (.block 0 (.unit 1 z81u1d true z81u1b)))
  (.seq (.draw [(iO 40 (.mv (.t 7))),
    (iOa 41 (.bin .mul (nI 32) (.t 40)) [0]),
    (iO 42 (.iad 2 1 (.t 5) (nI 0))),
    (iOa 43 (.load false 1 (.t 42)) [2]),
    (iOa 44 (.bin .add (.t 41) (.t 43)) (rg [0, 4])),
    (iO 45 (.mv (.t 0))),
    (iCa 46 31 [((.t 45), none)] [5]),
    (iOa 47 (.ix 4 1 false (.t 46) (nI 0)) [5, 6]),
    (iCa 48 64 [((.t 44), none), ((.t 47), none)] (rg [0, 8])),
    (iOa 49 (.mv (.t 48)) (rg [0, 9])),
    ⟨some 50, some (9, 49, true), (.op (.mv (.t 8))), (rg [0, 10])⟩,
    ⟨some 51, some (9, 49, true), (.op (.bin .mul (nI 32) (.t 50))), (rg [0, 11])⟩,
    ⟨some 52, some (9, 49, true), (.op (.iad 2 1 (.t 5) (nI 1))), (rg [0, 10])⟩,
    ⟨some 53, some (9, 49, true), (.op (.load false 1 (.t 52))), (rg [0, 10, 12, 1])⟩,
    ⟨some 54, some (9, 49, true), (.op (.bin .add (.t 51) (.t 53))), (rg [0, 14])⟩,
    ⟨some 55, some (9, 49, true), (.op (.mv (.t 0))), (rg [0, 10])⟩,
    ⟨some 56, some (9, 49, true), (.call (.c (.fn 31 .nil .nil)) [((.t 55), none)]), (rg [0, 10, 15, 1])⟩,
    ⟨some 57, some (9, 49, true), (.op (.ix 4 1 false (.t 56) (nI 1))), (rg [0, 10, 15, 2])⟩,
    ⟨some 58, some (9, 49, true), (.call (.c (.fn 64 .nil .nil)) [((.t 54), none), ((.t 57), none)]), (rg [0, 18])⟩,
    (iOa 59 (.pick (.t 49) (.t 58) (.c (.tv .bool (false : Bool)))) (rg [0, 19])),
    (iOa 6 (.mv (.t 59)) (rg [0, 20]))])
  .ret))))))
noncomputable def z81f : FDef := ⟨3, 60, [.tmp 6 none], z81b⟩
noncomputable def z81p : XPat := ⟨.normal, [(.tv (.int .i64)), (.tv (.int .i64)), (.tv (.arr 2 (.int .i64)))], []⟩
noncomputable def z81x : List XPat := [⟨.ret, [(.tv .bool)], []⟩]
noncomputable def z81t (k : Nat) (d : z81p.D) : Option (XD z81x) := overspillref18_May k d.1 d.2.1 d.2.2
noncomputable def z81_e (k : Nat) : UEntry := mkU z81p z81x (z81t k) nilU
theorem z81_n (k : Nat) : UNat (z81_e k) := mkU_nat nilU_nat
theorem z81_fu (k : Nat) : FU P GL 35 (z81_e k) :=
  fn_typed (uorc := uorT (z81U2 k)) hmo (T78_ok k).oo (z81U2_k k) (fd := z81f) (AllU.seq (AllU.no (by kernel_rfl)) (AllU.seq (AllU.seq (AllU.unit (uorc := uorT (z81U2 k)) (u := 0) (z81u0_k k)) (AllU.no (by kernel_rfl))) (AllU.seq (AllU.no (by kernel_rfl)) (AllU.seq (AllU.no (by kernel_rfl)) (AllU.seq (AllU.seq (AllU.no (by kernel_rfl)) (AllU.block (AllU.unit (uorc := uorT (z81U2 k)) (u := 1) (z81u1_k k)))) (AllU.no (by kernel_rfl))))))) (fn := Tryz.f35) (by kernel_rfl) (by kernel_rfl) (fun d => by kernel_rfl) FU_nil
noncomputable def T79 (k : Nat) : List (Nat × Ent) := (35, ⟨z81_e k⟩) :: T78 k
theorem T79_ok (k : Nat) : TabOK P GL (T79 k) := (T78_ok k).cons (z81_fu k) (z81_n k)
/-! ### overspill.overspillref25.Check -/
noncomputable def z82U0 (_ : Nat) : List (Nat × Ent) := []
theorem z82U0_k (k : Nat) : UTab (z82U0 k) := UTab.nil
noncomputable def z82u0d : UDef := ⟨[(1, none)], [6, 7, 8, 9, 10, 11, 12, 13, 14, 15, 16, 17, 18, 19, 20, 21, 22, 23, 24, 25, 26, 27, 28], [(.normal, [(28, none)])], []⟩
noncomputable def z82u0p : XPat := ⟨.normal, [(.ptr 0 [])], [(.box (.tv YSheet))]⟩
noncomputable def z82u0x : List XPat := [⟨.normal, [(.tv .bool)], [(.box (.tv YSheet))]⟩]
noncomputable def overspillref25_Checku0 (k : Nat) (x0 : DSheet) : Option ((Bool) × (DSheet)) :=
  Option.bind (overspillref24_Right k x0) fun (v297 : Bool) =>
  bif (!v297) then
    some (true, x0)
  else
  bif (decide (x0.2.2.2.2.2.2.2.1 < 0)) then
    some (true, x0)
  else
  bif (decide ((262144 : Int) < x0.2.2.2.2.2.2.2.1)) then
    some (true, x0)
  else
  Option.bind (overspillref16_Size k x0.2.2.1) fun (v298 : List (Int)) =>
  some ((!(decide (((List.length x0.2.2.2.2.2.2.1 : Nat) : Int) = (List.getD v298 2 0)))), x0)
noncomputable def z82u0b : AC :=
  (.draw [(iO 6 (.load true 8 (.t 1))),
    (iCa 7 30 [((.t 6), some YSheet)] [0]),
    (iOa 8 (.un .not (.t 7)) [0, 1]),
    (iOa 9 (.mv (.t 8)) [0, 1, 2]),
    ⟨some 10, some (3, 9, false), (.op (.fad 7 7 (.t 1))), (rg [0, 4])⟩,
    ⟨some 11, some (3, 9, false), (.op (.load false 1 (.t 10))), (rg [0, 5])⟩,
    ⟨some 12, some (3, 9, false), (.op (.bin .lss (.t 11) (nI 0))), (rg [0, 6])⟩,
    (iOa 13 (.pick (.t 9) (.c (.tv .bool (true : Bool))) (.t 12)) (rg [0, 7])),
    (iOa 14 (.mv (.t 13)) (rg [0, 8])),
    ⟨some 15, some (8, 14, false), (.op (.fad 7 7 (.t 1))), (rg [0, 9])⟩,
    ⟨some 16, some (8, 14, false), (.op (.load false 1 (.t 15))), (rg [0, 10])⟩,
    ⟨some 17, some (8, 14, false), (.op (.bin .gtr (.t 16) (nI 262144))), (rg [0, 11])⟩,
    (iOa 18 (.pick (.t 14) (.c (.tv .bool (true : Bool))) (.t 17)) (rg [0, 12])),
    (iOa 19 (.mv (.t 18)) (rg [0, 13])),
    ⟨some 20, some (13, 19, false), (.op (.fad 6 6 (.t 1))), (rg [0, 14])⟩,
    ⟨some 21, some (13, 19, false), (.op (.load false 1 (.t 20))), (rg [0, 15])⟩,
    ⟨some 22, some (13, 19, false), (.op (.len (.t 21))), (rg [0, 16])⟩,
    ⟨some 23, some (13, 19, false), (.op (.fad 2 2 (.t 1))), (rg [0, 14])⟩,
    ⟨some 24, some (13, 19, false), (.op (.load false 1 (.t 23))), (rg [0, 14, 17, 1])⟩,
    ⟨some 25, some (13, 19, false), (.call (.c (.fn 31 .nil .nil)) [((.t 24), none)]), (rg [0, 14, 17, 2])⟩,
    ⟨some 26, some (13, 19, false), (.op (.ix 4 1 false (.t 25) (nI 2))), (rg [0, 14, 17, 3])⟩,
    ⟨some 27, some (13, 19, false), (.op (.bin .neq (.t 22) (.t 26))), (rg [0, 21])⟩,
    (iOa 28 (.pick (.t 19) (.c (.tv .bool (true : Bool))) (.t 27)) (rg [0, 22]))])
noncomputable def z82u0t (k : Nat) (d : z82u0p.D) : Option (XD z82u0x) := overspillref25_Checku0 k d.2
theorem z82u0_k (k : Nat) : UOK P GL (mkU z82u0p z82u0x (z82u0t k) nilU) z82u0d false z82u0b :=
  unit_typed (ud := z82u0d) (body := z82u0b) (uorc := uorT (z82U0 k)) hmo (T79_ok k).oo (z82U0_k k) (AllU.no (by kernel_rfl)) (fun d => by kernel_rfl)
noncomputable def z82U1 (k : Nat) : List (Nat × Ent) := (0, ⟨mkU z82u0p z82u0x (z82u0t k) nilU⟩) :: z82U0 k
theorem z82U1_k (k : Nat) : UTab (z82U1 k) := (z82U0_k k).cons (mkU_nat nilU_nat)
noncomputable def z82u1d : UDef := ⟨[(1, none), (3, none)], [2, 3, 29, 30, 31, 32, 33, 34, 35, 36, 37, 38, 39], [(.ret, [(2, none)]), ((.exit 0), [])], []⟩
noncomputable def z82u1p : XPat := ⟨.normal, [(.ptr 0 []), (.tv (.int .i64))], [(.box (.tv YSheet))]⟩
noncomputable def z82u1x : List XPat := [⟨.ret, [(.tv (.int .i64))], [(.box (.tv YSheet))]⟩, ⟨(.exit 0), [], [(.box (.tv YSheet))]⟩]
noncomputable def overspillref25_Checku1 (k : Nat) : Nat → (Int) → (DSheet) → Option (((Int) × (DSheet)) ⊕ ((Unit) × (DSheet)))
  | 0, _, _ => none
  | n + 1, x0, x1 =>
    bif (decide (x0 < ((List.length x1.2.2.2.2.2.2.1 : Nat) : Int))) then
      Option.bind (overspillref25_row k x1 x0) fun (v339 : Bool) =>
      bif (!v339) then
        some (Sum.inl (12, x1))
      else
      Option.bind (overspillref25_Checku1 k n (wr .i64 (x0 + 1)) x1) fun r => Sum.elim (fun w => some (Sum.inl w)) (fun w => some (Sum.inr w)) r
    else
    some (Sum.inr ((), x1))
noncomputable def z82u1b : AC :=
  (.seq (.seq (.region [(iO 29 (.mv (.t 3))),
    (iO 30 (.fad 6 6 (.t 1))),
    (iO 31 (.load false 1 (.t 30))),
    (iO 32 (.len (.t 31))),
    (iO 33 (.bin .lss (.t 29) (.t 32)))])
  (.cond (.t 33)
  .skip
  (.exit 0)))
  (.seq (.block 1 (.seq (.region [(iO 36 (.load true 8 (.t 1))),
    (iO 37 (.mv (.t 3))),
    (iC 38 32 [((.t 36), some YSheet), ((.t 37), none)]),
    (iO 39 (.un .not (.t 38)))])
  (.cond (.t 39)
  (.seq (.region [(iO 2 (.mv (nI 12)))])
    .ret)
  .skip)))
  (.region [(iO 34 (.mv (.t 3))),
    (iO 35 (.bin .add (.t 34) (nI 1))),
    (iO 3 (.mv (.t 35)))])))
noncomputable def z82u1t (k n : Nat) (d : z82u1p.D) : Option (XD z82u1x) := overspillref25_Checku1 k n d.1.2 d.2
theorem z82u1_k (k : Nat) : UOK P GL (mkU z82u1p z82u1x (z82u1t k k) nilU) z82u1d true z82u1b :=
  loop_typed (ud := z82u1d) (body := z82u1b) (uorc := uorT (z82U1 k)) hmo (T79_ok k).oo (z82U1_k k) (AllU.no (by kernel_rfl)) (t := z82u1t k) (fun d => by kernel_rfl) (fun n d => by kernel_rfl) k
noncomputable def z82U2 (k : Nat) : List (Nat × Ent) := (1, ⟨mkU z82u1p z82u1x (z82u1t k k) nilU⟩) :: z82U1 k
theorem z82U2_k (k : Nat) : UTab (z82U2 k) := (z82U1_k k).cons (mkU_nat nilU_nat)
noncomputable def z82u2d : UDef := ⟨[(1, none), (4, none), (5, none)], [2, 5, 42, 43, 44, 45, 46, 47, 48, 49, 50, 51, 52, 53, 54, 55, 56, 57, 58, 59, 60, 61, 62, 63, 64, 65, 66], [(.ret, [(2, none)]), ((.exit 2), [])], []⟩
noncomputable def z82u2p : XPat := ⟨.normal, [(.ptr 0 []), (.tv (.sl YCell)), (.tv (.int .i64))], [(.box (.tv YSheet))]⟩
noncomputable def z82u2x : List XPat := [⟨.ret, [(.tv (.int .i64))], [(.box (.tv YSheet))]⟩, ⟨(.exit 2), [], [(.box (.tv YSheet))]⟩]
noncomputable def overspillref25_Checku2 (k : Nat) : Nat → (List (DCell)) → (Int) → (DSheet) → Option (((Int) × (DSheet)) ⊕ ((Unit) × (DSheet)))
  | 0, _, _, _ => none
  | n + 1, x0, x1, x2 =>
    bif (decide (x1 < ((List.length x0 : Nat) : Int))) then
      bif (inR x1 (List.length x0)) then
        Option.bind (overspillref21_Intra k ((List.getD x0 (Int.toNat x1) (0, (false, (0, (0, ((Ty.zero (.arr 2 (.int .i64))), ((Ty.zero (.arr 6 (.int .i64))), ((Ty.zero (.arr 6 (.sl YEvent))), ())))))))).2.2.1)) fun (v357 : Bool) =>
        bif (!v357) then
          bif (inR x1 (List.length x0)) then
            Option.bind (overspillref18_May k x2.2.2.1 x1 ((List.getD x0 (Int.toNat x1) (0, (false, (0, (0, ((Ty.zero (.arr 2 (.int .i64))), ((Ty.zero (.arr 6 (.int .i64))), ((Ty.zero (.arr 6 (.sl YEvent))), ())))))))).2.2.2.2.1)) fun (v358 : Bool) =>
            bif (!v358) then
              some (Sum.inl (8, x2))
            else
            Option.bind (overspillref25_Checku2 k n x0 (wr .i64 (x1 + 1)) x2) fun r => Sum.elim (fun w => some (Sum.inl w)) (fun w => some (Sum.inr w)) r
          else
            none
        else
        Option.bind (overspillref25_Checku2 k n x0 (wr .i64 (x1 + 1)) x2) fun r => Sum.elim (fun w => some (Sum.inl w)) (fun w => some (Sum.inr w)) r
      else
        none
    else
    some (Sum.inr ((), x2))
noncomputable def z82u2b : AC :=
  (.seq (.seq (.region [(iO 42 (.mv (.t 5))),
    (iO 43 (.mv (.t 4))),
    (iO 44 (.len (.t 43))),
    (iO 45 (.bin .lss (.t 42) (.t 44)))])
  (.cond (.t 45)
  .skip
  (.exit 2)))
  (.seq (.block 3 (.seq (.draw [(iO 48 (.mv (.t 4))),
    (iO 49 (.mv (.t 5))),
    (iOa 50 (.iads YCell (.t 48) (.t 49)) [0, 1]),
    (iOa 51 (.fad 2 2 (.t 50)) [0, 1, 2]),
    (iOa 52 (.load false 1 (.t 51)) (rg [0, 4])),
    (iCa 53 34 [((.t 52), none)] (rg [0, 5])),
    (iOa 54 (.un .not (.t 53)) (rg [0, 6])),
    (iOa 55 (.mv (.t 54)) (rg [0, 7])),
    ⟨some 56, some (7, 55, true), (.op (.fad 2 2 (.t 1))), (rg [0, 8])⟩,
    ⟨some 57, some (7, 55, true), (.op (.load false 1 (.t 56))), (rg [0, 9])⟩,
    ⟨some 58, some (7, 55, true), (.op (.mv (.t 5))), (rg [0, 8])⟩,
    ⟨some 59, some (7, 55, true), (.op (.mv (.t 4))), (rg [0, 8])⟩,
    ⟨some 60, some (7, 55, true), (.op (.mv (.t 5))), (rg [0, 8])⟩,
    ⟨some 61, some (7, 55, true), (.op (.iads YCell (.t 59) (.t 60))), (rg [0, 8, 11, 2])⟩,
    ⟨some 62, some (7, 55, true), (.op (.fad 4 4 (.t 61))), (rg [0, 8, 11, 3])⟩,
    ⟨some 63, some (7, 55, true), (.op (.load true 2 (.t 62))), (rg [0, 8, 11, 4])⟩,
    ⟨some 64, some (7, 55, true), (.call (.c (.fn 35 .nil .nil)) [((.t 57), none), ((.t 58), none), ((.t 63), some (.arr 2 (.int .i64)))]), (rg [0, 16])⟩,
    ⟨some 65, some (7, 55, true), (.op (.un .not (.t 64))), (rg [0, 17])⟩,
    (iOa 66 (.pick (.t 55) (.t 65) (.c (.tv .bool (false : Bool)))) (rg [0, 18]))])
  (.cond (.t 66)
  (.seq (.region [(iO 2 (.mv (nI 8)))])
    .ret)
  .skip)))
  (.region [(iO 46 (.mv (.t 5))),
    (iO 47 (.bin .add (.t 46) (nI 1))),
    (iO 5 (.mv (.t 47)))])))
noncomputable def z82u2t (k n : Nat) (d : z82u2p.D) : Option (XD z82u2x) := overspillref25_Checku2 k n d.1.2.1 d.1.2.2 d.2
theorem z82u2_k (k : Nat) : UOK P GL (mkU z82u2p z82u2x (z82u2t k k) nilU) z82u2d true z82u2b :=
  loop_typed (ud := z82u2d) (body := z82u2b) (uorc := uorT (z82U2 k)) hmo (T79_ok k).oo (z82U2_k k) (AllU.no (by kernel_rfl)) (t := z82u2t k) (fun d => by kernel_rfl) (fun n d => by kernel_rfl) k
noncomputable def z82U3 (k : Nat) : List (Nat × Ent) := (2, ⟨mkU z82u2p z82u2x (z82u2t k k) nilU⟩) :: z82U2 k
theorem z82U3_k (k : Nat) : UTab (z82U3 k) := (z82U2_k k).cons (mkU_nat nilU_nat)
noncomputable def overspillref25_Check (k : Nat) (x0 : DSheet) : Option (Int) :=
  Option.bind (overspillref25_Checku0 k x0) fun (v299 : (Bool) × (DSheet)) =>
  bif v299.1 then
    some 12
  else
  Option.bind (overspillref25_Checku1 k k 0 v299.2) fun r =>
  Sum.elim (fun (v340 : (Int) × (DSheet)) =>
    some v340.1)
    (fun (v341 : (Unit) × (DSheet)) =>
    Option.bind (overspillref25_Cells k v341.2) fun (v343 : List (DCell)) =>
    Option.bind (overspillref25_Checku2 k k v343 0 v341.2) fun r =>
    Sum.elim (fun (v359 : (Int) × (DSheet)) =>
      some v359.1)
      (fun (v360 : (Unit) × (DSheet)) =>
      some 0) r) r
noncomputable def z82b : AC :=
  (.seq (.region [(iO 1 (.box (.t 0))),
    (iO 2 (.mv (nI 0)))])
  (.seq (.seq (.unit 0 z82u0d false z82u0b)
  (.cond (.t 28)
  (.seq (.region [(iO 2 (.mv (nI 12)))])
    .ret)
  .skip))
  (.seq (.seq (.region [(iO 3 (.mv (nI 0)))])
  (.block 0 (.unit 1 z82u1d true z82u1b)))
  (.seq (.region [(iO 40 (.load true 8 (.t 1))),
    (iC 41 33 [((.t 40), some YSheet)]),
    (iO 4 (.mv (.t 41)))])
  (.seq (.seq (.region [(iO 5 (.mv (nI 0)))])
  (.block 2 (.unit 2 z82u2d true z82u2b)))
  (.seq (.region [(iO 2 (.mv (nI 0)))])
  .ret))))))
noncomputable def z82f : FDef := ⟨1, 67, [.tmp 2 none], z82b⟩
noncomputable def z82p : XPat := ⟨.normal, [(.tv YSheet)], []⟩
noncomputable def z82x : List XPat := [⟨.ret, [(.tv (.int .i64))], []⟩]
noncomputable def z82t (k : Nat) (d : z82p.D) : Option (XD z82x) := overspillref25_Check k d
noncomputable def z82_e (k : Nat) : UEntry := mkU z82p z82x (z82t k) nilU
theorem z82_n (k : Nat) : UNat (z82_e k) := mkU_nat nilU_nat
theorem z82_fu (k : Nat) : FU P GL 11 (z82_e k) :=
  fn_typed (uorc := uorT (z82U3 k)) hmo (T79_ok k).oo (z82U3_k k) (fd := z82f) (AllU.seq (AllU.no (by kernel_rfl)) (AllU.seq (AllU.seq (AllU.unit (uorc := uorT (z82U3 k)) (u := 0) (z82u0_k k)) (AllU.no (by kernel_rfl))) (AllU.seq (AllU.seq (AllU.no (by kernel_rfl)) (AllU.block (AllU.unit (uorc := uorT (z82U3 k)) (u := 1) (z82u1_k k)))) (AllU.seq (AllU.no (by kernel_rfl)) (AllU.seq (AllU.seq (AllU.no (by kernel_rfl)) (AllU.block (AllU.unit (uorc := uorT (z82U3 k)) (u := 2) (z82u2_k k)))) (AllU.no (by kernel_rfl))))))) (fn := Tryz.f11) (by kernel_rfl) (by kernel_rfl) (fun d => by kernel_rfl) FU_nil
noncomputable def T80 (k : Nat) : List (Nat × Ent) := (11, ⟨z82_e k⟩) :: T79 k
theorem T80_ok (k : Nat) : TabOK P GL (T80 k) := (T79_ok k).cons (z82_fu k) (z82_n k)
/-! ### overspill.overspillref02.Row -/
noncomputable def z83U0 (_ : Nat) : List (Nat × Ent) := []
theorem z83U0_k (k : Nat) : UTab (z83U0 k) := UTab.nil
noncomputable def z83u0d : UDef := ⟨[(0, none), (1, none), (5, none), (6, none)], [0, 5, 6, 7, 8, 9, 10, 11, 12, 13, 14, 15, 16, 17, 18, 19, 20, 21], [((.exit 0), [(5, none)])], []⟩
noncomputable def z83u0p : XPat := ⟨.normal, [(.tv (.int .i64)), (.tv (.int .i64)), (.tv .str), (.tv (.int .i64))], []⟩
noncomputable def z83u0x : List XPat := [⟨(.exit 0), [(.tv .str)], []⟩]
noncomputable def overspillref02_Rowu0 (k : Nat) : Nat → (Int) → (Int) → (List UInt8) → (Int) → Option (List UInt8)
  | 0, _, _, _, _ => none
  | n + 1, x0, x1, x2, x3 =>
    bif (decide (x3 < x1)) then
      bif (decide ((0 : Int) ≤ (Int.tmod x0 2) ∧ (Int.tmod x0 2) ≤ (wr .i64 ((Int.tmod x0 2) + 1)) ∧ (wr .i64 ((Int.tmod x0 2) + 1)) ≤ ((2 : Nat) : Int))) then
        bif (decide ((List.length (List.drop (Int.toNat (Int.tmod x0 2)) (List.take (Int.toNat (wr .i64 ((Int.tmod x0 2) + 1))) ([48, 49] : List UInt8)))) + (List.length x2) ≤ strMax)) then
          Option.bind (overspillref02_Rowu0 k n (wr .i64 (Int.tdiv x0 2)) x1 ((List.drop (Int.toNat (Int.tmod x0 2)) (List.take (Int.toNat (wr .i64 ((Int.tmod x0 2) + 1))) ([48, 49] : List UInt8))) ++ x2) (wr .i64 (x3 + 1))) fun r => some r
        else
          none
      else
        none
    else
    some x2
noncomputable def z83u0b : AC :=
  (.seq (.seq (.region [(iO 7 (.mv (.t 6))),
    (iO 8 (.mv (.t 1))),
    (iO 9 (.bin .lss (.t 7) (.t 8)))])
  (.cond (.t 9)
  .skip
  (.exit 0)))
  (.seq (.block 1 (.seq (.region [(iO 12 (.mv (.t 0))),
    (iO 13 (.bin .rem (.t 12) (nI 2))),
    (iO 14 (.mv (.t 0))),
    (iO 15 (.bin .rem (.t 14) (nI 2))),
    (iO 16 (.bin .add (.t 15) (nI 1))),
    (iO 17 (.slis (.c (.tv .str (([48, 49] : List UInt8) : List UInt8))) (some (.t 13)) (some (.t 16)))),
    (iO 18 (.mv (.t 5))),
    (iO 19 (.bin .add (.t 17) (.t 18))),
    (iO 5 (.mv (.t 19)))])
  (.region [(iO 20 (.mv (.t 0))),
    (iO 21 (.bin .quo (.t 20) (nI 2))),
    (iO 0 (.mv (.t 21)))])))
  (.region [(iO 10 (.mv (.t 6))),
    (iO 11 (.bin .add (.t 10) (nI 1))),
    (iO 6 (.mv (.t 11)))])))
noncomputable def z83u0t (k n : Nat) (d : z83u0p.D) : Option (XD z83u0x) := overspillref02_Rowu0 k n d.1 d.2.1 d.2.2.1 d.2.2.2
theorem z83u0_k (k : Nat) : UOK P GL (mkU z83u0p z83u0x (z83u0t k k) nilU) z83u0d true z83u0b :=
  loop_typed (ud := z83u0d) (body := z83u0b) (uorc := uorT (z83U0 k)) hmo (T80_ok k).oo (z83U0_k k) (AllU.no (by kernel_rfl)) (t := z83u0t k) (fun d => by kernel_rfl) (fun n d => by kernel_rfl) k
noncomputable def z83U1 (k : Nat) : List (Nat × Ent) := (0, ⟨mkU z83u0p z83u0x (z83u0t k k) nilU⟩) :: z83U0 k
theorem z83U1_k (k : Nat) : UTab (z83U1 k) := (z83U0_k k).cons (mkU_nat nilU_nat)
noncomputable def overspillref02_Row (k : Nat) (x0 : Int) (x1 : Int) : Option (List UInt8) :=
  Option.bind (overspillref02_Rowu0 k k x0 x1 ([] : List UInt8) 0) fun (v372 : List UInt8) =>
  some v372
noncomputable def z83b : AC :=
  (.seq (.region [(iO 4 (.mv (.c (.tv .str (([] : List UInt8) : List UInt8)))))])
  (.seq (.region [(iO 5 (.mv (.c (.tv .str (([] : List UInt8) : List UInt8)))))])
  (.seq (.seq (.region [(iO 6 (.mv (nI 0)))])
  (.block 0 (.unit 0 z83u0d true z83u0b)))
  (.seq (.region [(iO 22 (.mv (.t 5))),
    (iO 4 (.mv (.t 22)))])
  .ret))))
noncomputable def z83f : FDef := ⟨2, 23, [.tmp 4 none], z83b⟩
noncomputable def z83p : XPat := ⟨.normal, [(.tv (.int .i64)), (.tv (.int .i64))], []⟩
noncomputable def z83x : List XPat := [⟨.ret, [(.tv .str)], []⟩]
noncomputable def z83t (k : Nat) (d : z83p.D) : Option (XD z83x) := overspillref02_Row k d.1 d.2
noncomputable def z83_e (k : Nat) : UEntry := mkU z83p z83x (z83t k) nilU
theorem z83_n (k : Nat) : UNat (z83_e k) := mkU_nat nilU_nat
theorem z83_fu (k : Nat) : FU P GL 66 (z83_e k) :=
  fn_typed (uorc := uorT (z83U1 k)) hmo (T80_ok k).oo (z83U1_k k) (fd := z83f) (AllU.seq (AllU.no (by kernel_rfl)) (AllU.seq (AllU.no (by kernel_rfl)) (AllU.seq (AllU.seq (AllU.no (by kernel_rfl)) (AllU.block (AllU.unit (uorc := uorT (z83U1 k)) (u := 0) (z83u0_k k)))) (AllU.no (by kernel_rfl))))) (fn := Tryz.f66) (by kernel_rfl) (by kernel_rfl) (fun d => by kernel_rfl) FU_nil
noncomputable def T81 (k : Nat) : List (Nat × Ent) := (66, ⟨z83_e k⟩) :: T80 k
theorem T81_ok (k : Nat) : TabOK P GL (T81 k) := (T80_ok k).cons (z83_fu k) (z83_n k)
/-! ### overspill.overspillref04.Row -/
noncomputable def z84U0 (_ : Nat) : List (Nat × Ent) := []
theorem z84U0_k (k : Nat) : UTab (z84U0 k) := UTab.nil
noncomputable def overspillref04_Row (k : Nat) (x0 : Int) : Option (List UInt8) :=
  Option.bind (overspillref02_Row k x0 5) fun (v373 : List UInt8) =>
  bif (decide (17 + (List.length v373) ≤ strMax)) then
    some (([48, 48, 48, 48, 48, 48, 48, 48, 48, 48, 48, 48, 48, 48, 48, 48, 49] : List UInt8) ++ v373)
  else
    none
noncomputable def z84b : AC :=
  (.seq (.region [(iO 2 (.mv (.c (.tv .str (([] : List UInt8) : List UInt8)))))])
  (.seq (.region [(iO 3 (.mv (.t 0))),
    (iC 4 66 [((.t 3), none), ((nI 5), none)]),
    (iO 5 (.bin .add (.c (.tv .str (([48, 48, 48, 48, 48, 48, 48, 48, 48, 48, 48, 48, 48, 48, 48, 48, 49] : List UInt8) : List UInt8))) (.t 4))),
    (iO 2 (.mv (.t 5)))])
  .ret))
noncomputable def z84f : FDef := ⟨1, 6, [.tmp 2 none], z84b⟩
noncomputable def z84p : XPat := ⟨.normal, [(.tv (.int .i64))], []⟩
noncomputable def z84x : List XPat := [⟨.ret, [(.tv .str)], []⟩]
noncomputable def z84t (k : Nat) (d : z84p.D) : Option (XD z84x) := overspillref04_Row k d
noncomputable def z84_e (k : Nat) : UEntry := mkU z84p z84x (z84t k) nilU
theorem z84_n (k : Nat) : UNat (z84_e k) := mkU_nat nilU_nat
theorem z84_fu (k : Nat) : FU P GL 65 (z84_e k) :=
  fn_typed (uorc := uorT (z84U0 k)) hmo (T81_ok k).oo (z84U0_k k) (fd := z84f) (AllU.no (by kernel_rfl)) (fn := Tryz.f65) (by kernel_rfl) (by kernel_rfl) (fun d => by kernel_rfl) FU_nil
noncomputable def T82 (k : Nat) : List (Nat × Ent) := (65, ⟨z84_e k⟩) :: T81 k
theorem T82_ok (k : Nat) : TabOK P GL (T82 k) := (T81_ok k).cons (z84_fu k) (z84_n k)
/-! ### overspill.overspillref24.Row -/
noncomputable def z85U0 (_ : Nat) : List (Nat × Ent) := []
theorem z85U0_k (k : Nat) : UTab (z85U0 k) := UTab.nil
noncomputable def z85u0d : UDef := ⟨[(0, none), (5, none)], [5, 8, 9, 10, 11, 12, 13, 14, 15], [((.exit 0), [(5, none)])], []⟩
noncomputable def z85u0p : XPat := ⟨.normal, [(.tv (.int .i64)), (.tv .str)], []⟩
noncomputable def z85u0x : List XPat := [⟨(.exit 0), [(.tv .str)], []⟩]
noncomputable def overspillref24_Rowu0 (k : Nat) : Nat → (Int) → (List UInt8) → Option (List UInt8)
  | 0, _, _ => none
  | n + 1, x0, x1 =>
    bif (!(decide ((Int.tmod (wr .i64 (x0 + ((List.length x1 : Nat) : Int))) 8) = 0))) then
      bif (decide ((List.length x1) + 1 ≤ strMax)) then
        Option.bind (overspillref24_Rowu0 k n x0 (x1 ++ ([48] : List UInt8))) fun r => some r
      else
        none
    else
    some x1
noncomputable def z85u0b : AC :=
  (.seq (.seq (.region [(iO 8 (.mv (.t 0))),
    (iO 9 (.mv (.t 5))),
    (iO 10 (.lens (.t 9))),
    (iO 11 (.bin .add (.t 8) (.t 10))),
    (iO 12 (.bin .rem (.t 11) (nI 8))),
    (iO 13 (.bin .neq (.t 12) (nI 0)))])
  (.cond (.t 13)
  .skip
  (.exit 0)))
  (.block 1 (.region [(iO 14 (.mv (.t 5))),
    (iO 15 (.bin .add (.t 14) (.c (.tv .str (([48] : List UInt8) : List UInt8))))),
    (iO 5 (.mv (.t 15)))])))
noncomputable def z85u0t (k n : Nat) (d : z85u0p.D) : Option (XD z85u0x) := overspillref24_Rowu0 k n d.1 d.2
theorem z85u0_k (k : Nat) : UOK P GL (mkU z85u0p z85u0x (z85u0t k k) nilU) z85u0d true z85u0b :=
  loop_typed (ud := z85u0d) (body := z85u0b) (uorc := uorT (z85U0 k)) hmo (T82_ok k).oo (z85U0_k k) (AllU.no (by kernel_rfl)) (t := z85u0t k) (fun d => by kernel_rfl) (fun n d => by kernel_rfl) k
noncomputable def z85U1 (k : Nat) : List (Nat × Ent) := (0, ⟨mkU z85u0p z85u0x (z85u0t k k) nilU⟩) :: z85U0 k
theorem z85U1_k (k : Nat) : UTab (z85U1 k) := (z85U0_k k).cons (mkU_nat nilU_nat)
noncomputable def z85u1d : UDef := ⟨[(6, none), (17, none)], [6], [(.normal, [(6, none)])], []⟩
noncomputable def z85u1p : XPat := ⟨.normal, [(.tv .str), (.tv .bool)], []⟩
noncomputable def z85u1x : List XPat := [⟨.normal, [(.tv .str)], []⟩]
noncomputable def overspillref24_Rowu1 (k : Nat) (x0 : List UInt8) (x1 : Bool) : Option (List UInt8) :=
  bif x1 then
    some ([49] : List UInt8)
  else
  some x0
noncomputable def z85u1b : AC :=
  (.cond (.t 17)
  (.region [(iO 6 (.mv (.c (.tv .str (([49] : List UInt8) : List UInt8)))))])
  .skip)
noncomputable def z85u1t (k : Nat) (d : z85u1p.D) : Option (XD z85u1x) := overspillref24_Rowu1 k d.1 d.2
theorem z85u1_k (k : Nat) : UOK P GL (mkU z85u1p z85u1x (z85u1t k) nilU) z85u1d false z85u1b :=
  unit_typed (ud := z85u1d) (body := z85u1b) (uorc := uorT (z85U1 k)) hmo (T82_ok k).oo (z85U1_k k) (AllU.no (by kernel_rfl)) (fun d => by kernel_rfl)
noncomputable def z85U2 (k : Nat) : List (Nat × Ent) := (1, ⟨mkU z85u1p z85u1x (z85u1t k) nilU⟩) :: z85U1 k
theorem z85U2_k (k : Nat) : UTab (z85U2 k) := (z85U1_k k).cons (mkU_nat nilU_nat)
noncomputable def z85u2d : UDef := ⟨[(3, none), (5, none), (7, none)], [5, 7, 42, 43, 44, 45, 46, 47, 48, 49, 50, 51, 52, 53, 54, 55, 56, 57], [((.exit 2), [(5, none)])], []⟩
noncomputable def z85u2p : XPat := ⟨.normal, [(.ptr 0 []), (.tv .str), (.tv (.int .i64))], [(.box (.tv YSheet))]⟩
noncomputable def z85u2x : List XPat := [⟨(.exit 2), [(.tv .str)], [(.box (.tv YSheet))]⟩]
noncomputable def overspillref24_Rowu2 (k : Nat) : Nat → (List UInt8) → (Int) → (DSheet) → Option ((List UInt8) × (DSheet))
  | 0, _, _, _ => none
  | n + 1, x0, x1, x2 =>
    bif (decide (x1 < ((List.length x2.2.2.2.2.2.1 : Nat) : Int))) then
      bif (decide ((List.length x0) + 1 ≤ strMax)) then
        bif (inR x1 (List.length x2.2.2.2.2.2.1)) then
          Option.bind (overspillref02_Row k (List.getD x2.2.2.2.2.2.1 (Int.toNat x1) 0) 8) fun (v380 : List UInt8) =>
          bif (decide ((List.length (x0 ++ ([49] : List UInt8))) + (List.length v380) ≤ strMax)) then
            Option.bind (overspillref24_Rowu2 k n ((x0 ++ ([49] : List UInt8)) ++ v380) (wr .i64 (x1 + 1)) x2) fun r => some r
          else
            none
        else
          none
      else
        none
    else
    some (x0, x2)
noncomputable def z85u2b : AC :=
  (.seq (.seq (.region [(iO 42 (.mv (.t 7))),
    (iO 43 (.fad 5 5 (.t 3))),
    (iO 44 (.load false 1 (.t 43))),
    (iO 45 (.len (.t 44))),
    (iO 46 (.bin .lss (.t 42) (.t 45)))])
  (.cond (.t 46)
  .skip
  (.exit 2)))
  (.seq (.block 3 (.region [(iO 49 (.mv (.t 5))),
    (iO 50 (.bin .add (.t 49) (.c (.tv .str (([49] : List UInt8) : List UInt8))))),
    (iO 51 (.fad 5 5 (.t 3))),
    (iO 52 (.load false 1 (.t 51))),
    (iO 53 (.mv (.t 7))),
    (iO 54 (.iads (.int .i64) (.t 52) (.t 53))),
    (iO 55 (.load false 1 (.t 54))),
    (iC 56 66 [((.t 55), none), ((nI 8), none)]),
    (iO 57 (.bin .add (.t 50) (.t 56))),
    (iO 5 (.mv (.t 57)))]))
  (.region [(iO 47 (.mv (.t 7))),
    (iO 48 (.bin .add (.t 47) (nI 1))),
    (iO 7 (.mv (.t 48)))])))
noncomputable def z85u2t (k n : Nat) (d : z85u2p.D) : Option (XD z85u2x) := overspillref24_Rowu2 k n d.1.2.1 d.1.2.2 d.2
theorem z85u2_k (k : Nat) : UOK P GL (mkU z85u2p z85u2x (z85u2t k k) nilU) z85u2d true z85u2b :=
  loop_typed (ud := z85u2d) (body := z85u2b) (uorc := uorT (z85U2 k)) hmo (T82_ok k).oo (z85U2_k k) (AllU.no (by kernel_rfl)) (t := z85u2t k) (fun d => by kernel_rfl) (fun n d => by kernel_rfl) k
noncomputable def z85U3 (k : Nat) : List (Nat × Ent) := (2, ⟨mkU z85u2p z85u2x (z85u2t k k) nilU⟩) :: z85U2 k
theorem z85U3_k (k : Nat) : UTab (z85U3 k) := (z85U2_k k).cons (mkU_nat nilU_nat)
noncomputable def overspillref24_Row (k : Nat) (x0 : Int) (x1 : DSheet) : Option (List UInt8) :=
  Option.bind (overspillref24_Rowu0 k k x0 ([] : List UInt8)) fun (v370 : List UInt8) =>
  Option.bind (overspillref24_Rowu1 k ([48] : List UInt8) x1.2.2.2.1) fun (v371 : List UInt8) =>
  Option.bind (overspillref04_Row k 0) fun (v374 : List UInt8) =>
  bif (decide ((List.length v370) + (List.length v374) ≤ strMax)) then
    Option.bind (overspillref02_Row k x1.1 8) fun (v375 : List UInt8) =>
    bif (decide ((List.length (v370 ++ v374)) + (List.length v375) ≤ strMax)) then
      bif (decide ((List.length ((v370 ++ v374) ++ v375)) + 2 ≤ strMax)) then
        Option.bind (overspillref02_Row k x1.2.1 3) fun (v376 : List UInt8) =>
        bif (decide ((List.length (((v370 ++ v374) ++ v375) ++ ([49, 48] : List UInt8))) + (List.length v376) ≤ strMax)) then
          Option.bind (overspillref02_Row k x1.2.2.1 3) fun (v377 : List UInt8) =>
          bif (decide ((List.length ((((v370 ++ v374) ++ v375) ++ ([49, 48] : List UInt8)) ++ v376)) + (List.length v377) ≤ strMax)) then
            bif (decide ((List.length (((((v370 ++ v374) ++ v375) ++ ([49, 48] : List UInt8)) ++ v376) ++ v377)) + (List.length v371) ≤ strMax)) then
              bif (decide ((List.length ((((((v370 ++ v374) ++ v375) ++ ([49, 48] : List UInt8)) ++ v376) ++ v377) ++ v371)) + 4 ≤ strMax)) then
                Option.bind (overspillref02_Row k x1.2.2.2.2.1 5) fun (v378 : List UInt8) =>
                bif (decide ((List.length (((((((v370 ++ v374) ++ v375) ++ ([49, 48] : List UInt8)) ++ v376) ++ v377) ++ v371) ++ ([48, 48, 48, 48] : List UInt8))) + (List.length v378) ≤ strMax)) then
                  bif (decide ((List.length ((((((((v370 ++ v374) ++ v375) ++ ([49, 48] : List UInt8)) ++ v376) ++ v377) ++ v371) ++ ([48, 48, 48, 48] : List UInt8)) ++ v378)) + 1 ≤ strMax)) then
                    Option.bind (overspillref24_Rowu2 k k (((((((((v370 ++ v374) ++ v375) ++ ([49, 48] : List UInt8)) ++ v376) ++ v377) ++ v371) ++ ([48, 48, 48, 48] : List UInt8)) ++ v378) ++ ([48] : List UInt8)) 0 x1) fun (v381 : (List UInt8) × (DSheet)) =>
                    bif (decide ((List.length v381.1) + 1 ≤ strMax)) then
                      some (v381.1 ++ ([48] : List UInt8))
                    else
                      none
                  else
                    none
                else
                  none
              else
                none
            else
              none
          else
            none
        else
          none
      else
        none
    else
      none
  else
    none
noncomputable def z85b : AC :=
  (.seq (.region [(iO 3 (.box (.t 1))),
    (iO 4 (.mv (.c (.tv .str (([] : List UInt8) : List UInt8)))))])
  (.seq (.region [(iO 5 (.mv (.c (.tv .str (([] : List UInt8) : List UInt8)))))])
  (.seq (.block 0 (.unit 0 z85u0d true z85u0b))
  (.seq (.region [(iO 6 (.mv (.c (.tv .str (([48] : List UInt8) : List UInt8)))))])
  (.seq (.seq (.region [(iO 16 (.fad 3 3 (.t 3))),
    (iO 17 (.load false 1 (.t 16)))])
  (.unit 1 z85u1d false z85u1b))
  (.seq (.draw [(iO 18 (.mv (.t 5))),
    (iC 19 65 [((nI 0), none)]),
    (iOa 20 (.bin .add (.t 18) (.t 19)) [0, 1]),
    (iO 21 (.fad 0 0 (.t 3))),
    (iOa 22 (.load false 1 (.t 21)) [3]),
    (iCa 23 66 [((.t 22), none), ((nI 8), none)] [1, 3, 4]),
    (iOa 24 (.bin .add (.t 20) (.t 23)) (rg [0, 6])),
    (iOa 25 (.bin .add (.t 24) (.c (.tv .str (([49, 48] : List UInt8) : List UInt8)))) (rg [0, 7])),
    (iO 26 (.fad 1 1 (.t 3))),
    (iOa 27 (.load false 1 (.t 26)) [8]),
    (iCa 28 66 [((.t 27), none), ((nI 3), none)] [1, 3, 4, 5, 8, 9]),
    (iOa 29 (.bin .add (.t 25) (.t 28)) (rg [0, 11])),
    (iO 30 (.fad 2 2 (.t 3))),
    (iOa 31 (.load false 1 (.t 30)) [12]),
    (iCa 32 66 [((.t 31), none), ((nI 3), none)] [1, 3, 4, 5, 8, 9, 10, 12, 13]),
    (iOa 33 (.bin .add (.t 29) (.t 32)) (rg [0, 15])),
    (iO 34 (.mv (.t 6))),
    (iOa 35 (.bin .add (.t 33) (.t 34)) (rg [0, 17])),
    (iOa 36 (.bin .add (.t 35) (.c (.tv .str (([48, 48, 48, 48] : List UInt8) : List UInt8)))) (rg [0, 18])),
    (iO 37 (.fad 4 4 (.t 3))),
    (iOa 38 (.load false 1 (.t 37)) [19]),
    (iCa 39 66 [((.t 38), none), ((nI 5), none)] (rg [1, 1, 3, 3, 8, 3, 12, 3, 19, 2])),
    (iOa 40 (.bin .add (.t 36) (.t 39)) (rg [0, 22])),
    (iOa 41 (.bin .add (.t 40) (.c (.tv .str (([48] : List UInt8) : List UInt8)))) (rg [0, 23])),
    (iOa 5 (.mv (.t 41)) (rg [0, 24]))])
  (.seq (.seq (.region [(iO 7 (.mv (nI 0)))])
  (.block 2 (.unit 2 z85u2d true z85u2b)))
  (.seq (.region [(iO 58 (.mv (.t 5))),
    (iO 59 (.bin .add (.t 58) (.c (.tv .str (([48] : List UInt8) : List UInt8))))),
    (iO 4 (.mv (.t 59)))])
  .ret))))))))
noncomputable def z85f : FDef := ⟨2, 60, [.tmp 4 none], z85b⟩
noncomputable def z85p : XPat := ⟨.normal, [(.tv (.int .i64)), (.tv YSheet)], []⟩
noncomputable def z85x : List XPat := [⟨.ret, [(.tv .str)], []⟩]
noncomputable def z85t (k : Nat) (d : z85p.D) : Option (XD z85x) := overspillref24_Row k d.1 d.2
noncomputable def z85_e (k : Nat) : UEntry := mkU z85p z85x (z85t k) nilU
theorem z85_n (k : Nat) : UNat (z85_e k) := mkU_nat nilU_nat
theorem z85_fu (k : Nat) : FU P GL 36 (z85_e k) :=
  fn_typed (uorc := uorT (z85U3 k)) hmo (T82_ok k).oo (z85U3_k k) (fd := z85f) (AllU.seq (AllU.no (by kernel_rfl)) (AllU.seq (AllU.no (by kernel_rfl)) (AllU.seq (AllU.block (AllU.unit (uorc := uorT (z85U3 k)) (u := 0) (z85u0_k k))) (AllU.seq (AllU.no (by kernel_rfl)) (AllU.seq (AllU.seq (AllU.no (by kernel_rfl)) (AllU.unit (uorc := uorT (z85U3 k)) (u := 1) (z85u1_k k))) (AllU.seq (AllU.no (by kernel_rfl)) (AllU.seq (AllU.seq (AllU.no (by kernel_rfl)) (AllU.block (AllU.unit (uorc := uorT (z85U3 k)) (u := 2) (z85u2_k k)))) (AllU.no (by kernel_rfl))))))))) (fn := Tryz.f36) (by kernel_rfl) (by kernel_rfl) (fun d => by kernel_rfl) FU_nil
noncomputable def T83 (k : Nat) : List (Nat × Ent) := (36, ⟨z85_e k⟩) :: T82 k
theorem T83_ok (k : Nat) : TabOK P GL (T83 k) := (T82_ok k).cons (z85_fu k) (z85_n k)
/-! ### overspill.overspillref23.Row -/
noncomputable def z86U0 (_ : Nat) : List (Nat × Ent) := []
theorem z86U0_k (k : Nat) : UTab (z86U0 k) := UTab.nil
noncomputable def z86u0d : UDef := ⟨[(0, none), (9, none)], [9, 10, 11, 12, 13, 14, 15, 16, 17], [((.exit 0), [(9, none)])], []⟩
noncomputable def z86u0p : XPat := ⟨.normal, [(.tv (.int .i64)), (.tv .str)], []⟩
noncomputable def z86u0x : List XPat := [⟨(.exit 0), [(.tv .str)], []⟩]
noncomputable def overspillref23_Rowu0 (k : Nat) : Nat → (Int) → (List UInt8) → Option (List UInt8)
  | 0, _, _ => none
  | n + 1, x0, x1 =>
    bif (!(decide ((Int.tmod (wr .i64 (x0 + ((List.length x1 : Nat) : Int))) 8) = 0))) then
      bif (decide ((List.length x1) + 1 ≤ strMax)) then
        Option.bind (overspillref23_Rowu0 k n x0 (x1 ++ ([48] : List UInt8))) fun r => some r
      else
        none
    else
    some x1
noncomputable def z86u0b : AC :=
  (.seq (.seq (.region [(iO 10 (.mv (.t 0))),
    (iO 11 (.mv (.t 9))),
    (iO 12 (.lens (.t 11))),
    (iO 13 (.bin .add (.t 10) (.t 12))),
    (iO 14 (.bin .rem (.t 13) (nI 8))),
    (iO 15 (.bin .neq (.t 14) (nI 0)))])
  (.cond (.t 15)
  .skip
  (.exit 0)))
  (.block 1 (.region [(iO 16 (.mv (.t 9))),
    (iO 17 (.bin .add (.t 16) (.c (.tv .str (([48] : List UInt8) : List UInt8))))),
    (iO 9 (.mv (.t 17)))])))
noncomputable def z86u0t (k n : Nat) (d : z86u0p.D) : Option (XD z86u0x) := overspillref23_Rowu0 k n d.1 d.2
theorem z86u0_k (k : Nat) : UOK P GL (mkU z86u0p z86u0x (z86u0t k k) nilU) z86u0d true z86u0b :=
  loop_typed (ud := z86u0d) (body := z86u0b) (uorc := uorT (z86U0 k)) hmo (T83_ok k).oo (z86U0_k k) (AllU.no (by kernel_rfl)) (t := z86u0t k) (fun d => by kernel_rfl) (fun n d => by kernel_rfl) k
noncomputable def z86U1 (k : Nat) : List (Nat × Ent) := (0, ⟨mkU z86u0p z86u0x (z86u0t k k) nilU⟩) :: z86U0 k
theorem z86U1_k (k : Nat) : UTab (z86U1 k) := (z86U0_k k).cons (mkU_nat nilU_nat)
noncomputable def overspillref23_Row (k : Nat) (x0 : Int) (x1 : Int) (x2 : Int) (x3 : Int) : Option (List UInt8) :=
  Option.bind (overspillref23_Rowu0 k k x0 ([] : List UInt8)) fun (v383 : List UInt8) =>
  Option.bind (overspillref04_Row k x1) fun (v384 : List UInt8) =>
  bif (decide ((List.length v383) + (List.length v384) ≤ strMax)) then
    Option.bind (overspillref02_Row k x2 2) fun (v385 : List UInt8) =>
    bif (decide ((List.length (v383 ++ v384)) + (List.length v385) ≤ strMax)) then
      Option.bind (overspillref02_Row k x3 5) fun (v386 : List UInt8) =>
      bif (decide ((List.length ((v383 ++ v384) ++ v385)) + (List.length v386) ≤ strMax)) then
        some (((v383 ++ v384) ++ v385) ++ v386)
      else
        none
    else
      none
  else
    none
noncomputable def z86b : AC :=
  (.seq (.region [(iO 8 (.mv (.c (.tv .str (([] : List UInt8) : List UInt8)))))])
  (.seq (.region [(iO 9 (.mv (.c (.tv .str (([] : List UInt8) : List UInt8)))))])
  (.seq (.block 0 (.unit 0 z86u0d true z86u0b))
  (.seq (.region [(iO 18 (.mv (.t 9))),
    (iO 19 (.mv (.t 1))),
    (iC 20 65 [((.t 19), none)]),
    (iO 21 (.bin .add (.t 18) (.t 20))),
    (iO 22 (.mv (.t 2))),
    (iC 23 66 [((.t 22), none), ((nI 2), none)]),
    (iO 24 (.bin .add (.t 21) (.t 23))),
    (iO 25 (.mv (.t 3))),
    (iC 26 66 [((.t 25), none), ((nI 5), none)]),
    (iO 27 (.bin .add (.t 24) (.t 26))),
    (iO 8 (.mv (.t 27)))])
  .ret))))
noncomputable def z86f : FDef := ⟨4, 28, [.tmp 8 none], z86b⟩
noncomputable def z86p : XPat := ⟨.normal, [(.tv (.int .i64)), (.tv (.int .i64)), (.tv (.int .i64)), (.tv (.int .i64))], []⟩
noncomputable def z86x : List XPat := [⟨.ret, [(.tv .str)], []⟩]
noncomputable def z86t (k : Nat) (d : z86p.D) : Option (XD z86x) := overspillref23_Row k d.1 d.2.1 d.2.2.1 d.2.2.2
noncomputable def z86_e (k : Nat) : UEntry := mkU z86p z86x (z86t k) nilU
theorem z86_n (k : Nat) : UNat (z86_e k) := mkU_nat nilU_nat
theorem z86_fu (k : Nat) : FU P GL 37 (z86_e k) :=
  fn_typed (uorc := uorT (z86U1 k)) hmo (T83_ok k).oo (z86U1_k k) (fd := z86f) (AllU.seq (AllU.no (by kernel_rfl)) (AllU.seq (AllU.no (by kernel_rfl)) (AllU.seq (AllU.block (AllU.unit (uorc := uorT (z86U1 k)) (u := 0) (z86u0_k k))) (AllU.no (by kernel_rfl))))) (fn := Tryz.f37) (by kernel_rfl) (by kernel_rfl) (fun d => by kernel_rfl) FU_nil
noncomputable def T84 (k : Nat) : List (Nat × Ent) := (37, ⟨z86_e k⟩) :: T83 k
theorem T84_ok (k : Nat) : TabOK P GL (T84 k) := (T83_ok k).cons (z86_fu k) (z86_n k)
/-! ### overspill.overspillref19.at -/
noncomputable def z87U0 (_ : Nat) : List (Nat × Ent) := []
theorem z87U0_k (k : Nat) : UTab (z87U0 k) := UTab.nil
noncomputable def z87u0d : UDef := ⟨[(1, none), (2, none)], [9, 10, 11, 12, 13, 14, 15], [(.normal, [(15, none)])], []⟩
noncomputable def z87u0p : XPat := ⟨.normal, [(.tv (.int .i64)), (.tv (.int .i64))], []⟩
noncomputable def z87u0x : List XPat := [⟨.normal, [(.tv .bool)], []⟩]
noncomputable def overspillref19_atu0 (k : Nat) (x0 : Int) (x1 : Int) : Option (Bool) :=
  bif (decide (x1 < 0)) then
    some true
  else
  some (decide (x0 ≤ x1))
noncomputable def z87u0b : AC :=
  (.region [(iO 9 (.mv (.t 2))),
    (iO 10 (.bin .lss (.t 9) (nI 0))),
    (iO 11 (.mv (.t 10))),
    ⟨some 12, some (2, 11, false), (.op (.mv (.t 2))), []⟩,
    ⟨some 13, some (2, 11, false), (.op (.mv (.t 1))), []⟩,
    ⟨some 14, some (2, 11, false), (.op (.bin .geq (.t 12) (.t 13))), []⟩,
    (iO 15 (.pick (.t 11) (.c (.tv .bool (true : Bool))) (.t 14)))])
noncomputable def z87u0t (k : Nat) (d : z87u0p.D) : Option (XD z87u0x) := overspillref19_atu0 k d.1 d.2
theorem z87u0_k (k : Nat) : UOK P GL (mkU z87u0p z87u0x (z87u0t k) nilU) z87u0d false z87u0b :=
  unit_typed (ud := z87u0d) (body := z87u0b) (uorc := uorT (z87U0 k)) hmo (T84_ok k).oo (z87U0_k k) (AllU.no (by kernel_rfl)) (fun d => by kernel_rfl)
noncomputable def z87U1 (k : Nat) : List (Nat × Ent) := (0, ⟨mkU z87u0p z87u0x (z87u0t k) nilU⟩) :: z87U0 k
theorem z87U1_k (k : Nat) : UTab (z87U1 k) := (z87U0_k k).cons (mkU_nat nilU_nat)
noncomputable def overspillref19_at (k : Nat) (x0 : List (List (Int))) (x1 : Int) (x2 : Int) (x3 : Int) : Option (List (Int)) :=
  Option.bind (overspillref19_atu0 k x1 x2) fun (v393 : Bool) =>
  bif v393 then
    some (Ty.zero (.arr 2 (.int .i64)))
  else
  bif (inR (wr .i64 ((wr .i64 (x3 * x1)) + x2)) (List.length x0)) then
    some (List.getD x0 (Int.toNat (wr .i64 ((wr .i64 (x3 * x1)) + x2))) (Ty.zero (.arr 2 (.int .i64))))
  else
    none
noncomputable def z87b : AC :=
  (.seq (.region [(iO 8 (.alloc 42 (.tv (.arr 2 (.int .i64)))))])
  (.seq (.seq (.unit 0 z87u0d false z87u0b)
  (.cond (.t 15)
  (.seq (.region [(iO 16 (.build 42 (.tv (.arr 2 (.int .i64))) [])),
      (iS (.store 2 none (.t 8) (.t 16)))])
    .ret)
  .skip))
  (.seq (.region [(iO 17 (.mv (.t 0))),
    (iO 18 (.mv (.t 3))),
    (iO 19 (.mv (.t 1))),
    (iO 20 (.bin .mul (.t 18) (.t 19))),
    (iO 21 (.mv (.t 2))),
    (iO 22 (.bin .add (.t 20) (.t 21))),
    (iO 23 (.iads (.arr 2 (.int .i64)) (.t 17) (.t 22))),
    (iO 24 (.load true 2 (.t 23))),
    (iS (.store 2 none (.t 8) (.t 24)))])
  .ret)))
noncomputable def z87f : FDef := ⟨4, 25, [.cell 8 2 true (some (.arr 2 (.int .i64)))], z87b⟩
noncomputable def z87p : XPat := ⟨.normal, [(.tv (.sl (.arr 2 (.int .i64)))), (.tv (.int .i64)), (.tv (.int .i64)), (.tv (.int .i64))], []⟩
noncomputable def z87x : List XPat := [⟨.ret, [(.tv (.arr 2 (.int .i64)))], []⟩]
noncomputable def z87t (k : Nat) (d : z87p.D) : Option (XD z87x) := overspillref19_at k d.1 d.2.1 d.2.2.1 d.2.2.2
noncomputable def z87_e (k : Nat) : UEntry := mkU z87p z87x (z87t k) nilU
theorem z87_n (k : Nat) : UNat (z87_e k) := mkU_nat nilU_nat
theorem z87_fu (k : Nat) : FU P GL 73 (z87_e k) :=
  fn_typed (uorc := uorT (z87U1 k)) hmo (T84_ok k).oo (z87U1_k k) (fd := z87f) (AllU.seq (AllU.no (by kernel_rfl)) (AllU.seq (AllU.seq (AllU.unit (uorc := uorT (z87U1 k)) (u := 0) (z87u0_k k)) (AllU.no (by kernel_rfl))) (AllU.no (by kernel_rfl)))) (fn := Tryz.f73) (by kernel_rfl) (by kernel_rfl) (fun d => by kernel_rfl) FU_nil
noncomputable def T85 (k : Nat) : List (Nat × Ent) := (73, ⟨z87_e k⟩) :: T84 k
theorem T85_ok (k : Nat) : TabOK P GL (T85 k) := (T84_ok k).cons (z87_fu k) (z87_n k)
/-! ### overspill.overspillref01.Middle -/
noncomputable def z88U0 (_ : Nat) : List (Nat × Ent) := []
theorem z88U0_k (k : Nat) : UTab (z88U0 k) := UTab.nil
noncomputable def z88u0d : UDef := ⟨[(0, none), (1, none), (9, none)], [0, 1, 10, 11], [(.normal, [(0, none), (1, none)])], []⟩
noncomputable def z88u0p : XPat := ⟨.normal, [(.tv (.int .i64)), (.tv (.int .i64)), (.tv .bool)], []⟩
noncomputable def z88u0x : List XPat := [⟨.normal, [(.tv (.int .i64)), (.tv (.int .i64))], []⟩]
noncomputable def overspillref01_Middleu0 (k : Nat) (x0 : Int) (x1 : Int) (x2 : Bool) : Option ((Int) × (Int)) :=
  bif x2 then
    some (x1, x0)
  else
  some (x0, x1)
noncomputable def z88u0b : AC :=
  (.cond (.t 9)
  (.region [(iO 10 (.mv (.t 1))),
      (iO 11 (.mv (.t 0))),
      (iO 0 (.mv (.t 10))),
      (iO 1 (.mv (.t 11)))])
  .skip)
noncomputable def z88u0t (k : Nat) (d : z88u0p.D) : Option (XD z88u0x) := overspillref01_Middleu0 k d.1 d.2.1 d.2.2
theorem z88u0_k (k : Nat) : UOK P GL (mkU z88u0p z88u0x (z88u0t k) nilU) z88u0d false z88u0b :=
  unit_typed (ud := z88u0d) (body := z88u0b) (uorc := uorT (z88U0 k)) hmo (T85_ok k).oo (z88U0_k k) (AllU.no (by kernel_rfl)) (fun d => by kernel_rfl)
noncomputable def z88U1 (k : Nat) : List (Nat × Ent) := (0, ⟨mkU z88u0p z88u0x (z88u0t k) nilU⟩) :: z88U0 k
theorem z88U1_k (k : Nat) : UTab (z88U1 k) := (z88U0_k k).cons (mkU_nat nilU_nat)
noncomputable def overspillref01_Middle (k : Nat) (x0 : Int) (x1 : Int) (x2 : Int) : Option (Int) :=
  Option.bind (overspillref01_Middleu0 k x0 x1 (decide (x1 < x0))) fun (v401 : (Int) × (Int)) =>
  bif (decide (x2 ≤ v401.1)) then
    some v401.1
  else
  bif (decide (v401.2 ≤ x2)) then
    some v401.2
  else
  some x2
noncomputable def z88b : AC :=
  (.seq (.region [(iO 6 (.mv (nI 0)))])
  (.seq (.seq (.region [(iO 7 (.mv (.t 0))),
    (iO 8 (.mv (.t 1))),
    (iO 9 (.bin .gtr (.t 7) (.t 8)))])
  (.unit 0 z88u0d false z88u0b))
  (.seq (.seq (.region [(iO 12 (.mv (.t 2))),
    (iO 13 (.mv (.t 0))),
    (iO 14 (.bin .leq (.t 12) (.t 13)))])
  (.cond (.t 14)
  (.seq (.region [(iO 15 (.mv (.t 0))),
      (iO 6 (.mv (.t 15)))])
    .ret)
  .skip))
  (.seq (.seq (.region [(iO 16 (.mv (.t 2))),
    (iO 17 (.mv (.t 1))),
    (iO 18 (.bin .geq (.t 16) (.t 17)))])
  (.cond (.t 18)
  (.seq (.region [(iO 19 (.mv (.t 1))),
      (iO 6 (.mv (.t 19)))])
    .ret)
  .skip))
  (.seq (.region [(iO 20 (.mv (.t 2))),
    (iO 6 (.mv (.t 20)))])
  .ret)))))
noncomputable def z88f : FDef := ⟨3, 21, [.tmp 6 none], z88b⟩
noncomputable def z88p : XPat := ⟨.normal, [(.tv (.int .i64)), (.tv (.int .i64)), (.tv (.int .i64))], []⟩
noncomputable def z88x : List XPat := [⟨.ret, [(.tv (.int .i64))], []⟩]
noncomputable def z88t (k : Nat) (d : z88p.D) : Option (XD z88x) := overspillref01_Middle k d.1 d.2.1 d.2.2
noncomputable def z88_e (k : Nat) : UEntry := mkU z88p z88x (z88t k) nilU
theorem z88_n (k : Nat) : UNat (z88_e k) := mkU_nat nilU_nat
theorem z88_fu (k : Nat) : FU P GL 74 (z88_e k) :=
  fn_typed (uorc := uorT (z88U1 k)) hmo (T85_ok k).oo (z88U1_k k) (fd := z88f) (AllU.seq (AllU.no (by kernel_rfl)) (AllU.seq (AllU.seq (AllU.no (by kernel_rfl)) (AllU.unit (uorc := uorT (z88U1 k)) (u := 0) (z88u0_k k))) (AllU.no (by kernel_rfl)))) (fn := Tryz.f74) (by kernel_rfl) (by kernel_rfl) (fun d => by kernel_rfl) FU_nil
noncomputable def T86 (k : Nat) : List (Nat × Ent) := (74, ⟨z88_e k⟩) :: T85 k
theorem T86_ok (k : Nat) : TabOK P GL (T86 k) := (T85_ok k).cons (z88_fu k) (z88_n k)
/-! ### overspill.overspillref19.Of -/
noncomputable def z89U0 (_ : Nat) : List (Nat × Ent) := []
theorem z89U0_k (k : Nat) : UTab (z89U0 k) := UTab.nil
noncomputable def z89u0d : UDef := ⟨[(2, none), (8, none)], [31, 32, 33, 34, 35, 36, 37], [(.normal, [(37, none)])], []⟩
noncomputable def z89u0p : XPat := ⟨.normal, [(.tv (.int .i64)), (.tv (.int .i64))], []⟩
noncomputable def z89u0x : List XPat := [⟨.normal, [(.tv .bool)], []⟩]
noncomputable def overspillref19_Ofu0 (k : Nat) (x0 : Int) (x1 : Int) : Option (Bool) :=
  bif (decide ((0 : Int) < x1)) then
    some (decide (x0 < x1))
  else
  some false
noncomputable def z89u0b : AC :=
  (.region [(iO 31 (.mv (.t 8))),
    (iO 32 (.bin .gtr (.t 31) (nI 0))),
    (iO 33 (.mv (.t 32))),
    ⟨some 34, some (2, 33, true), (.op (.mv (.t 8))), []⟩,
    ⟨some 35, some (2, 33, true), (.op (.mv (.t 2))), []⟩,
    ⟨some 36, some (2, 33, true), (.op (.bin .gtr (.t 34) (.t 35))), []⟩,
    (iO 37 (.pick (.t 33) (.t 36) (.c (.tv .bool (false : Bool)))))])
noncomputable def z89u0t (k : Nat) (d : z89u0p.D) : Option (XD z89u0x) := overspillref19_Ofu0 k d.1 d.2
theorem z89u0_k (k : Nat) : UOK P GL (mkU z89u0p z89u0x (z89u0t k) nilU) z89u0d false z89u0b :=
  unit_typed (ud := z89u0d) (body := z89u0b) (uorc := uorT (z89U0 k)) hmo (T86_ok k).oo (z89U0_k k) (AllU.no (by kernel_rfl)) (fun d => by kernel_rfl)
noncomputable def z89U1 (k : Nat) : List (Nat × Ent) := (0, ⟨mkU z89u0p z89u0x (z89u0t k) nilU⟩) :: z89U0 k
theorem z89U1_k (k : Nat) : UTab (z89U1 k) := (z89U0_k k).cons (mkU_nat nilU_nat)
noncomputable def z89u1d : UDef := ⟨[(0, none), (1, none), (7, none), (8, none), (10, none), (11, none), (37, none)], [38, 39, 40, 41, 42, 43, 44, 45, 46, 47, 48, 49, 50], [(.normal, [])], []⟩
noncomputable def z89u1p : XPat := ⟨.normal, [(.tv (.sl (.arr 2 (.int .i64)))), (.tv (.int .i64)), (.tv (.int .i64)), (.tv (.int .i64)), (.ptr 0 []), (.ptr 1 []), (.tv .bool)], [(.box (.tv (.arr 2 (.int .i64)))), (.box (.tv (.arr 2 (.int .i64))))]⟩
noncomputable def z89u1x : List XPat := [⟨.normal, [], [(.box (.tv (.arr 2 (.int .i64)))), (.box (.tv (.arr 2 (.int .i64))))]⟩]
noncomputable def overspillref19_Ofu1 (k : Nat) (x0 : List (List (Int))) (x1 : Int) (x2 : Int) (x3 : Int) (x4 : Bool) (x5 : List (Int)) (x6 : List (Int)) : Option ((Unit) × ((List (Int)) × (List (Int)))) :=
  bif x4 then
    Option.bind (overspillref19_at k x0 x1 x2 (wr .i64 (x3 - 1))) fun (v398 : List (Int)) =>
    Option.bind (overspillref19_at k x0 x1 (wr .i64 (x2 + 1)) (wr .i64 (x3 - 1))) fun (v399 : List (Int)) =>
    some ((), (v398, v399))
  else
  some ((), (x5, x6))
noncomputable def z89u1b : AC :=
  (.cond (.t 37)
  (.seq (.region [(iO 38 (.mv (.t 0))),
      (iO 39 (.mv (.t 1))),
      (iO 40 (.mv (.t 7))),
      (iO 41 (.mv (.t 8))),
      (iO 42 (.bin .sub (.t 41) (nI 1))),
      (iC 43 73 [((.t 38), some (.sl (.arr 2 (.int .i64)))), ((.t 39), none), ((.t 40), none), ((.t 42), none)]),
      (iS (.store 2 none (.t 10) (.t 43)))])
    (.region [(iO 44 (.mv (.t 0))),
      (iO 45 (.mv (.t 1))),
      (iO 46 (.mv (.t 7))),
      (iO 47 (.bin .add (.t 46) (nI 1))),
      (iO 48 (.mv (.t 8))),
      (iO 49 (.bin .sub (.t 48) (nI 1))),
      (iC 50 73 [((.t 44), some (.sl (.arr 2 (.int .i64)))), ((.t 45), none), ((.t 47), none), ((.t 49), none)]),
      (iS (.store 2 none (.t 11) (.t 50)))]))
  .skip)
noncomputable def z89u1t (k : Nat) (d : z89u1p.D) : Option (XD z89u1x) := overspillref19_Ofu1 k d.1.1 d.1.2.1 d.1.2.2.1 d.1.2.2.2.1 d.1.2.2.2.2.2.2 d.2.1 d.2.2
theorem z89u1_k (k : Nat) : UOK P GL (mkU z89u1p z89u1x (z89u1t k) nilU) z89u1d false z89u1b :=
  unit_typed (ud := z89u1d) (body := z89u1b) (uorc := uorT (z89U1 k)) hmo (T86_ok k).oo (z89U1_k k) (AllU.no (by kernel_rfl)) (fun d => by kernel_rfl)
noncomputable def z89U2 (k : Nat) : List (Nat × Ent) := (1, ⟨mkU z89u1p z89u1x (z89u1t k) nilU⟩) :: z89U1 k
theorem z89U2_k (k : Nat) : UTab (z89U2 k) := (z89U1_k k).cons (mkU_nat nilU_nat)
noncomputable def overspillref19_Of (k : Nat) (x0 : List (List (Int))) (x1 : Int) (x2 : Int) : Option (List (Int)) :=
  bif (decide (x1 < 1)) then
    some (Ty.zero (.arr 2 (.int .i64)))
  else
  bif (decide (x1 = 0)) then
    none
  else
  bif (decide (x1 = 0)) then
    none
  else
  Option.bind (overspillref19_at k x0 x1 (wr .i64 ((Int.tmod ((List.length x0 : Nat) : Int) x1) - 1)) (wr .i64 (Int.tdiv ((List.length x0 : Nat) : Int) x1))) fun (v394 : List (Int)) =>
  Option.bind (overspillref19_Ofu0 k x2 (wr .i64 (Int.tdiv ((List.length x0 : Nat) : Int) x1))) fun (v395 : Bool) =>
  Option.bind (overspillref19_Ofu1 k x0 x1 (Int.tmod ((List.length x0 : Nat) : Int) x1) (wr .i64 (Int.tdiv ((List.length x0 : Nat) : Int) x1)) v395 v394 v394) fun (v400 : (Unit) × ((List (Int)) × (List (Int)))) =>
  Option.bind (overspillref01_Middle k (List.getD v394 0 0) (List.getD v400.2.1 0 0) (List.getD v400.2.2 0 0)) fun (v402 : Int) =>
  Option.bind (overspillref01_Middle k (List.getD v394 1 0) (List.getD v400.2.1 1 0) (List.getD v400.2.2 1 0)) fun (v403 : Int) =>
  some (List.set (List.set (Ty.zero (.arr 2 (.int .i64))) 0 v402) 1 v403)
noncomputable def z89b : AC :=
  (.seq (.region [(iO 6 (.alloc 42 (.tv (.arr 2 (.int .i64)))))])
  (.seq (.seq (.region [(iO 12 (.mv (.t 1))),
    (iO 13 (.bin .lss (.t 12) (nI 1)))])
  (.cond (.t 13)
  (.seq (.region [(iO 14 (.build 42 (.tv (.arr 2 (.int .i64))) [])),
      (iS (.store 2 none (.t 6) (.t 14)))])
    .ret)
  .skip))
  (.seq (.region [(iO 15 (.mv (.t 0))),
    (iO 16 (.len (.t 15))),
    (iO 17 (.mv (.t 1))),
    (iO 18 (.bin .rem (.t 16) (.t 17))),
    (iO 7 (.mv (.t 18)))])
  (.seq (.region [(iO 19 (.mv (.t 0))),
    (iO 20 (.len (.t 19))),
    (iO 21 (.mv (.t 1))),
    (iO 22 (.bin .quo (.t 20) (.t 21))),
    (iO 8 (.mv (.t 22)))])
  (.seq (.region [(iO 23 (.mv (.t 0))),
    (iO 24 (.mv (.t 1))),
    (iO 25 (.mv (.t 7))),
    (iO 26 (.bin .sub (.t 25) (nI 1))),
    (iO 27 (.mv (.t 8))),
    (iC 28 73 [((.t 23), some (.sl (.arr 2 (.int .i64)))), ((.t 24), none), ((.t 26), none), ((.t 27), none)]),
    (iO 9 (.alloc 42 (.tv (.arr 2 (.int .i64))))),
    (iS (.store 2 none (.t 9) (.t 28)))])
  (.seq (.region [(iO 29 (.load true 2 (.t 9))),
    (iO 10 (.alloc 42 (.tv (.arr 2 (.int .i64))))),
    (iS (.store 2 none (.t 10) (.t 29)))])
  (.seq (.region [(iO 30 (.load true 2 (.t 9))),
    (iO 11 (.alloc 42 (.tv (.arr 2 (.int .i64))))),
    (iS (.store 2 none (.t 11) (.t 30)))])
  (.seq (.seq (.unit 0 z89u0d false z89u0b)
  (.unit 1 z89u1d false z89u1b))
  (.seq (.draw [(iO 51 (.iad 2 1 (.t 9) (nI 0))),
    (iOa 52 (.load false 1 (.t 51)) [0]),
    (iO 53 (.iad 2 1 (.t 10) (nI 0))),
    (iOa 54 (.load false 1 (.t 53)) [2]),
    (iO 55 (.iad 2 1 (.t 11) (nI 0))),
    (iOa 56 (.load false 1 (.t 55)) [4]),
    (iCa 57 74 [((.t 52), none), ((.t 54), none), ((.t 56), none)] (rg [0, 6])),
    (iO 58 (.iad 2 1 (.t 9) (nI 1))),
    (iOa 59 (.load false 1 (.t 58)) [7]),
    (iO 60 (.iad 2 1 (.t 10) (nI 1))),
    (iOa 61 (.load false 1 (.t 60)) [9]),
    (iO 62 (.iad 2 1 (.t 11) (nI 1))),
    (iOa 63 (.load false 1 (.t 62)) [11]),
    (iCa 64 74 [((.t 59), none), ((.t 61), none), ((.t 63), none)] (rg [0, 13])),
    (iOa 65 (.build 42 (.tv (.arr 2 (.int .i64))) [(0, (.idx 0 2 1), 1, (.t 57)), (1, (.idx 1 2 1), 1, (.t 64))]) (rg [0, 14])),
    (iSa (.store 2 none (.t 6) (.t 65)) (rg [0, 15]))])
  .ret)))))))))
noncomputable def z89f : FDef := ⟨3, 66, [.cell 6 2 true (some (.arr 2 (.int .i64)))], z89b⟩
noncomputable def z89p : XPat := ⟨.normal, [(.tv (.sl (.arr 2 (.int .i64)))), (.tv (.int .i64)), (.tv (.int .i64))], []⟩
noncomputable def z89x : List XPat := [⟨.ret, [(.tv (.arr 2 (.int .i64)))], []⟩]
noncomputable def z89t (k : Nat) (d : z89p.D) : Option (XD z89x) := overspillref19_Of k d.1 d.2.1 d.2.2
noncomputable def z89_e (k : Nat) : UEntry := mkU z89p z89x (z89t k) nilU
theorem z89_n (k : Nat) : UNat (z89_e k) := mkU_nat nilU_nat
theorem z89_fu (k : Nat) : FU P GL 39 (z89_e k) :=
  fn_typed (uorc := uorT (z89U2 k)) hmo (T86_ok k).oo (z89U2_k k) (fd := z89f) (AllU.seq (AllU.no (by kernel_rfl)) (AllU.seq (AllU.no (by kernel_rfl)) (AllU.seq (AllU.no (by kernel_rfl)) (AllU.seq (AllU.no (by kernel_rfl)) (AllU.seq (AllU.no (by kernel_rfl)) (AllU.seq (AllU.no (by kernel_rfl)) (AllU.seq (AllU.no (by kernel_rfl)) (AllU.seq (AllU.seq (AllU.unit (uorc := uorT (z89U2 k)) (u := 0) (z89u0_k k)) (AllU.unit (uorc := uorT (z89U2 k)) (u := 1) (z89u1_k k))) (AllU.no (by kernel_rfl)))))))))) (fn := Tryz.f39) (by kernel_rfl) (by kernel_rfl) (fun d => by kernel_rfl) FU_nil
noncomputable def T87 (k : Nat) : List (Nat × Ent) := (39, ⟨z89_e k⟩) :: T86 k
theorem T87_ok (k : Nat) : TabOK P GL (T87 k) := (T86_ok k).cons (z89_fu k) (z89_n k)
/-! ### overspill.overspillref06.rows -/
noncomputable def z90U0 (_ : Nat) : List (Nat × Ent) := []
theorem z90U0_k (k : Nat) : UTab (z90U0 k) := UTab.nil
noncomputable def overspillref06_rows (k : Nat) (x0 : Bool) : Option (List (List UInt8)) :=
  bif x0 then
    some ([([49] : List UInt8), ([48, 48, 49, 49] : List UInt8), ([48, 48, 49, 48] : List UInt8), ([48, 48, 48, 49, 48, 49] : List UInt8), ([48, 49, 49] : List UInt8), ([48, 48, 48, 48, 49, 49, 49] : List UInt8), ([48, 48, 48, 48, 49, 49, 48] : List UInt8), ([48, 48, 48, 48, 48, 48, 49, 48, 49] : List UInt8), ([48, 49, 48] : List UInt8), ([48, 48, 48, 48, 49, 48, 49] : List UInt8), ([48, 48, 48, 48, 49, 48, 48] : List UInt8), ([48, 48, 48, 48, 48, 49, 48, 49] : List UInt8), ([48, 48, 48, 49, 49] : List UInt8), ([48, 48, 48, 48, 48, 49, 48, 48] : List UInt8), ([48, 48, 48, 48, 48, 48, 49, 49] : List UInt8), ([48, 48, 48, 48, 48, 49, 49] : List UInt8), ([48, 48, 48, 49, 48, 48] : List UInt8), ([48, 48, 48, 48, 48, 48, 49, 48, 48] : List UInt8), ([48, 48, 48, 48, 48, 48, 48, 49, 49] : List UInt8), ([48, 48, 48, 48, 48, 48, 48, 49, 48] : List UInt8), ([48, 48, 48, 48, 48, 48, 48, 48, 49] : List UInt8)] : List (List UInt8))
  else
  some ([([] : List UInt8), ([] : List UInt8), ([] : List UInt8), ([] : List UInt8), ([] : List UInt8), ([] : List UInt8), ([] : List UInt8), ([] : List UInt8), ([] : List UInt8), ([] : List UInt8), ([] : List UInt8), ([] : List UInt8), ([49] : List UInt8), ([48, 48, 49] : List UInt8), ([48, 49, 48] : List UInt8), ([48, 49, 49] : List UInt8), ([48, 48, 48, 49] : List UInt8), ([48, 48, 48, 48, 48, 49] : List UInt8), ([48, 48, 48, 48, 49, 48] : List UInt8), ([48, 48, 48, 48, 49, 49] : List UInt8), ([48, 48, 48, 48, 48, 48, 48, 48, 49] : List UInt8)] : List (List UInt8))
noncomputable def z90b : AC :=
  (.seq (.region [(iO 2 (.nrow .str))])
  (.seq (.seq (.region [(iO 3 (.mv (.t 0)))])
  (.cond (.t 3)
  (.seq (.region [(iO 4 (.bslice .str [(.c (.tv .str (([49] : List UInt8) : List UInt8))), (.c (.tv .str (([48, 48, 49, 49] : List UInt8) : List UInt8))), (.c (.tv .str (([48, 48, 49, 48] : List UInt8) : List UInt8))), (.c (.tv .str (([48, 48, 48, 49, 48, 49] : List UInt8) : List UInt8))), (.c (.tv .str (([48, 49, 49] : List UInt8) : List UInt8))), (.c (.tv .str (([48, 48, 48, 48, 49, 49, 49] : List UInt8) : List UInt8))), (.c (.tv .str (([48, 48, 48, 48, 49, 49, 48] : List UInt8) : List UInt8))), (.c (.tv .str (([48, 48, 48, 48, 48, 48, 49, 48, 49] : List UInt8) : List UInt8))), (.c (.tv .str (([48, 49, 48] : List UInt8) : List UInt8))), (.c (.tv .str (([48, 48, 48, 48, 49, 48, 49] : List UInt8) : List UInt8))), (.c (.tv .str (([48, 48, 48, 48, 49, 48, 48] : List UInt8) : List UInt8))), (.c (.tv .str (([48, 48, 48, 48, 48, 49, 48, 49] : List UInt8) : List UInt8))), (.c (.tv .str (([48, 48, 48, 49, 49] : List UInt8) : List UInt8))), (.c (.tv .str (([48, 48, 48, 48, 48, 49, 48, 48] : List UInt8) : List UInt8))), (.c (.tv .str (([48, 48, 48, 48, 48, 48, 49, 49] : List UInt8) : List UInt8))), (.c (.tv .str (([48, 48, 48, 48, 48, 49, 49] : List UInt8) : List UInt8))), (.c (.tv .str (([48, 48, 48, 49, 48, 48] : List UInt8) : List UInt8))), (.c (.tv .str (([48, 48, 48, 48, 48, 48, 49, 48, 48] : List UInt8) : List UInt8))), (.c (.tv .str (([48, 48, 48, 48, 48, 48, 48, 49, 49] : List UInt8) : List UInt8))), (.c (.tv .str (([48, 48, 48, 48, 48, 48, 48, 49, 48] : List UInt8) : List UInt8))), (.c (.tv .str (([48, 48, 48, 48, 48, 48, 48, 48, 49] : List UInt8) : List UInt8)))])),
      (iO 2 (.mv (.t 4)))])
    .ret)
  .skip))
  (.seq (.region [(iO 5 (.bslice .str [(.c (.tv .str (([] : List UInt8) : List UInt8))), (.c (.tv .str (([] : List UInt8) : List UInt8))), (.c (.tv .str (([] : List UInt8) : List UInt8))), (.c (.tv .str (([] : List UInt8) : List UInt8))), (.c (.tv .str (([] : List UInt8) : List UInt8))), (.c (.tv .str (([] : List UInt8) : List UInt8))), (.c (.tv .str (([] : List UInt8) : List UInt8))), (.c (.tv .str (([] : List UInt8) : List UInt8))), (.c (.tv .str (([] : List UInt8) : List UInt8))), (.c (.tv .str (([] : List UInt8) : List UInt8))), (.c (.tv .str (([] : List UInt8) : List UInt8))), (.c (.tv .str (([] : List UInt8) : List UInt8))), (.c (.tv .str (([49] : List UInt8) : List UInt8))), (.c (.tv .str (([48, 48, 49] : List UInt8) : List UInt8))), (.c (.tv .str (([48, 49, 48] : List UInt8) : List UInt8))), (.c (.tv .str (([48, 49, 49] : List UInt8) : List UInt8))), (.c (.tv .str (([48, 48, 48, 49] : List UInt8) : List UInt8))), (.c (.tv .str (([48, 48, 48, 48, 48, 49] : List UInt8) : List UInt8))), (.c (.tv .str (([48, 48, 48, 48, 49, 48] : List UInt8) : List UInt8))), (.c (.tv .str (([48, 48, 48, 48, 49, 49] : List UInt8) : List UInt8))), (.c (.tv .str (([48, 48, 48, 48, 48, 48, 48, 48, 49] : List UInt8) : List UInt8)))])),
    (iO 2 (.mv (.t 5)))])
  .ret)))
noncomputable def z90f : FDef := ⟨1, 6, [.tmp 2 (some (.sl .str))], z90b⟩
noncomputable def z90p : XPat := ⟨.normal, [(.tv .bool)], []⟩
noncomputable def z90x : List XPat := [⟨.ret, [(.tv (.sl .str))], []⟩]
noncomputable def z90t (k : Nat) (d : z90p.D) : Option (XD z90x) := overspillref06_rows k d
noncomputable def z90_e (k : Nat) : UEntry := mkU z90p z90x (z90t k) nilU
theorem z90_n (k : Nat) : UNat (z90_e k) := mkU_nat nilU_nat
theorem z90_fu (k : Nat) : FU P GL 88 (z90_e k) :=
  fn_typed (uorc := uorT (z90U0 k)) hmo (T87_ok k).oo (z90U0_k k) (fd := z90f) (AllU.no (by kernel_rfl)) (fn := Tryz.f88) (by kernel_rfl) (by kernel_rfl) (fun d => by kernel_rfl) FU_nil
noncomputable def T88 (k : Nat) : List (Nat × Ent) := (88, ⟨z90_e k⟩) :: T87 k
theorem T88_ok (k : Nat) : TabOK P GL (T88 k) := (T87_ok k).cons (z90_fu k) (z90_n k)
/-! ### overspill.overspillref06.Row -/
noncomputable def z91U0 (_ : Nat) : List (Nat × Ent) := []
theorem z91U0_k (k : Nat) : UTab (z91U0 k) := UTab.nil
noncomputable def z91u0d : UDef := ⟨[(1, none), (2, none)], [7, 8, 9, 10, 11, 12, 13, 14, 15, 16, 17, 18, 19, 20, 21, 22, 23, 24, 25, 26, 27, 28], [(.normal, [(28, none)])], []⟩
noncomputable def z91u0p : XPat := ⟨.normal, [(.tv (.int .i64)), (.tv (.int .i64))], []⟩
noncomputable def z91u0x : List XPat := [⟨.normal, [(.tv .bool)], []⟩]
noncomputable def overspillref06_Rowu0 (k : Nat) (x0 : Int) (x1 : Int) : Option (Bool) :=
  bif (decide (x0 < 0)) then
    some true
  else
  bif (decide ((5 : Int) < x0)) then
    some true
  else
  bif (decide (x1 < 0)) then
    some true
  else
  bif (decide ((3 : Int) < x1)) then
    some true
  else
  bif (decide (x0 = 5)) then
    some (decide ((0 : Int) < x1))
  else
  some false
noncomputable def z91u0b : AC :=
  (.region [(iO 7 (.mv (.t 1))),
    (iO 8 (.bin .lss (.t 7) (nI 0))),
    (iO 9 (.mv (.t 8))),
    ⟨some 10, some (2, 9, false), (.op (.mv (.t 1))), []⟩,
    ⟨some 11, some (2, 9, false), (.op (.bin .gtr (.t 10) (nI 5))), []⟩,
    (iO 12 (.pick (.t 9) (.c (.tv .bool (true : Bool))) (.t 11))),
    (iO 13 (.mv (.t 12))),
    ⟨some 14, some (6, 13, false), (.op (.mv (.t 2))), []⟩,
    ⟨some 15, some (6, 13, false), (.op (.bin .lss (.t 14) (nI 0))), []⟩,
    (iO 16 (.pick (.t 13) (.c (.tv .bool (true : Bool))) (.t 15))),
    (iO 17 (.mv (.t 16))),
    ⟨some 18, some (10, 17, false), (.op (.mv (.t 2))), []⟩,
    ⟨some 19, some (10, 17, false), (.op (.bin .gtr (.t 18) (nI 3))), []⟩,
    (iO 20 (.pick (.t 17) (.c (.tv .bool (true : Bool))) (.t 19))),
    (iO 21 (.mv (.t 20))),
    ⟨some 22, some (14, 21, false), (.op (.mv (.t 1))), []⟩,
    ⟨some 23, some (14, 21, false), (.op (.bin .eql (.t 22) (nI 5))), []⟩,
    ⟨some 24, some (14, 21, false), (.op (.mv (.t 23))), []⟩,
    ⟨some 25, some (17, 24, true), (.op (.mv (.t 2))), []⟩,
    ⟨some 26, some (17, 24, true), (.op (.bin .gtr (.t 25) (nI 0))), []⟩,
    ⟨some 27, some (14, 21, false), (.op (.pick (.t 24) (.t 26) (.c (.tv .bool (false : Bool))))), []⟩,
    (iO 28 (.pick (.t 21) (.c (.tv .bool (true : Bool))) (.t 27)))])
noncomputable def z91u0t (k : Nat) (d : z91u0p.D) : Option (XD z91u0x) := overspillref06_Rowu0 k d.1 d.2
theorem z91u0_k (k : Nat) : UOK P GL (mkU z91u0p z91u0x (z91u0t k) nilU) z91u0d false z91u0b :=
  unit_typed (ud := z91u0d) (body := z91u0b) (uorc := uorT (z91U0 k)) hmo (T88_ok k).oo (z91U0_k k) (AllU.no (by kernel_rfl)) (fun d => by kernel_rfl)
noncomputable def z91U1 (k : Nat) : List (Nat × Ent) := (0, ⟨mkU z91u0p z91u0x (z91u0t k) nilU⟩) :: z91U0 k
theorem z91U1_k (k : Nat) : UTab (z91U1 k) := (z91U0_k k).cons (mkU_nat nilU_nat)
noncomputable def overspillref06_Row (k : Nat) (x0 : Bool) (x1 : Int) (x2 : Int) : Option (List UInt8) :=
  Option.bind (overspillref06_Rowu0 k x1 x2) fun (v406 : Bool) =>
  bif v406 then
    some ([] : List UInt8)
  else
  Option.bind (overspillref06_rows k x0) fun (v407 : List (List UInt8)) =>
  bif (inR (wr .i64 ((wr .i64 (4 * x1)) + x2)) (List.length v407)) then
    some (List.getD v407 (Int.toNat (wr .i64 ((wr .i64 (4 * x1)) + x2))) ([] : List UInt8))
  else
    none
noncomputable def z91b : AC :=
  (.seq (.region [(iO 6 (.mv (.c (.tv .str (([] : List UInt8) : List UInt8)))))])
  (.seq (.seq (.unit 0 z91u0d false z91u0b)
  (.cond (.t 28)
  (.seq (.region [(iO 6 (.mv (.c (.tv .str (([] : List UInt8) : List UInt8)))))])
    .ret)
  .skip))
  (.seq (.region [(iO 29 (.mv (.t 0))),
    (iC 30 88 [((.t 29), none)]),
    (iO 31 (.mv (.t 1))),
    (iO 32 (.bin .mul (nI 4) (.t 31))),
    (iO 33 (.mv (.t 2))),
    (iO 34 (.bin .add (.t 32) (.t 33))),
    (iO 35 (.iads .str (.t 30) (.t 34))),
    (iO 36 (.load false 1 (.t 35))),
    (iO 6 (.mv (.t 36)))])
  .ret)))
noncomputable def z91f : FDef := ⟨3, 37, [.tmp 6 none], z91b⟩
noncomputable def z91p : XPat := ⟨.normal, [(.tv .bool), (.tv (.int .i64)), (.tv (.int .i64))], []⟩
noncomputable def z91x : List XPat := [⟨.ret, [(.tv .str)], []⟩]
noncomputable def z91t (k : Nat) (d : z91p.D) : Option (XD z91x) := overspillref06_Row k d.1 d.2.1 d.2.2
noncomputable def z91_e (k : Nat) : UEntry := mkU z91p z91x (z91t k) nilU
theorem z91_n (k : Nat) : UNat (z91_e k) := mkU_nat nilU_nat
theorem z91_fu (k : Nat) : FU P GL 67 (z91_e k) :=
  fn_typed (uorc := uorT (z91U1 k)) hmo (T88_ok k).oo (z91U1_k k) (fd := z91f) (AllU.seq (AllU.no (by kernel_rfl)) (AllU.seq (AllU.seq (AllU.unit (uorc := uorT (z91U1 k)) (u := 0) (z91u0_k k)) (AllU.no (by kernel_rfl))) (AllU.no (by kernel_rfl)))) (fn := Tryz.f67) (by kernel_rfl) (by kernel_rfl) (fun d => by kernel_rfl) FU_nil
noncomputable def T89 (k : Nat) : List (Nat × Ent) := (67, ⟨z91_e k⟩) :: T88 k
theorem T89_ok (k : Nat) : TabOK P GL (T89 k) := (T88_ok k).cons (z91_fu k) (z91_n k)
/-! ### overspill.overspillref07.rows -/
noncomputable def z92U0 (_ : Nat) : List (Nat × Ent) := []
theorem z92U0_k (k : Nat) : UTab (z92U0 k) := UTab.nil
noncomputable def overspillref07_rows (k : Nat) : Option (List (List UInt8)) :=
  some ([([49, 49] : List UInt8), ([48, 49, 49, 48] : List UInt8), ([49, 48, 48, 48] : List UInt8), ([48, 49, 48, 48] : List UInt8), ([49, 48, 49, 48] : List UInt8), ([48, 49, 48, 49] : List UInt8), ([48, 48, 48, 48, 49, 49] : List UInt8), ([48, 48, 48, 49, 48] : List UInt8), ([49, 48, 49, 49] : List UInt8), ([48, 48, 48, 48, 49, 48] : List UInt8), ([48, 49, 49, 49] : List UInt8), ([48, 48, 48, 49, 49] : List UInt8), ([49, 48, 48, 49] : List UInt8), ([48, 48, 49, 48, 48] : List UInt8), ([48, 48, 49, 48, 49] : List UInt8), ([48, 48, 49, 49] : List UInt8)] : List (List UInt8))
noncomputable def z92b : AC :=
  (.seq (.region [(iO 0 (.nrow .str))])
  (.seq (.region [(iO 1 (.bslice .str [(.c (.tv .str (([49, 49] : List UInt8) : List UInt8))), (.c (.tv .str (([48, 49, 49, 48] : List UInt8) : List UInt8))), (.c (.tv .str (([49, 48, 48, 48] : List UInt8) : List UInt8))), (.c (.tv .str (([48, 49, 48, 48] : List UInt8) : List UInt8))), (.c (.tv .str (([49, 48, 49, 48] : List UInt8) : List UInt8))), (.c (.tv .str (([48, 49, 48, 49] : List UInt8) : List UInt8))), (.c (.tv .str (([48, 48, 48, 48, 49, 49] : List UInt8) : List UInt8))), (.c (.tv .str (([48, 48, 48, 49, 48] : List UInt8) : List UInt8))), (.c (.tv .str (([49, 48, 49, 49] : List UInt8) : List UInt8))), (.c (.tv .str (([48, 48, 48, 48, 49, 48] : List UInt8) : List UInt8))), (.c (.tv .str (([48, 49, 49, 49] : List UInt8) : List UInt8))), (.c (.tv .str (([48, 48, 48, 49, 49] : List UInt8) : List UInt8))), (.c (.tv .str (([49, 48, 48, 49] : List UInt8) : List UInt8))), (.c (.tv .str (([48, 48, 49, 48, 48] : List UInt8) : List UInt8))), (.c (.tv .str (([48, 48, 49, 48, 49] : List UInt8) : List UInt8))), (.c (.tv .str (([48, 48, 49, 49] : List UInt8) : List UInt8)))])),
    (iO 0 (.mv (.t 1)))])
  .ret))
noncomputable def z92f : FDef := ⟨0, 2, [.tmp 0 (some (.sl .str))], z92b⟩
noncomputable def z92p : XPat := ⟨.normal, [], []⟩
noncomputable def z92x : List XPat := [⟨.ret, [(.tv (.sl .str))], []⟩]
noncomputable def z92t (k : Nat) (d : z92p.D) : Option (XD z92x) := overspillref07_rows k
noncomputable def z92_e (k : Nat) : UEntry := mkU z92p z92x (z92t k) nilU
theorem z92_n (k : Nat) : UNat (z92_e k) := mkU_nat nilU_nat
theorem z92_fu (k : Nat) : FU P GL 89 (z92_e k) :=
  fn_typed (uorc := uorT (z92U0 k)) hmo (T89_ok k).oo (z92U0_k k) (fd := z92f) (AllU.no (by kernel_rfl)) (fn := Tryz.f89) (by kernel_rfl) (by kernel_rfl) (fun d => by kernel_rfl) FU_nil
noncomputable def T90 (k : Nat) : List (Nat × Ent) := (89, ⟨z92_e k⟩) :: T89 k
theorem T90_ok (k : Nat) : TabOK P GL (T90 k) := (T89_ok k).cons (z92_fu k) (z92_n k)
/-! ### overspill.overspillref07.Row -/
noncomputable def z93U0 (_ : Nat) : List (Nat × Ent) := []
theorem z93U0_k (k : Nat) : UTab (z93U0 k) := UTab.nil
noncomputable def z93u0d : UDef := ⟨[(1, none)], [5, 6, 7, 8, 9, 10], [(.normal, [(10, none)])], []⟩
noncomputable def z93u0p : XPat := ⟨.normal, [(.tv (.int .i64))], []⟩
noncomputable def z93u0x : List XPat := [⟨.normal, [(.tv .bool)], []⟩]
noncomputable def overspillref07_Rowu0 (k : Nat) (x0 : Int) : Option (Bool) :=
  bif (decide (x0 < 0)) then
    some true
  else
  some (decide ((15 : Int) < x0))
noncomputable def z93u0b : AC :=
  (.region [(iO 5 (.mv (.t 1))),
    (iO 6 (.bin .lss (.t 5) (nI 0))),
    (iO 7 (.mv (.t 6))),
    ⟨some 8, some (2, 7, false), (.op (.mv (.t 1))), []⟩,
    ⟨some 9, some (2, 7, false), (.op (.bin .gtr (.t 8) (nI 15))), []⟩,
    (iO 10 (.pick (.t 7) (.c (.tv .bool (true : Bool))) (.t 9)))])
noncomputable def z93u0t (k : Nat) (d : z93u0p.D) : Option (XD z93u0x) := overspillref07_Rowu0 k d
theorem z93u0_k (k : Nat) : UOK P GL (mkU z93u0p z93u0x (z93u0t k) nilU) z93u0d false z93u0b :=
  unit_typed (ud := z93u0d) (body := z93u0b) (uorc := uorT (z93U0 k)) hmo (T90_ok k).oo (z93U0_k k) (AllU.no (by kernel_rfl)) (fun d => by kernel_rfl)
noncomputable def z93U1 (k : Nat) : List (Nat × Ent) := (0, ⟨mkU z93u0p z93u0x (z93u0t k) nilU⟩) :: z93U0 k
theorem z93U1_k (k : Nat) : UTab (z93U1 k) := (z93U0_k k).cons (mkU_nat nilU_nat)
noncomputable def z93u1d : UDef := ⟨[(1, none), (11, none)], [1, 12, 13], [(.normal, [(1, none)])], []⟩
noncomputable def z93u1p : XPat := ⟨.normal, [(.tv (.int .i64)), (.tv .bool)], []⟩
noncomputable def z93u1x : List XPat := [⟨.normal, [(.tv (.int .i64))], []⟩]
noncomputable def overspillref07_Rowu1 (k : Nat) (x0 : Int) (x1 : Bool) : Option (Int) :=
  bif x1 then
    some (wr .i64 (15 - x0))
  else
  some x0
noncomputable def z93u1b : AC :=
  (.cond (.t 11)
  (.region [(iO 12 (.mv (.t 1))),
      (iO 13 (.bin .sub (nI 15) (.t 12))),
      (iO 1 (.mv (.t 13)))])
  .skip)
noncomputable def z93u1t (k : Nat) (d : z93u1p.D) : Option (XD z93u1x) := overspillref07_Rowu1 k d.1 d.2
theorem z93u1_k (k : Nat) : UOK P GL (mkU z93u1p z93u1x (z93u1t k) nilU) z93u1d false z93u1b :=
  unit_typed (ud := z93u1d) (body := z93u1b) (uorc := uorT (z93U1 k)) hmo (T90_ok k).oo (z93U1_k k) (AllU.no (by kernel_rfl)) (fun d => by kernel_rfl)
noncomputable def z93U2 (k : Nat) : List (Nat × Ent) := (1, ⟨mkU z93u1p z93u1x (z93u1t k) nilU⟩) :: z93U1 k
theorem z93U2_k (k : Nat) : UTab (z93U2 k) := (z93U1_k k).cons (mkU_nat nilU_nat)
noncomputable def overspillref07_Row (k : Nat) (x0 : Bool) (x1 : Int) : Option (List UInt8) :=
  Option.bind (overspillref07_Rowu0 k x1) fun (v416 : Bool) =>
  bif v416 then
    some ([] : List UInt8)
  else
  Option.bind (overspillref07_Rowu1 k x1 x0) fun (v417 : Int) =>
  Option.bind (overspillref07_rows k) fun (v418 : List (List UInt8)) =>
  bif (inR v417 (List.length v418)) then
    some (List.getD v418 (Int.toNat v417) ([] : List UInt8))
  else
    none
noncomputable def z93b : AC :=
  (.seq (.region [(iO 4 (.mv (.c (.tv .str (([] : List UInt8) : List UInt8)))))])
  (.seq (.seq (.unit 0 z93u0d false z93u0b)
  (.cond (.t 10)
  (.seq (.region [(iO 4 (.mv (.c (.tv .str (([] : List UInt8) : List UInt8)))))])
    .ret)
  .skip))
  (.seq (.seq (.region [(iO 11 (.mv (.t 0)))])
  (.unit 1 z93u1d false z93u1b))
  (.seq (.region [(iC 14 89 []),
    (iO 15 (.mv (.t 1))),
    (iO 16 (.iads .str (.t 14) (.t 15))),
    (iO 17 (.load false 1 (.t 16))),
    (iO 4 (.mv (.t 17)))])
  .ret))))
noncomputable def z93f : FDef := ⟨2, 18, [.tmp 4 none], z93b⟩
noncomputable def z93p : XPat := ⟨.normal, [(.tv .bool), (.tv (.int .i64))], []⟩
noncomputable def z93x : List XPat := [⟨.ret, [(.tv .str)], []⟩]
noncomputable def z93t (k : Nat) (d : z93p.D) : Option (XD z93x) := overspillref07_Row k d.1 d.2
noncomputable def z93_e (k : Nat) : UEntry := mkU z93p z93x (z93t k) nilU
theorem z93_n (k : Nat) : UNat (z93_e k) := mkU_nat nilU_nat
theorem z93_fu (k : Nat) : FU P GL 68 (z93_e k) :=
  fn_typed (uorc := uorT (z93U2 k)) hmo (T90_ok k).oo (z93U2_k k) (fd := z93f) (AllU.seq (AllU.no (by kernel_rfl)) (AllU.seq (AllU.seq (AllU.unit (uorc := uorT (z93U2 k)) (u := 0) (z93u0_k k)) (AllU.no (by kernel_rfl))) (AllU.seq (AllU.seq (AllU.no (by kernel_rfl)) (AllU.unit (uorc := uorT (z93U2 k)) (u := 1) (z93u1_k k))) (AllU.no (by kernel_rfl))))) (fn := Tryz.f68) (by kernel_rfl) (by kernel_rfl) (fun d => by kernel_rfl) FU_nil
noncomputable def T91 (k : Nat) : List (Nat × Ent) := (68, ⟨z93_e k⟩) :: T90 k
theorem T91_ok (k : Nat) : TabOK P GL (T91 k) := (T90_ok k).cons (z93_fu k) (z93_n k)
/-! ### overspill.overspillref01.Wrap -/
noncomputable def z94U0 (_ : Nat) : List (Nat × Ent) := []
theorem z94U0_k (k : Nat) : UTab (z94U0 k) := UTab.nil
noncomputable def overspillref01_Wrap (k : Nat) (x0 : Int) : Option (Int) :=
  bif (decide ((Int.tmod x0 64) < 0)) then
    bif (decide ((31 : Int) < (wr .i64 ((Int.tmod x0 64) + 64)))) then
      some (wr .i64 ((wr .i64 ((Int.tmod x0 64) + 64)) - 64))
    else
    some (wr .i64 ((Int.tmod x0 64) + 64))
  else
  bif (decide ((31 : Int) < (Int.tmod x0 64))) then
    some (wr .i64 ((Int.tmod x0 64) - 64))
  else
  some (Int.tmod x0 64)
noncomputable def z94b : AC :=
  (.seq (.region [(iO 2 (.mv (nI 0)))])
  (.seq (.region [(iO 4 (.mv (.t 0))),
    (iO 5 (.bin .rem (.t 4) (nI 64))),
    (iO 3 (.mv (.t 5)))])
  (.seq (.seq (.region [(iO 6 (.mv (.t 3))),
    (iO 7 (.bin .lss (.t 6) (nI 0)))])
  (.cond (.t 7)
  (.region [(iO 8 (.mv (.t 3))),
      (iO 9 (.bin .add (.t 8) (nI 64))),
      (iO 3 (.mv (.t 9)))])
  .skip))
  (.seq (.seq (.region [(iO 10 (.mv (.t 3))),
    (iO 11 (.bin .gtr (.t 10) (nI 31)))])
  (.cond (.t 11)
  (.seq (.region [(iO 12 (.mv (.t 3))),
      (iO 13 (.bin .sub (.t 12) (nI 64))),
      (iO 2 (.mv (.t 13)))])
    .ret)
  .skip))
  (.seq (.region [(iO 14 (.mv (.t 3))),
    (iO 2 (.mv (.t 14)))])
  .ret)))))
noncomputable def z94f : FDef := ⟨1, 15, [.tmp 2 none], z94b⟩
noncomputable def z94p : XPat := ⟨.normal, [(.tv (.int .i64))], []⟩
noncomputable def z94x : List XPat := [⟨.ret, [(.tv (.int .i64))], []⟩]
noncomputable def z94t (k : Nat) (d : z94p.D) : Option (XD z94x) := overspillref01_Wrap k d
noncomputable def z94_e (k : Nat) : UEntry := mkU z94p z94x (z94t k) nilU
theorem z94_n (k : Nat) : UNat (z94_e k) := mkU_nat nilU_nat
theorem z94_fu (k : Nat) : FU P GL 71 (z94_e k) :=
  fn_typed (uorc := uorT (z94U0 k)) hmo (T91_ok k).oo (z94U0_k k) (fd := z94f) (AllU.no (by kernel_rfl)) (fn := Tryz.f71) (by kernel_rfl) (by kernel_rfl) (fun d => by kernel_rfl) FU_nil
noncomputable def T92 (k : Nat) : List (Nat × Ent) := (71, ⟨z94_e k⟩) :: T91 k
theorem T92_ok (k : Nat) : TabOK P GL (T92 k) := (T91_ok k).cons (z94_fu k) (z94_n k)
/-! ### overspill.overspillref08.amounts -/
noncomputable def z95U0 (_ : Nat) : List (Nat × Ent) := []
theorem z95U0_k (k : Nat) : UTab (z95U0 k) := UTab.nil
noncomputable def overspillref08_amounts (k : Nat) : Option (List (List UInt8)) :=
  some ([([49] : List UInt8), ([48, 49] : List UInt8), ([48, 48, 49] : List UInt8), ([48, 48, 48, 49] : List UInt8), ([48, 48, 48, 48, 49, 49] : List UInt8), ([48, 48, 48, 48, 49, 48, 49] : List UInt8), ([48, 48, 48, 48, 49, 48, 48] : List UInt8), ([48, 48, 48, 48, 48, 49, 49] : List UInt8), ([48, 48, 48, 48, 48, 49, 48, 49, 49] : List UInt8), ([48, 48, 48, 48, 48, 49, 48, 49, 48] : List UInt8), ([48, 48, 48, 48, 48, 49, 48, 48, 49] : List UInt8), ([48, 48, 48, 48, 48, 49, 48, 48, 48, 49] : List UInt8), ([48, 48, 48, 48, 48, 49, 48, 48, 48, 48] : List UInt8), ([48, 48, 48, 48, 48, 48, 49, 49, 49, 49] : List UInt8), ([48, 48, 48, 48, 48, 48, 49, 49, 49, 48] : List UInt8), ([48, 48, 48, 48, 48, 48, 49, 49, 48, 49] : List UInt8), ([48, 48, 48, 48, 48, 48, 49, 49, 48, 48] : List UInt8), ([48, 48, 48, 48, 48, 48, 49, 48, 49, 49] : List UInt8), ([48, 48, 48, 48, 48, 48, 49, 48, 49, 48] : List UInt8), ([48, 48, 48, 48, 48, 48, 49, 48, 48, 49] : List UInt8), ([48, 48, 48, 48, 48, 48, 49, 48, 48, 48] : List UInt8), ([48, 48, 48, 48, 48, 48, 48, 49, 49, 49] : List UInt8), ([48, 48, 48, 48, 48, 48, 48, 49, 49, 48] : List UInt8), ([48, 48, 48, 48, 48, 48, 48, 49, 48, 49] : List UInt8), ([48, 48, 48, 48, 48, 48, 48, 49, 48, 48] : List UInt8), ([48, 48, 48, 48, 48, 48, 48, 48, 49, 49, 49] : List UInt8), ([48, 48, 48, 48, 48, 48, 48, 48, 49, 49, 48] : List UInt8), ([48, 48, 48, 48, 48, 48, 48, 48, 49, 48, 49] : List UInt8), ([48, 48, 48, 48, 48, 48, 48, 48, 49, 48, 48] : List UInt8), ([48, 48, 48, 48, 48, 48, 48, 48, 48, 49, 49] : List UInt8), ([48, 48, 48, 48, 48, 48, 48, 48, 48, 49, 48] : List UInt8), ([48, 48, 48, 48, 48, 48, 48, 48, 48, 48, 49, 49] : List UInt8), ([48, 48, 48, 48, 48, 48, 48, 48, 48, 48, 49, 48] : List UInt8)] : List (List UInt8))
noncomputable def z95b : AC :=
  (.seq (.region [(iO 0 (.nrow .str))])
  (.seq (.region [(iO 1 (.bslice .str [(.c (.tv .str (([49] : List UInt8) : List UInt8))), (.c (.tv .str (([48, 49] : List UInt8) : List UInt8))), (.c (.tv .str (([48, 48, 49] : List UInt8) : List UInt8))), (.c (.tv .str (([48, 48, 48, 49] : List UInt8) : List UInt8))), (.c (.tv .str (([48, 48, 48, 48, 49, 49] : List UInt8) : List UInt8))), (.c (.tv .str (([48, 48, 48, 48, 49, 48, 49] : List UInt8) : List UInt8))), (.c (.tv .str (([48, 48, 48, 48, 49, 48, 48] : List UInt8) : List UInt8))), (.c (.tv .str (([48, 48, 48, 48, 48, 49, 49] : List UInt8) : List UInt8))), (.c (.tv .str (([48, 48, 48, 48, 48, 49, 48, 49, 49] : List UInt8) : List UInt8))), (.c (.tv .str (([48, 48, 48, 48, 48, 49, 48, 49, 48] : List UInt8) : List UInt8))), (.c (.tv .str (([48, 48, 48, 48, 48, 49, 48, 48, 49] : List UInt8) : List UInt8))), (.c (.tv .str (([48, 48, 48, 48, 48, 49, 48, 48, 48, 49] : List UInt8) : List UInt8))), (.c (.tv .str (([48, 48, 48, 48, 48, 49, 48, 48, 48, 48] : List UInt8) : List UInt8))), (.c (.tv .str (([48, 48, 48, 48, 48, 48, 49, 49, 49, 49] : List UInt8) : List UInt8))), (.c (.tv .str (([48, 48, 48, 48, 48, 48, 49, 49, 49, 48] : List UInt8) : List UInt8))), (.c (.tv .str (([48, 48, 48, 48, 48, 48, 49, 49, 48, 49] : List UInt8) : List UInt8))), (.c (.tv .str (([48, 48, 48, 48, 48, 48, 49, 49, 48, 48] : List UInt8) : List UInt8))), (.c (.tv .str (([48, 48, 48, 48, 48, 48, 49, 48, 49, 49] : List UInt8) : List UInt8))), (.c (.tv .str (([48, 48, 48, 48, 48, 48, 49, 48, 49, 48] : List UInt8) : List UInt8))), (.c (.tv .str (([48, 48, 48, 48, 48, 48, 49, 48, 48, 49] : List UInt8) : List UInt8))), (.c (.tv .str (([48, 48, 48, 48, 48, 48, 49, 48, 48, 48] : List UInt8) : List UInt8))), (.c (.tv .str (([48, 48, 48, 48, 48, 48, 48, 49, 49, 49] : List UInt8) : List UInt8))), (.c (.tv .str (([48, 48, 48, 48, 48, 48, 48, 49, 49, 48] : List UInt8) : List UInt8))), (.c (.tv .str (([48, 48, 48, 48, 48, 48, 48, 49, 48, 49] : List UInt8) : List UInt8))), (.c (.tv .str (([48, 48, 48, 48, 48, 48, 48, 49, 48, 48] : List UInt8) : List UInt8))), (.c (.tv .str (([48, 48, 48, 48, 48, 48, 48, 48, 49, 49, 49] : List UInt8) : List UInt8))), (.c (.tv .str (([48, 48, 48, 48, 48, 48, 48, 48, 49, 49, 48] : List UInt8) : List UInt8))), (.c (.tv .str (([48, 48, 48, 48, 48, 48, 48, 48, 49, 48, 49] : List UInt8) : List UInt8))), (.c (.tv .str (([48, 48, 48, 48, 48, 48, 48, 48, 49, 48, 48] : List UInt8) : List UInt8))), (.c (.tv .str (([48, 48, 48, 48, 48, 48, 48, 48, 48, 49, 49] : List UInt8) : List UInt8))), (.c (.tv .str (([48, 48, 48, 48, 48, 48, 48, 48, 48, 49, 48] : List UInt8) : List UInt8))), (.c (.tv .str (([48, 48, 48, 48, 48, 48, 48, 48, 48, 48, 49, 49] : List UInt8) : List UInt8))), (.c (.tv .str (([48, 48, 48, 48, 48, 48, 48, 48, 48, 48, 49, 48] : List UInt8) : List UInt8)))])),
    (iO 0 (.mv (.t 1)))])
  .ret))
noncomputable def z95f : FDef := ⟨0, 2, [.tmp 0 (some (.sl .str))], z95b⟩
noncomputable def z95p : XPat := ⟨.normal, [], []⟩
noncomputable def z95x : List XPat := [⟨.ret, [(.tv (.sl .str))], []⟩]
noncomputable def z95t (k : Nat) (d : z95p.D) : Option (XD z95x) := overspillref08_amounts k
noncomputable def z95_e (k : Nat) : UEntry := mkU z95p z95x (z95t k) nilU
theorem z95_n (k : Nat) : UNat (z95_e k) := mkU_nat nilU_nat
theorem z95_fu (k : Nat) : FU P GL 90 (z95_e k) :=
  fn_typed (uorc := uorT (z95U0 k)) hmo (T92_ok k).oo (z95U0_k k) (fd := z95f) (AllU.no (by kernel_rfl)) (fn := Tryz.f90) (by kernel_rfl) (by kernel_rfl) (fun d => by kernel_rfl) FU_nil
noncomputable def T93 (k : Nat) : List (Nat × Ent) := (90, ⟨z95_e k⟩) :: T92 k
theorem T93_ok (k : Nat) : TabOK P GL (T93 k) := (T92_ok k).cons (z95_fu k) (z95_n k)
/-! ### overspill.overspillref08.Row -/
noncomputable def z96U0 (_ : Nat) : List (Nat × Ent) := []
theorem z96U0_k (k : Nat) : UTab (z96U0 k) := UTab.nil
noncomputable def z96u0d : UDef := ⟨[(0, none)], [4, 5, 6, 7, 8, 9], [(.normal, [(9, none)])], []⟩
noncomputable def z96u0p : XPat := ⟨.normal, [(.tv (.int .i64))], []⟩
noncomputable def z96u0x : List XPat := [⟨.normal, [(.tv .bool)], []⟩]
noncomputable def overspillref08_Rowu0 (k : Nat) (x0 : Int) : Option (Bool) :=
  bif (decide (x0 < (-32))) then
    some true
  else
  some (decide ((31 : Int) < x0))
noncomputable def z96u0b : AC :=
  (.region [(iO 4 (.mv (.t 0))),
    (iO 5 (.bin .lss (.t 4) (nI (-32)))),
    (iO 6 (.mv (.t 5))),
    ⟨some 7, some (2, 6, false), (.op (.mv (.t 0))), []⟩,
    ⟨some 8, some (2, 6, false), (.op (.bin .gtr (.t 7) (nI 31))), []⟩,
    (iO 9 (.pick (.t 6) (.c (.tv .bool (true : Bool))) (.t 8)))])
noncomputable def z96u0t (k : Nat) (d : z96u0p.D) : Option (XD z96u0x) := overspillref08_Rowu0 k d
theorem z96u0_k (k : Nat) : UOK P GL (mkU z96u0p z96u0x (z96u0t k) nilU) z96u0d false z96u0b :=
  unit_typed (ud := z96u0d) (body := z96u0b) (uorc := uorT (z96U0 k)) hmo (T93_ok k).oo (z96U0_k k) (AllU.no (by kernel_rfl)) (fun d => by kernel_rfl)
noncomputable def z96U1 (k : Nat) : List (Nat × Ent) := (0, ⟨mkU z96u0p z96u0x (z96u0t k) nilU⟩) :: z96U0 k
theorem z96U1_k (k : Nat) : UTab (z96U1 k) := (z96U0_k k).cons (mkU_nat nilU_nat)
noncomputable def overspillref08_Row (k : Nat) (x0 : Int) : Option (List UInt8) :=
  Option.bind (overspillref08_Rowu0 k x0) fun (v424 : Bool) =>
  bif v424 then
    some ([] : List UInt8)
  else
  Option.bind (overspillref08_amounts k) fun (v425 : List (List UInt8)) =>
  bif (decide (x0 < 0)) then
    bif (inR (wr .i64 (0 - x0)) (List.length v425)) then
      bif (decide ((List.length (List.getD v425 (Int.toNat (wr .i64 (0 - x0))) ([] : List UInt8))) + 1 ≤ strMax)) then
        some ((List.getD v425 (Int.toNat (wr .i64 (0 - x0))) ([] : List UInt8)) ++ ([49] : List UInt8))
      else
        none
    else
      none
  else
  bif (decide ((0 : Int) < x0)) then
    bif (inR x0 (List.length v425)) then
      bif (decide ((List.length (List.getD v425 (Int.toNat x0) ([] : List UInt8))) + 1 ≤ strMax)) then
        some ((List.getD v425 (Int.toNat x0) ([] : List UInt8)) ++ ([48] : List UInt8))
      else
        none
    else
      none
  else
  bif (inR 0 (List.length v425)) then
    some (List.getD v425 0 ([] : List UInt8))
  else
    none
noncomputable def z96b : AC :=
  (.seq (.region [(iO 2 (.mv (.c (.tv .str (([] : List UInt8) : List UInt8)))))])
  (.seq (.seq (.unit 0 z96u0d false z96u0b)
  (.cond (.t 9)
  (.seq (.region [(iO 2 (.mv (.c (.tv .str (([] : List UInt8) : List UInt8)))))])
    .ret)
  .skip))
  (.seq (.region [(iC 10 90 []),
    (iO 3 (.mv (.t 10)))])
  (.seq (.seq (.region [(iO 11 (.mv (.t 0))),
    (iO 12 (.bin .lss (.t 11) (nI 0)))])
  (.cond (.t 12)
  (.seq (.region [(iO 13 (.mv (.t 3))),
      (iO 14 (.mv (.t 0))),
      (iO 15 (.un .neg (.t 14))),
      (iO 16 (.iads .str (.t 13) (.t 15))),
      (iO 17 (.load false 1 (.t 16))),
      (iO 18 (.bin .add (.t 17) (.c (.tv .str (([49] : List UInt8) : List UInt8))))),
      (iO 2 (.mv (.t 18)))])
    .ret)
  .skip))
  (.seq (.seq (.region [(iO 19 (.mv (.t 0))),
    (iO 20 (.bin .gtr (.t 19) (nI 0)))])
  (.cond (.t 20)
  (.seq (.region [(iO 21 (.mv (.t 3))),
      (iO 22 (.mv (.t 0))),
      (iO 23 (.iads .str (.t 21) (.t 22))),
      (iO 24 (.load false 1 (.t 23))),
      (iO 25 (.bin .add (.t 24) (.c (.tv .str (([48] : List UInt8) : List UInt8))))),
      (iO 2 (.mv (.t 25)))])
    .ret)
  .skip))
  (.seq (.region [(iO 26 (.mv (.t 3))),
    (iO 27 (.iads .str (.t 26) (nI 0))),
    (iO 28 (.load false 1 (.t 27))),
    (iO 2 (.mv (.t 28)))])
  .ret))))))
noncomputable def z96f : FDef := ⟨1, 29, [.tmp 2 none], z96b⟩
noncomputable def z96p : XPat := ⟨.normal, [(.tv (.int .i64))], []⟩
noncomputable def z96x : List XPat := [⟨.ret, [(.tv .str)], []⟩]
noncomputable def z96t (k : Nat) (d : z96p.D) : Option (XD z96x) := overspillref08_Row k d
noncomputable def z96_e (k : Nat) : UEntry := mkU z96p z96x (z96t k) nilU
theorem z96_n (k : Nat) : UNat (z96_e k) := mkU_nat nilU_nat
theorem z96_fu (k : Nat) : FU P GL 70 (z96_e k) :=
  fn_typed (uorc := uorT (z96U1 k)) hmo (T93_ok k).oo (z96U1_k k) (fd := z96f) (AllU.seq (AllU.no (by kernel_rfl)) (AllU.seq (AllU.seq (AllU.unit (uorc := uorT (z96U1 k)) (u := 0) (z96u0_k k)) (AllU.no (by kernel_rfl))) (AllU.no (by kernel_rfl)))) (fn := Tryz.f70) (by kernel_rfl) (by kernel_rfl) (fun d => by kernel_rfl) FU_nil
noncomputable def T94 (k : Nat) : List (Nat × Ent) := (70, ⟨z96_e k⟩) :: T93 k
theorem T94_ok (k : Nat) : TabOK P GL (T94 k) := (T93_ok k).cons (z96_fu k) (z96_n k)
/-! ### overspill.overspillref09.amount -/
noncomputable def z97U0 (_ : Nat) : List (Nat × Ent) := []
theorem z97U0_k (k : Nat) : UTab (z97U0 k) := UTab.nil
noncomputable def overspillref09_amount (k : Nat) (x0 : Int) : Option (Int) :=
  bif (decide (x0 < 0)) then
    some (wr .i64 (0 - x0))
  else
  some x0
noncomputable def z97b : AC :=
  (.seq (.region [(iO 2 (.mv (nI 0)))])
  (.seq (.seq (.region [(iO 3 (.mv (.t 0))),
    (iO 4 (.bin .lss (.t 3) (nI 0)))])
  (.cond (.t 4)
  (.seq (.region [(iO 5 (.mv (.t 0))),
      (iO 6 (.un .neg (.t 5))),
      (iO 2 (.mv (.t 6)))])
    .ret)
  .skip))
  (.seq (.region [(iO 7 (.mv (.t 0))),
    (iO 2 (.mv (.t 7)))])
  .ret)))
noncomputable def z97f : FDef := ⟨1, 8, [.tmp 2 none], z97b⟩
noncomputable def z97p : XPat := ⟨.normal, [(.tv (.int .i64))], []⟩
noncomputable def z97x : List XPat := [⟨.ret, [(.tv (.int .i64))], []⟩]
noncomputable def z97t (k : Nat) (d : z97p.D) : Option (XD z97x) := overspillref09_amount k d
noncomputable def z97_e (k : Nat) : UEntry := mkU z97p z97x (z97t k) nilU
theorem z97_n (k : Nat) : UNat (z97_e k) := mkU_nat nilU_nat
theorem z97_fu (k : Nat) : FU P GL 104 (z97_e k) :=
  fn_typed (uorc := uorT (z97U0 k)) hmo (T94_ok k).oo (z97U0_k k) (fd := z97f) (AllU.no (by kernel_rfl)) (fn := Tryz.f104) (by kernel_rfl) (by kernel_rfl) (fun d => by kernel_rfl) FU_nil
noncomputable def T95 (k : Nat) : List (Nat × Ent) := (104, ⟨z97_e k⟩) :: T94 k
theorem T95_ok (k : Nat) : TabOK P GL (T95 k) := (T94_ok k).cons (z97_fu k) (z97_n k)
/-! ### overspill.overspillref09.table -/
noncomputable def z98U0 (_ : Nat) : List (Nat × Ent) := []
theorem z98U0_k (k : Nat) : UTab (z98U0 k) := UTab.nil
noncomputable def overspillref09_table (k : Nat) : Option (List (List UInt8)) :=
  some ([([49, 48, 32, 49, 49, 49, 49, 32, 48, 49, 48, 49, 48, 49, 32, 48, 48, 49, 48, 49, 49, 49, 32, 48, 48, 48, 49, 49, 49, 49, 49, 32, 48, 48, 48, 49, 48, 48, 49, 48, 49, 32, 48, 48, 48, 49, 48, 48, 49, 48, 48, 32, 48, 48, 48, 48, 49, 48, 48, 48, 48, 49, 32, 48, 48, 48, 48, 49, 48, 48, 48, 48, 48, 32, 48, 48, 48, 48, 48, 48, 48, 48, 49, 49, 49, 32, 48, 48, 48, 48, 48, 48, 48, 48, 49, 49, 48, 32, 48, 48, 48, 48, 48, 49, 48, 48, 48, 48, 48] : List UInt8), ([49, 49, 48, 32, 48, 49, 48, 49, 48, 48, 32, 48, 48, 48, 49, 49, 49, 49, 48, 32, 48, 48, 48, 48, 48, 48, 49, 49, 49, 49, 32, 48, 48, 48, 48, 48, 49, 48, 48, 48, 48, 49, 32, 48, 48, 48, 48, 48, 49, 48, 49, 48, 48, 48, 48] : List UInt8), ([49, 49, 49, 48, 32, 48, 48, 48, 49, 49, 49, 48, 49, 32, 48, 48, 48, 48, 48, 48, 49, 49, 49, 48, 32, 48, 48, 48, 48, 48, 49, 48, 49, 48, 48, 48, 49] : List UInt8), ([48, 49, 49, 48, 49, 32, 48, 48, 48, 49, 48, 48, 48, 49, 49, 32, 48, 48, 48, 48, 48, 48, 49, 49, 48, 49] : List UInt8), ([48, 49, 49, 48, 48, 32, 48, 48, 48, 49, 48, 48, 48, 49, 48, 32, 48, 48, 48, 48, 48, 49, 48, 49, 48, 48, 49, 48] : List UInt8), ([48, 49, 48, 49, 49, 32, 48, 48, 48, 48, 48, 48, 49, 49, 48, 48, 32, 48, 48, 48, 48, 48, 49, 48, 49, 48, 48, 49, 49] : List UInt8), ([48, 49, 48, 48, 49, 49, 32, 48, 48, 48, 48, 48, 48, 49, 48, 49, 49, 32, 48, 48, 48, 48, 48, 49, 48, 49, 48, 49, 48, 48] : List UInt8), ([48, 49, 48, 48, 49, 48, 32, 48, 48, 48, 48, 48, 48, 49, 48, 49, 48] : List UInt8), ([48, 49, 48, 48, 48, 49, 32, 48, 48, 48, 48, 48, 48, 49, 48, 48, 49] : List UInt8), ([48, 49, 48, 48, 48, 48, 32, 48, 48, 48, 48, 48, 48, 49, 48, 48, 48] : List UInt8), ([48, 48, 49, 48, 49, 49, 48, 32, 48, 48, 48, 48, 48, 49, 48, 49, 48, 49, 48, 49] : List UInt8), ([48, 48, 49, 48, 49, 48, 49] : List UInt8), ([48, 48, 49, 48, 49, 48, 48] : List UInt8), ([48, 48, 48, 49, 49, 49, 48, 48] : List UInt8), ([48, 48, 48, 49, 49, 48, 49, 49] : List UInt8), ([48, 48, 48, 49, 48, 48, 48, 48, 49] : List UInt8), ([48, 48, 48, 49, 48, 48, 48, 48, 48] : List UInt8), ([48, 48, 48, 48, 49, 49, 49, 49, 49] : List UInt8), ([48, 48, 48, 48, 49, 49, 49, 49, 48] : List UInt8), ([48, 48, 48, 48, 49, 49, 49, 48, 49] : List UInt8), ([48, 48, 48, 48, 49, 49, 49, 48, 48] : List UInt8), ([48, 48, 48, 48, 49, 49, 48, 49, 49] : List UInt8), ([48, 48, 48, 48, 49, 49, 48, 49, 48] : List UInt8), ([48, 48, 48, 48, 48, 49, 48, 48, 48, 49, 48] : List UInt8), ([48, 48, 48, 48, 48, 49, 48, 48, 48, 49, 49] : List UInt8), ([48, 48, 48, 48, 48, 49, 48, 49, 48, 49, 49, 48] : List UInt8), ([48, 48, 48, 48, 48, 49, 48, 49, 48, 49, 49, 49] : List UInt8)] : List (List UInt8))
noncomputable def z98b : AC :=
  (.seq (.region [(iO 0 (.nrow .str))])
  (.seq (.region [(iO 1 (.bslice .str [(.c (.tv .str (([49, 48, 32, 49, 49, 49, 49, 32, 48, 49, 48, 49, 48, 49, 32, 48, 48, 49, 48, 49, 49, 49, 32, 48, 48, 48, 49, 49, 49, 49, 49, 32, 48, 48, 48, 49, 48, 48, 49, 48, 49, 32, 48, 48, 48, 49, 48, 48, 49, 48, 48, 32, 48, 48, 48, 48, 49, 48, 48, 48, 48, 49, 32, 48, 48, 48, 48, 49, 48, 48, 48, 48, 48, 32, 48, 48, 48, 48, 48, 48, 48, 48, 49, 49, 49, 32, 48, 48, 48, 48, 48, 48, 48, 48, 49, 49, 48, 32, 48, 48, 48, 48, 48, 49, 48, 48, 48, 48, 48] : List UInt8) : List UInt8))), (.c (.tv .str (([49, 49, 48, 32, 48, 49, 48, 49, 48, 48, 32, 48, 48, 48, 49, 49, 49, 49, 48, 32, 48, 48, 48, 48, 48, 48, 49, 49, 49, 49, 32, 48, 48, 48, 48, 48, 49, 48, 48, 48, 48, 49, 32, 48, 48, 48, 48, 48, 49, 48, 49, 48, 48, 48, 48] : List UInt8) : List UInt8))), (.c (.tv .str (([49, 49, 49, 48, 32, 48, 48, 48, 49, 49, 49, 48, 49, 32, 48, 48, 48, 48, 48, 48, 49, 49, 49, 48, 32, 48, 48, 48, 48, 48, 49, 48, 49, 48, 48, 48, 49] : List UInt8) : List UInt8))), (.c (.tv .str (([48, 49, 49, 48, 49, 32, 48, 48, 48, 49, 48, 48, 48, 49, 49, 32, 48, 48, 48, 48, 48, 48, 49, 49, 48, 49] : List UInt8) : List UInt8))), (.c (.tv .str (([48, 49, 49, 48, 48, 32, 48, 48, 48, 49, 48, 48, 48, 49, 48, 32, 48, 48, 48, 48, 48, 49, 48, 49, 48, 48, 49, 48] : List UInt8) : List UInt8))), (.c (.tv .str (([48, 49, 48, 49, 49, 32, 48, 48, 48, 48, 48, 48, 49, 49, 48, 48, 32, 48, 48, 48, 48, 48, 49, 48, 49, 48, 48, 49, 49] : List UInt8) : List UInt8))), (.c (.tv .str (([48, 49, 48, 48, 49, 49, 32, 48, 48, 48, 48, 48, 48, 49, 48, 49, 49, 32, 48, 48, 48, 48, 48, 49, 48, 49, 48, 49, 48, 48] : List UInt8) : List UInt8))), (.c (.tv .str (([48, 49, 48, 48, 49, 48, 32, 48, 48, 48, 48, 48, 48, 49, 48, 49, 48] : List UInt8) : List UInt8))), (.c (.tv .str (([48, 49, 48, 48, 48, 49, 32, 48, 48, 48, 48, 48, 48, 49, 48, 48, 49] : List UInt8) : List UInt8))), (.c (.tv .str (([48, 49, 48, 48, 48, 48, 32, 48, 48, 48, 48, 48, 48, 49, 48, 48, 48] : List UInt8) : List UInt8))), (.c (.tv .str (([48, 48, 49, 48, 49, 49, 48, 32, 48, 48, 48, 48, 48, 49, 48, 49, 48, 49, 48, 49] : List UInt8) : List UInt8))), (.c (.tv .str (([48, 48, 49, 48, 49, 48, 49] : List UInt8) : List UInt8))), (.c (.tv .str (([48, 48, 49, 48, 49, 48, 48] : List UInt8) : List UInt8))), (.c (.tv .str (([48, 48, 48, 49, 49, 49, 48, 48] : List UInt8) : List UInt8))), (.c (.tv .str (([48, 48, 48, 49, 49, 48, 49, 49] : List UInt8) : List UInt8))), (.c (.tv .str (([48, 48, 48, 49, 48, 48, 48, 48, 49] : List UInt8) : List UInt8))), (.c (.tv .str (([48, 48, 48, 49, 48, 48, 48, 48, 48] : List UInt8) : List UInt8))), (.c (.tv .str (([48, 48, 48, 48, 49, 49, 49, 49, 49] : List UInt8) : List UInt8))), (.c (.tv .str (([48, 48, 48, 48, 49, 49, 49, 49, 48] : List UInt8) : List UInt8))), (.c (.tv .str (([48, 48, 48, 48, 49, 49, 49, 48, 49] : List UInt8) : List UInt8))), (.c (.tv .str (([48, 48, 48, 48, 49, 49, 49, 48, 48] : List UInt8) : List UInt8))), (.c (.tv .str (([48, 48, 48, 48, 49, 49, 48, 49, 49] : List UInt8) : List UInt8))), (.c (.tv .str (([48, 48, 48, 48, 49, 49, 48, 49, 48] : List UInt8) : List UInt8))), (.c (.tv .str (([48, 48, 48, 48, 48, 49, 48, 48, 48, 49, 48] : List UInt8) : List UInt8))), (.c (.tv .str (([48, 48, 48, 48, 48, 49, 48, 48, 48, 49, 49] : List UInt8) : List UInt8))), (.c (.tv .str (([48, 48, 48, 48, 48, 49, 48, 49, 48, 49, 49, 48] : List UInt8) : List UInt8))), (.c (.tv .str (([48, 48, 48, 48, 48, 49, 48, 49, 48, 49, 49, 49] : List UInt8) : List UInt8)))])),
    (iO 0 (.mv (.t 1)))])
  .ret))
noncomputable def z98f : FDef := ⟨0, 2, [.tmp 0 (some (.sl .str))], z98b⟩
noncomputable def z98p : XPat := ⟨.normal, [], []⟩
noncomputable def z98x : List XPat := [⟨.ret, [(.tv (.sl .str))], []⟩]
noncomputable def z98t (k : Nat) (d : z98p.D) : Option (XD z98x) := overspillref09_table k
noncomputable def z98_e (k : Nat) : UEntry := mkU z98p z98x (z98t k) nilU
theorem z98_n (k : Nat) : UNat (z98_e k) := mkU_nat nilU_nat
theorem z98_fu (k : Nat) : FU P GL 111 (z98_e k) :=
  fn_typed (uorc := uorT (z98U0 k)) hmo (T95_ok k).oo (z98U0_k k) (fd := z98f) (AllU.no (by kernel_rfl)) (fn := Tryz.f111) (by kernel_rfl) (by kernel_rfl) (fun d => by kernel_rfl) FU_nil
noncomputable def T96 (k : Nat) : List (Nat × Ent) := (111, ⟨z98_e k⟩) :: T95 k
theorem T96_ok (k : Nat) : TabOK P GL (T96 k) := (T95_ok k).cons (z98_fu k) (z98_n k)
/-! ### overspill.overspillref09.ends -/
noncomputable def z99U0 (_ : Nat) : List (Nat × Ent) := []
theorem z99U0_k (k : Nat) : UTab (z99U0 k) := UTab.nil
noncomputable def overspillref09_ends (k : Nat) : Option (List (List UInt8)) :=
  some ([([48, 49, 49, 49, 32, 48, 48, 48, 48, 49, 49, 48, 48, 49, 32, 48, 48, 48, 48, 48, 48, 48, 48, 49, 48, 49] : List UInt8), ([48, 48, 49, 49, 49, 49, 32, 48, 48, 48, 48, 48, 48, 48, 48, 49, 48, 48] : List UInt8), ([48, 48, 49, 49, 49, 48] : List UInt8), ([48, 48, 49, 49, 48, 49] : List UInt8), ([48, 48, 49, 49, 48, 48] : List UInt8), ([48, 48, 49, 48, 48, 49, 49] : List UInt8), ([48, 48, 49, 48, 48, 49, 48] : List UInt8), ([48, 48, 49, 48, 48, 48, 49] : List UInt8), ([48, 48, 49, 48, 48, 48, 48] : List UInt8), ([48, 48, 48, 49, 49, 48, 49, 48] : List UInt8), ([48, 48, 48, 49, 49, 48, 48, 49] : List UInt8), ([48, 48, 48, 49, 49, 48, 48, 48] : List UInt8), ([48, 48, 48, 49, 48, 49, 49, 49] : List UInt8), ([48, 48, 48, 49, 48, 49, 49, 48] : List UInt8), ([48, 48, 48, 49, 48, 49, 48, 49] : List UInt8), ([48, 48, 48, 49, 48, 49, 48, 48] : List UInt8), ([48, 48, 48, 49, 48, 48, 49, 49] : List UInt8), ([48, 48, 48, 48, 49, 49, 48, 48, 48] : List UInt8), ([48, 48, 48, 48, 49, 48, 49, 49, 49] : List UInt8), ([48, 48, 48, 48, 49, 48, 49, 49, 48] : List UInt8), ([48, 48, 48, 48, 49, 48, 49, 48, 49] : List UInt8), ([48, 48, 48, 48, 49, 48, 49, 48, 48] : List UInt8), ([48, 48, 48, 48, 49, 48, 48, 49, 49] : List UInt8), ([48, 48, 48, 48, 49, 48, 48, 49, 48] : List UInt8), ([48, 48, 48, 48, 49, 48, 48, 48, 49] : List UInt8), ([48, 48, 48, 48, 48, 48, 48, 49, 49, 49] : List UInt8), ([48, 48, 48, 48, 48, 48, 48, 49, 49, 48] : List UInt8), ([48, 48, 48, 48, 48, 48, 48, 49, 48, 49] : List UInt8), ([48, 48, 48, 48, 48, 48, 48, 49, 48, 48] : List UInt8), ([48, 48, 48, 48, 48, 49, 48, 48, 49, 48, 48] : List UInt8), ([48, 48, 48, 48, 48, 49, 48, 48, 49, 48, 49] : List UInt8), ([48, 48, 48, 48, 48, 49, 48, 48, 49, 49, 48] : List UInt8), ([48, 48, 48, 48, 48, 49, 48, 48, 49, 49, 49] : List UInt8), ([48, 48, 48, 48, 48, 49, 48, 49, 49, 48, 48, 48] : List UInt8), ([48, 48, 48, 48, 48, 49, 48, 49, 49, 48, 48, 49] : List UInt8), ([48, 48, 48, 48, 48, 49, 48, 49, 49, 48, 49, 48] : List UInt8), ([48, 48, 48, 48, 48, 49, 48, 49, 49, 48, 49, 49] : List UInt8), ([48, 48, 48, 48, 48, 49, 48, 49, 49, 49, 48, 48] : List UInt8), ([48, 48, 48, 48, 48, 49, 48, 49, 49, 49, 48, 49] : List UInt8), ([48, 48, 48, 48, 48, 49, 48, 49, 49, 49, 49, 48] : List UInt8), ([48, 48, 48, 48, 48, 49, 48, 49, 49, 49, 49, 49] : List UInt8)] : List (List UInt8))
noncomputable def z99b : AC :=
  (.seq (.region [(iO 0 (.nrow .str))])
  (.seq (.region [(iO 1 (.bslice .str [(.c (.tv .str (([48, 49, 49, 49, 32, 48, 48, 48, 48, 49, 49, 48, 48, 49, 32, 48, 48, 48, 48, 48, 48, 48, 48, 49, 48, 49] : List UInt8) : List UInt8))), (.c (.tv .str (([48, 48, 49, 49, 49, 49, 32, 48, 48, 48, 48, 48, 48, 48, 48, 49, 48, 48] : List UInt8) : List UInt8))), (.c (.tv .str (([48, 48, 49, 49, 49, 48] : List UInt8) : List UInt8))), (.c (.tv .str (([48, 48, 49, 49, 48, 49] : List UInt8) : List UInt8))), (.c (.tv .str (([48, 48, 49, 49, 48, 48] : List UInt8) : List UInt8))), (.c (.tv .str (([48, 48, 49, 48, 48, 49, 49] : List UInt8) : List UInt8))), (.c (.tv .str (([48, 48, 49, 48, 48, 49, 48] : List UInt8) : List UInt8))), (.c (.tv .str (([48, 48, 49, 48, 48, 48, 49] : List UInt8) : List UInt8))), (.c (.tv .str (([48, 48, 49, 48, 48, 48, 48] : List UInt8) : List UInt8))), (.c (.tv .str (([48, 48, 48, 49, 49, 48, 49, 48] : List UInt8) : List UInt8))), (.c (.tv .str (([48, 48, 48, 49, 49, 48, 48, 49] : List UInt8) : List UInt8))), (.c (.tv .str (([48, 48, 48, 49, 49, 48, 48, 48] : List UInt8) : List UInt8))), (.c (.tv .str (([48, 48, 48, 49, 48, 49, 49, 49] : List UInt8) : List UInt8))), (.c (.tv .str (([48, 48, 48, 49, 48, 49, 49, 48] : List UInt8) : List UInt8))), (.c (.tv .str (([48, 48, 48, 49, 48, 49, 48, 49] : List UInt8) : List UInt8))), (.c (.tv .str (([48, 48, 48, 49, 48, 49, 48, 48] : List UInt8) : List UInt8))), (.c (.tv .str (([48, 48, 48, 49, 48, 48, 49, 49] : List UInt8) : List UInt8))), (.c (.tv .str (([48, 48, 48, 48, 49, 49, 48, 48, 48] : List UInt8) : List UInt8))), (.c (.tv .str (([48, 48, 48, 48, 49, 48, 49, 49, 49] : List UInt8) : List UInt8))), (.c (.tv .str (([48, 48, 48, 48, 49, 48, 49, 49, 48] : List UInt8) : List UInt8))), (.c (.tv .str (([48, 48, 48, 48, 49, 48, 49, 48, 49] : List UInt8) : List UInt8))), (.c (.tv .str (([48, 48, 48, 48, 49, 48, 49, 48, 48] : List UInt8) : List UInt8))), (.c (.tv .str (([48, 48, 48, 48, 49, 48, 48, 49, 49] : List UInt8) : List UInt8))), (.c (.tv .str (([48, 48, 48, 48, 49, 48, 48, 49, 48] : List UInt8) : List UInt8))), (.c (.tv .str (([48, 48, 48, 48, 49, 48, 48, 48, 49] : List UInt8) : List UInt8))), (.c (.tv .str (([48, 48, 48, 48, 48, 48, 48, 49, 49, 49] : List UInt8) : List UInt8))), (.c (.tv .str (([48, 48, 48, 48, 48, 48, 48, 49, 49, 48] : List UInt8) : List UInt8))), (.c (.tv .str (([48, 48, 48, 48, 48, 48, 48, 49, 48, 49] : List UInt8) : List UInt8))), (.c (.tv .str (([48, 48, 48, 48, 48, 48, 48, 49, 48, 48] : List UInt8) : List UInt8))), (.c (.tv .str (([48, 48, 48, 48, 48, 49, 48, 48, 49, 48, 48] : List UInt8) : List UInt8))), (.c (.tv .str (([48, 48, 48, 48, 48, 49, 48, 48, 49, 48, 49] : List UInt8) : List UInt8))), (.c (.tv .str (([48, 48, 48, 48, 48, 49, 48, 48, 49, 49, 48] : List UInt8) : List UInt8))), (.c (.tv .str (([48, 48, 48, 48, 48, 49, 48, 48, 49, 49, 49] : List UInt8) : List UInt8))), (.c (.tv .str (([48, 48, 48, 48, 48, 49, 48, 49, 49, 48, 48, 48] : List UInt8) : List UInt8))), (.c (.tv .str (([48, 48, 48, 48, 48, 49, 48, 49, 49, 48, 48, 49] : List UInt8) : List UInt8))), (.c (.tv .str (([48, 48, 48, 48, 48, 49, 48, 49, 49, 48, 49, 48] : List UInt8) : List UInt8))), (.c (.tv .str (([48, 48, 48, 48, 48, 49, 48, 49, 49, 48, 49, 49] : List UInt8) : List UInt8))), (.c (.tv .str (([48, 48, 48, 48, 48, 49, 48, 49, 49, 49, 48, 48] : List UInt8) : List UInt8))), (.c (.tv .str (([48, 48, 48, 48, 48, 49, 48, 49, 49, 49, 48, 49] : List UInt8) : List UInt8))), (.c (.tv .str (([48, 48, 48, 48, 48, 49, 48, 49, 49, 49, 49, 48] : List UInt8) : List UInt8))), (.c (.tv .str (([48, 48, 48, 48, 48, 49, 48, 49, 49, 49, 49, 49] : List UInt8) : List UInt8)))])),
    (iO 0 (.mv (.t 1)))])
  .ret))
noncomputable def z99f : FDef := ⟨0, 2, [.tmp 0 (some (.sl .str))], z99b⟩
noncomputable def z99p : XPat := ⟨.normal, [], []⟩
noncomputable def z99x : List XPat := [⟨.ret, [(.tv (.sl .str))], []⟩]
noncomputable def z99t (k : Nat) (d : z99p.D) : Option (XD z99x) := overspillref09_ends k
noncomputable def z99_e (k : Nat) : UEntry := mkU z99p z99x (z99t k) nilU
theorem z99_n (k : Nat) : UNat (z99_e k) := mkU_nat nilU_nat
theorem z99_fu (k : Nat) : FU P GL 112 (z99_e k) :=
  fn_typed (uorc := uorT (z99U0 k)) hmo (T96_ok k).oo (z99U0_k k) (fd := z99f) (AllU.no (by kernel_rfl)) (fn := Tryz.f112) (by kernel_rfl) (by kernel_rfl) (fun d => by kernel_rfl) FU_nil
noncomputable def T97 (k : Nat) : List (Nat × Ent) := (112, ⟨z99_e k⟩) :: T96 k
theorem T97_ok (k : Nat) : TabOK P GL (T97 k) := (T96_ok k).cons (z99_fu k) (z99_n k)
end Go.Proofs.YtlmajdbchmnhdaaGreatDoor
