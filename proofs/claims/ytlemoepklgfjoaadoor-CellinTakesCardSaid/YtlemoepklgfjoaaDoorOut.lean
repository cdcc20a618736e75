/-
  The functions of the program as typed functions, further on. Printed by a program of mine.
-/
import Derived.Test.YtlemoepklgfjoaaDoorOut1
set_option maxRecDepth 100000
namespace Go.Proofs.YtlemoepklgfjoaaDoor
open Go Go.Av
/-! ### overspill.blocks.Take -/
noncomputable def z47U0 (_ : Nat) : List (Nat × Ent) := []
theorem z47U0_k (k : Nat) : UTab (z47U0 k) := UTab.nil
noncomputable def z47u0d : UDef := ⟨[(0, none), (10, none), (11, none), (17, none)], [10, 11, 18, 19, 20, 21, 22], [(.normal, [(10, none), (11, none)])], []⟩
noncomputable def z47u0p : XPat := ⟨.normal, [(.ptr 0 []), (.tv (.int .i64)), (.tv (.int .i64)), (.tv .bool)], [(.box (.tv YReader))]⟩
noncomputable def z47u0x : List XPat := [⟨.normal, [(.tv (.int .i64)), (.tv (.int .i64))], [(.box (.tv YReader))]⟩]
noncomputable def blocks_Takeu0 (k : Nat) (x0 : Int) (x1 : Int) (x2 : Bool) (x3 : DReader) : Option (((Int) × (Int)) × (DReader)) :=
  bif x2 then
    Option.bind (blocks_first k x3) fun (v142 : ((Int) × ((Int) × (Unit))) × (DReader)) =>
    some ((v142.1.1, v142.1.2.1), v142.2)
  else
  some ((x0, x1), x3)
noncomputable def z47u0b : AC :=
  (.cond (.t 17)
  (.region [(iO 19 (.mv (.t 0))),
      (iC 20 78 [((.t 19), none)]),
      (iO 18 (.mv (.t 20))),
      (iO 21 (.ext (.t 18) 0)),
      (iO 22 (.ext (.t 18) 1)),
      (iO 10 (.mv (.t 21))),
      (iO 11 (.mv (.t 22)))])
  .skip)
noncomputable def z47u0t (k : Nat) (d : z47u0p.D) : Option (XD z47u0x) := blocks_Takeu0 k d.1.2.1 d.1.2.2.1 d.1.2.2.2 d.2
theorem z47u0_k (k : Nat) : UOK P GL (mkU z47u0p z47u0x (z47u0t k) nilU) z47u0d false z47u0b :=
  unit_typed (ud := z47u0d) (body := z47u0b) (uorc := uorT (z47U0 k)) hmo (T46_ok k).oo (z47U0_k k) (AllU.no (by kernel_rfl)) (fun d => by kernel_rfl)
noncomputable def z47U1 (k : Nat) : List (Nat × Ent) := (0, ⟨mkU z47u0p z47u0x (z47u0t k) nilU⟩) :: z47U0 k
theorem z47U1_k (k : Nat) : UTab (z47U1 k) := (z47U0_k k).cons (mkU_nat nilU_nat)
noncomputable def z47u1d : UDef := ⟨[(2, none), (11, none)], [23, 24, 25, 26, 27], [(.normal, [(27, none)])], []⟩
noncomputable def z47u1p : XPat := ⟨.normal, [(.tv .bool), (.tv (.int .i64))], []⟩
noncomputable def z47u1x : List XPat := [⟨.normal, [(.tv .bool)], []⟩]
noncomputable def blocks_Takeu1 (k : Nat) (x0 : Bool) (x1 : Int) : Option (Bool) :=
  bif (decide (x1 = 0)) then
    some x0
  else
  some false
noncomputable def z47u1b : AC :=
  (.region [(iO 23 (.mv (.t 11))),
    (iO 24 (.bin .eql (.t 23) (nI 0))),
    (iO 25 (.mv (.t 24))),
    ⟨some 26, some (2, 25, true), (.op (.mv (.t 2))), []⟩,
    (iO 27 (.pick (.t 25) (.t 26) (.c (.tv .bool (false : Bool)))))])
noncomputable def z47u1t (k : Nat) (d : z47u1p.D) : Option (XD z47u1x) := blocks_Takeu1 k d.1 d.2
theorem z47u1_k (k : Nat) : UOK P GL (mkU z47u1p z47u1x (z47u1t k) nilU) z47u1d false z47u1b :=
  unit_typed (ud := z47u1d) (body := z47u1b) (uorc := uorT (z47U1 k)) hmo (T46_ok k).oo (z47U1_k k) (AllU.no (by kernel_rfl)) (fun d => by kernel_rfl)
noncomputable def z47U2 (k : Nat) : List (Nat × Ent) := (1, ⟨mkU z47u1p z47u1x (z47u1t k) nilU⟩) :: z47U1 k
theorem z47U2_k (k : Nat) : UTab (z47U2 k) := (z47U1_k k).cons (mkU_nat nilU_nat)
noncomputable def z47u2d : UDef := ⟨[(0, none), (1, none), (11, none), (12, none), (27, none)], [11, 12, 28, 29, 30, 31, 32, 33, 34], [(.normal, [(11, none), (12, none)])], []⟩
noncomputable def z47u2p : XPat := ⟨.normal, [(.ptr 0 []), (.tv .bool), (.tv (.int .i64)), (.tv (.sl YEvent)), (.tv .bool)], [(.box (.tv YReader))]⟩
noncomputable def z47u2x : List XPat := [⟨.normal, [(.tv (.int .i64)), (.tv (.sl YEvent))], [(.box (.tv YReader))]⟩]
noncomputable def blocks_Takeu2 (k : Nat) (x0 : Bool) (x1 : Int) (x2 : List (DEvent)) (x3 : Bool) (x4 : DReader) : Option (((Int) × (List (DEvent))) × (DReader)) :=
  bif x3 then
    Option.bind (blocks_from k x0) fun (v191 : Int) =>
    Option.bind (blocks_events k v191 x4) fun (v192 : ((List (DEvent)) × ((Int) × (Unit))) × (DReader)) =>
    some ((v192.1.2.1, v192.1.1), v192.2)
  else
  some ((x1, x2), x4)
noncomputable def z47u2b : AC :=
  (.cond (.t 27)
  (.region [(iO 29 (.mv (.t 0))),
      (iO 30 (.mv (.t 1))),
      (iC 31 80 [((.t 30), none)]),
      (iC 32 79 [((.t 29), none), ((.t 31), none)]),
      (iO 28 (.mv (.t 32))),
      (iO 33 (.ext (.t 28) 0)),
      (iO 34 (.ext (.t 28) 1)),
      (iO 12 (.mv (.t 33))),
      (iO 11 (.mv (.t 34)))])
  .skip)
noncomputable def z47u2t (k : Nat) (d : z47u2p.D) : Option (XD z47u2x) := blocks_Takeu2 k d.1.2.1 d.1.2.2.1 d.1.2.2.2.1 d.1.2.2.2.2 d.2
theorem z47u2_k (k : Nat) : UOK P GL (mkU z47u2p z47u2x (z47u2t k) nilU) z47u2d false z47u2b :=
  unit_typed (ud := z47u2d) (body := z47u2b) (uorc := uorT (z47U2 k)) hmo (T46_ok k).oo (z47U2_k k) (AllU.no (by kernel_rfl)) (fun d => by kernel_rfl)
noncomputable def z47U3 (k : Nat) : List (Nat × Ent) := (2, ⟨mkU z47u2p z47u2x (z47u2t k) nilU⟩) :: z47U2 k
theorem z47U3_k (k : Nat) : UTab (z47U3 k) := (z47U2_k k).cons (mkU_nat nilU_nat)
noncomputable def blocks_Take (k : Nat) (x0 : Bool) (x1 : Bool) (x2 : DReader) : Option (((Int) × ((List (DEvent)) × ((Int) × (Unit)))) × (DReader)) :=
  Option.bind (inbits_Reader_At k x2) fun (v138 : (Int) × (DReader)) =>
  Option.bind (blocks_Takeu0 k 0 0 x0 v138.2) fun (v143 : ((Int) × (Int)) × (DReader)) =>
  Option.bind (blocks_Takeu1 k x1 v143.1.2) fun (v144 : Bool) =>
  Option.bind (blocks_Takeu2 k x0 v143.1.2 ([] : List (DEvent)) v144 v143.2) fun (v193 : ((Int) × (List (DEvent))) × (DReader)) =>
  bif (!(decide (v193.1.1 = 0))) then
    Option.bind (inbits_Reader_Seek k v138.1 v193.2) fun (v194 : (Int) × (DReader)) =>
    some ((0, (([] : List (DEvent)), (v193.1.1, ()))), v194.2)
  else
  some ((v143.1.1, (v193.1.2, (0, ()))), v193.2)
noncomputable def z47b : AC :=
  (.seq (.region [(iO 6 (.mv (nI 0))),
    (iO 7 (.mv (.c (.tv (.sl YEvent) (([] : List (DEvent)) : List (DEvent)))))),
    (iO 8 (.mv (nI 0)))])
  (.seq (.seq (.region [(iO 13 (.mv (.t 0))),
    (iO 14 (.eqp false (.t 13) (.c .nilp)))])
  (.cond (.t 14)
  (.seq (.region [(iO 6 .bad),
      (iO 7 .bad),
      (iO 8 .bad)])
    .ret)
  .skip))
  (.seq (.region [(iO 15 (.mv (.t 0))),
    (iC 16 14 [((.t 15), none)]),
    (iO 9 (.mv (.t 16))),
    (iO 10 (.mv (nI 0))),
    (iO 11 (.mv (nI 0)))])
  (.seq (.region [(iO 12 (.mv (.c (.tv (.sl YEvent) (([] : List (DEvent)) : List (DEvent))))))])
  (.seq (.seq (.region [(iO 17 (.mv (.t 1)))])
  (.unit 0 z47u0d false z47u0b))
  (.seq (.seq (.unit 1 z47u1d false z47u1b)
  (.unit 2 z47u2d false z47u2b))
  (.seq (.seq (.region [(iO 35 (.mv (.t 11))),
    (iO 36 (.bin .neq (.t 35) (nI 0)))])
  (.cond (.t 36)
  (.seq (.region [(iO 37 (.mv (.t 0))),
      (iO 38 (.mv (.t 9))),
      (iC 39 8 [((.t 37), none), ((.t 38), none)])])
    (.seq (.region [(iO 40 (.mv (.t 11))),
      (iO 6 (.mv (nI 0))),
      (iO 7 (.mv (.c (.tv (.sl YEvent) (([] : List (DEvent)) : List (DEvent)))))),
      (iO 8 (.mv (.t 40)))])
    .ret))
  .skip))
  (.seq (.region [(iO 41 (.mv (.t 10))),
    (iO 42 (.mv (.t 12))),
    (iO 6 (.mv (.t 41))),
    (iO 7 (.mv (.t 42))),
    (iO 8 (.mv (nI 0)))])
  .ret))))))))
noncomputable def z47f : FDef := ⟨3, 43, [.tmp 6 none, .tmp 7 (some (.sl YEvent)), .tmp 8 none], z47b⟩
noncomputable def z47p : XPat := ⟨.normal, [(.ptr 0 []), (.tv .bool), (.tv .bool)], [(.box (.tv YReader))]⟩
noncomputable def z47x : List XPat := [⟨.ret, [(.tup (.cons (.tv (.int .i64)) (.cons (.tv (.sl YEvent)) (.cons (.tv (.int .i64)) .nil))))], [(.box (.tv YReader))]⟩]
noncomputable def z47t (k : Nat) (d : z47p.D) : Option (XD z47x) := blocks_Take k d.1.2.1 d.1.2.2 d.2
noncomputable def z47_e (k : Nat) : UEntry := mkU z47p z47x (z47t k) nilU
theorem z47_n (k : Nat) : UNat (z47_e k) := mkU_nat nilU_nat
theorem z47_fu (k : Nat) : FU P GL 56 (z47_e k) :=
  fn_typed (uorc := uorT (z47U3 k)) hmo (T46_ok k).oo (z47U3_k k) (fd := z47f) (AllU.seq (AllU.no (by kernel_rfl)) (AllU.seq (AllU.no (by kernel_rfl)) (AllU.seq (AllU.no (by kernel_rfl)) (AllU.seq (AllU.no (by kernel_rfl)) (AllU.seq (AllU.seq (AllU.no (by kernel_rfl)) (AllU.unit (uorc := uorT (z47U3 k)) (u := 0) (z47u0_k k))) (AllU.seq (AllU.seq (AllU.unit (uorc := uorT (z47U3 k)) (u := 1) (z47u1_k k)) (AllU.unit (uorc := uorT (z47U3 k)) (u := 2) (z47u2_k k))) (AllU.no (by kernel_rfl)))))))) (fn := Tryd.f56) (by kernel_rfl) (by kernel_rfl) (fun d => by kernel_rfl) FU_nil
noncomputable def T47 (k : Nat) : List (Nat × Ent) := (56, ⟨z47_e k⟩) :: T46 k
theorem T47_ok (k : Nat) : TabOK P GL (T47 k) := (T46_ok k).cons (z47_fu k) (z47_n k)
/-! ### (*overspill.cellin.reader).body -/
noncomputable def z48U0 (_ : Nat) : List (Nat × Ent) := []
theorem z48U0_k (k : Nat) : UTab (z48U0 k) := UTab.nil
noncomputable def z48u0d : UDef := ⟨[(0, none), (1, none), (2, none), (7, none)], [6, 7, 8, 9, 10, 11, 12, 13, 14, 15, 16, 17, 18, 19, 20, 21, 22, 23, 24, 25, 26, 27, 28, 29, 30, 31, 32, 33, 34, 35, 36, 37, 38, 39, 40, 41, 42, 43, 44, 45, 46, 47, 48, 49], [(.ret, []), ((.exit 0), [])], []⟩
noncomputable def z48u0p : XPat := ⟨.normal, [(.ptr 0 []), (.ptr 2 []), (.tv (.int .i64)), (.tv (.int .i64))], [(.box (.cons (.ptr 1 []) (.cons (.tv (.int .i64)) .nil))), (.box (.tv YReader)), (.box (.tv YCell))]⟩
noncomputable def z48u0x : List XPat := [⟨.ret, [], [(.box (.cons (.ptr 1 []) (.cons (.tv (.int .i64)) .nil))), (.box (.tv YReader)), (.box (.tv YCell))]⟩, ⟨(.exit 0), [], [(.box (.cons (.ptr 1 []) (.cons (.tv (.int .i64)) .nil))), (.box (.tv YReader)), (.box (.tv YCell))]⟩]
noncomputable def cellin_reader_bodyu0 (k : Nat) : Nat → (Int) → (Int) → (Int) → (DReader) → (DCell) → Option (((Unit) × (((Unit) × ((Int) × (Unit))) × ((DReader) × (DCell)))) ⊕ ((Unit) × (((Unit) × ((Int) × (Unit))) × ((DReader) × (DCell)))))
  | 0, _, _, _, _, _ => none
  | n + 1, x0, x1, x2, x3, x4 =>
    bif (decide (x1 < 6)) then
      bif (!(decide (x2 = 0))) then
        some (Sum.inl ((), (((), (x2, ())), (x3, x4))))
      else
      Option.bind (cellin_intra k x4.2.2.1) fun (v196 : Bool) =>
      bif (decide ((wr .u64 (wr .i64 (5 - x1))) < 0)) then
        none
      else
      Option.bind (blocks_Take k v196 (decide ((bitop .and .i64 (shrI .i64 x0 (wr .u64 (wr .i64 (5 - x1)))) 1) = 1)) x3) fun (v197 : ((Int) × ((List (DEvent)) × ((Int) × (Unit)))) × (DReader)) =>
      bif (inR x1 6) then
        bif (inR x1 6) then
          Option.bind (cellin_reader_bodyu0 k n x0 (wr .i64 (x1 + 1)) v197.1.2.2.1 v197.2 (x4.1, (x4.2.1, (x4.2.2.1, (x4.2.2.2.1, (x4.2.2.2.2.1, ((List.set x4.2.2.2.2.2.1 (Int.toNat x1) v197.1.1), ((List.set x4.2.2.2.2.2.2.1 (Int.toNat x1) v197.1.2.1), x4.2.2.2.2.2.2.2)))))))) fun r => Sum.elim (fun w => some (Sum.inl w)) (fun w => some (Sum.inr w)) r
        else
          none
      else
        none
    else
    some (Sum.inr ((), (((), (x2, ())), (x3, x4))))
noncomputable def z48u0b : AC :=
  (.seq (.region [(iO 8 (.bin .lss (.t 7) (nI 6)))])
  (.seq (.cond (.t 8)
  .skip
  (.exit 0))
  (.seq (.block 1 (.seq (.region [(iO 9 (.mv (.t 7))),
    (iO 6 (.mv (.t 9)))])
  (.seq (.seq (.region [(iO 10 (.mv (.t 0))),
    (iO 11 (.nilc (.t 10))),
    (iO 12 (.fad 1 1 (.t 11))),
    (iO 13 (.load false 1 (.t 12))),
    (iO 14 (.bin .neq (.t 13) (nI 0)))])
  (.cond (.t 14)
  .ret
  .skip))
  (.draw [(iO 16 (.mv (.t 1))),
    (iO 17 (.mv (.t 6))),
    (iO 18 (.mv (.t 1))),
    (iO 19 (.mv (.t 6))),
    (iO 20 (.mv (.t 0))),
    (iO 21 (.mv (.t 0))),
    (iOa 22 (.nilc (.t 21)) [5]),
    (iOa 23 (.fad 0 0 (.t 22)) [5, 6]),
    (iOa 24 (.load false 1 (.t 23)) [5, 6, 7]),
    (iO 25 (.mv (.t 1))),
    (iOa 26 (.nilc (.t 25)) [9]),
    (iOa 27 (.fad 2 2 (.t 26)) [9, 10]),
    (iOa 28 (.load false 1 (.t 27)) [9, 10, 11]),
    (iCa 29 53 [((.t 28), none)] (rg [9, 4])),
    (iO 30 (.mv (.t 2))),
    (iO 31 (.mv (.t 6))),
    (iOa 32 (.bin .sub (nI 5) (.t 31)) [15]),
    (iOa 33 (.conv .u64 (.t 32)) [15, 16]),
    (iOa 34 (.bin .shr (.t 30) (.t 33)) (rg [14, 4])),
    (iOa 35 (.bin .and (.t 34) (nI 1)) (rg [14, 5])),
    (iOa 36 (.bin .eql (.t 35) (nI 1)) (rg [14, 6])),
    (iCa 37 56 [((.t 24), none), ((.t 29), none), ((.t 36), none)] (rg [5, 16])),
    (iOa 15 (.mv (.t 37)) (rg [5, 17])),
    (iOa 38 (.ext (.t 15) 0) (rg [5, 18])),
    (iOa 39 (.ext (.t 15) 1) (rg [5, 18])),
    (iOa 40 (.ext (.t 15) 2) (rg [5, 18])),
    (iOa 41 (.nilc (.t 16)) [0]),
    (iOa 42 (.fad 5 6 (.t 41)) [0, 26]),
    (iOa 43 (.iad 6 1 (.t 42) (.t 17)) (rg [0, 2, 5, 19, 26, 2])),
    (iSa (.store 1 none (.t 43) (.t 38)) (rg [0, 2, 5, 19, 26, 3])),
    (iOa 44 (.nilc (.t 18)) [2]),
    (iOa 45 (.fad 6 12 (.t 44)) [2, 30]),
    (iOa 46 (.iad 6 1 (.t 45) (.t 19)) (rg [0, 4, 5, 20, 26, 6])),
    (iSa (.store 1 none (.t 46) (.t 39)) (rg [0, 4, 5, 20, 26, 7])),
    (iOa 47 (.nilc (.t 20)) (rg [0, 34])),
    (iOa 48 (.fad 1 1 (.t 47)) (rg [0, 35])),
    (iSa (.store 1 none (.t 48) (.t 40)) (rg [0, 36]))]))))
  (.region [(iO 49 (.bin .add (.t 7) (nI 1))),
    (iO 7 (.mv (.t 49)))]))))
noncomputable def z48u0t (k n : Nat) (d : z48u0p.D) : Option (XD z48u0x) := cellin_reader_bodyu0 k n d.1.2.2.1 d.1.2.2.2 d.2.1.2.1 d.2.2.1 d.2.2.2
theorem z48u0_k (k : Nat) : UOK P GL (mkU z48u0p z48u0x (z48u0t k k) nilU) z48u0d true z48u0b :=
  loop_typed (ud := z48u0d) (body := z48u0b) (uorc := uorT (z48U0 k)) hmo (T47_ok k).oo (z48U0_k k) (AllU.no (by kernel_rfl)) (t := z48u0t k) (fun d => by kernel_rfl) (fun n d => by kernel_rfl) k
noncomputable def z48U1 (k : Nat) : List (Nat × Ent) := (0, ⟨mkU z48u0p z48u0x (z48u0t k k) nilU⟩) :: z48U0 k
theorem z48U1_k (k : Nat) : UTab (z48U1 k) := (z48U0_k k).cons (mkU_nat nilU_nat)
noncomputable def cellin_reader_body (k : Nat) (x0 : Int) (x1 : Int) (x2 : DReader) (x3 : DCell) : Option ((Unit) × (((Unit) × ((Int) × (Unit))) × ((DReader) × (DCell)))) :=
  Option.bind (cellin_reader_bodyu0 k k x0 0 x1 x2 x3) fun r =>
  Sum.elim (fun (v198 : (Unit) × (((Unit) × ((Int) × (Unit))) × ((DReader) × (DCell)))) =>
    some ((), (((), (v198.2.1.2.1, ())), (v198.2.2.1, v198.2.2.2))))
    (fun (v199 : (Unit) × (((Unit) × ((Int) × (Unit))) × ((DReader) × (DCell)))) =>
    some ((), (((), (v199.2.1.2.1, ())), (v199.2.2.1, v199.2.2.2)))) r
noncomputable def z48b : AC :=
  (.seq (.region [(iO 7 (.mv (nI 0)))])
  (.block 0 (.unit 0 z48u0d true z48u0b)))
noncomputable def z48f : FDef := ⟨3, 50, [], z48b⟩
noncomputable def z48p : XPat := ⟨.normal, [(.ptr 0 []), (.ptr 2 []), (.tv (.int .i64))], [(.box (.cons (.ptr 1 []) (.cons (.tv (.int .i64)) .nil))), (.box (.tv YReader)), (.box (.tv YCell))]⟩
noncomputable def z48x : List XPat := [⟨.ret, [(.tup .nil)], [(.box (.cons (.ptr 1 []) (.cons (.tv (.int .i64)) .nil))), (.box (.tv YReader)), (.box (.tv YCell))]⟩]
noncomputable def z48t (k : Nat) (d : z48p.D) : Option (XD z48x) := cellin_reader_body k d.1.2.2 d.2.1.2.1 d.2.2.1 d.2.2.2
noncomputable def z48_e (k : Nat) : UEntry := mkU z48p z48x (z48t k) nilU
theorem z48_n (k : Nat) : UNat (z48_e k) := mkU_nat nilU_nat
theorem z48_fu (k : Nat) : FU P GL 26 (z48_e k) :=
  fn_typed (uorc := uorT (z48U1 k)) hmo (T47_ok k).oo (z48U1_k k) (fd := z48f) (AllU.seq (AllU.no (by kernel_rfl)) (AllU.block (AllU.unit (uorc := uorT (z48U1 k)) (u := 0) (z48u0_k k)))) (fn := Tryd.f26) (by kernel_rfl) (by kernel_rfl) (fun d => by kernel_rfl) FU_nil
noncomputable def T48 (k : Nat) : List (Nat × Ent) := (26, ⟨z48_e k⟩) :: T47 k
theorem T48_ok (k : Nat) : TabOK P GL (T48 k) := (T47_ok k).cons (z48_fu k) (z48_n k)
/-! ### overspill.cellin.Take -/
noncomputable def z49U0 (_ : Nat) : List (Nat × Ent) := []
theorem z49U0_k (k : Nat) : UTab (z49U0 k) := UTab.nil
noncomputable def z49u0d : UDef := ⟨[(5, none), (9, none), (10, none), (11, none), (28, none)], [13, 29, 30, 31, 32, 33, 34, 35, 36, 37], [(.normal, [])], []⟩
noncomputable def z49u0p : XPat := ⟨.normal, [(.ptr 0 []), (.ptr 1 []), (.ptr 3 []), (.tv (.int .i64)), (.tv .bool)], [(.box (.tv (.arr 2 (.int .i64)))), (.box (.cons (.ptr 2 []) (.cons (.tv (.int .i64)) .nil))), (.box (.tv YReader)), (.box (.tv YCell))]⟩
noncomputable def z49u0x : List XPat := [⟨.normal, [], [(.box (.tv (.arr 2 (.int .i64)))), (.box (.cons (.ptr 2 []) (.cons (.tv (.int .i64)) .nil))), (.box (.tv YReader)), (.box (.tv YCell))]⟩]
noncomputable def cellin_Takeu0 (k : Nat) (x0 : Int) (x1 : Bool) (x2 : List (Int)) (x3 : Int) (x4 : DReader) (x5 : DCell) : Option ((Unit) × ((List (Int)) × (((Unit) × ((Int) × (Unit))) × ((DReader) × (DCell))))) :=
  bif x1 then
    Option.bind (cellin_reader_middle k x2 x3 x4 x5) fun (v201 : (Int) × (((Unit) × ((Int) × (Unit))) × ((DReader) × (DCell)))) =>
    Option.bind (cellin_reader_body k (bitop .or .i64 (shlI .i64 v201.1 2) x0) v201.2.1.2.1 v201.2.2.1 v201.2.2.2) fun (v202 : (Unit) × (((Unit) × ((Int) × (Unit))) × ((DReader) × (DCell)))) =>
    some ((), (x2, (((), (v202.2.1.2.1, ())), (v202.2.2.1, v202.2.2.2))))
  else
  some ((), (x2, (((), (x3, ())), (x4, x5))))
noncomputable def z49u0b : AC :=
  (.cond (.t 28)
  (.seq (.region [(iO 29 (.mv (.t 9))),
      (iO 30 (.load true 2 (.t 5))),
      (iC 31 25 [((.t 29), none), ((.t 10), none), ((.t 30), some (.arr 2 (.int .i64)))]),
      (iO 13 (.mv (.t 31)))])
    (.region [(iO 32 (.mv (.t 9))),
      (iO 33 (.mv (.t 13))),
      (iO 34 (.bin .shl (.t 33) (.c (.tv (.int .u64) (2 : Int))))),
      (iO 35 (.mv (.t 11))),
      (iO 36 (.bin .or (.t 34) (.t 35))),
      (iC 37 26 [((.t 32), none), ((.t 10), none), ((.t 36), none)])]))
  .skip)
noncomputable def z49u0t (k : Nat) (d : z49u0p.D) : Option (XD z49u0x) := cellin_Takeu0 k d.1.2.2.2.1 d.1.2.2.2.2 d.2.1 d.2.2.1.2.1 d.2.2.2.1 d.2.2.2.2
theorem z49u0_k (k : Nat) : UOK P GL (mkU z49u0p z49u0x (z49u0t k) nilU) z49u0d false z49u0b :=
  unit_typed (ud := z49u0d) (body := z49u0b) (uorc := uorT (z49U0 k)) hmo (T48_ok k).oo (z49U0_k k) (AllU.no (by kernel_rfl)) (fun d => by kernel_rfl)
noncomputable def z49U1 (k : Nat) : List (Nat × Ent) := (0, ⟨mkU z49u0p z49u0x (z49u0t k) nilU⟩) :: z49U0 k
theorem z49U1_k (k : Nat) : UTab (z49U1 k) := (z49U0_k k).cons (mkU_nat nilU_nat)
noncomputable def cellin_Take (k : Nat) (x0 : Bool) (x1 : List (Int)) (x2 : DReader) : Option (((DCell) × ((Int) × (Unit))) × (DReader)) :=
  Option.bind (inbits_Reader_At k x2) fun (v6 : (Int) × (DReader)) =>
  Option.bind (cellin_reader_head k x0 0 v6.2 (0, (false, (0, (0, ((Ty.zero (.arr 2 (.int .i64))), ((Ty.zero (.arr 6 (.int .i64))), ((Ty.zero (.arr 6 (.sl YEvent))), ())))))))) fun (v84 : ((Int) × ((Bool) × (Unit))) × (((Unit) × ((Int) × (Unit))) × ((DReader) × (DCell)))) =>
  Option.bind (cellin_Takeu0 k v84.1.1 v84.1.2.1 x1 v84.2.1.2.1 v84.2.2.1 v84.2.2.2) fun (v203 : (Unit) × ((List (Int)) × (((Unit) × ((Int) × (Unit))) × ((DReader) × (DCell))))) =>
  bif (!(decide (v203.2.2.1.2.1 = 0))) then
    Option.bind (inbits_Reader_Seek k v6.1 v203.2.2.2.1) fun (v204 : (Int) × (DReader)) =>
    some (((0, (false, (0, (0, ((Ty.zero (.arr 2 (.int .i64))), ((Ty.zero (.arr 6 (.int .i64))), ((Ty.zero (.arr 6 (.sl YEvent))), ()))))))), (v203.2.2.1.2.1, ())), v204.2)
  else
  some ((v203.2.2.2.2, (0, ())), v203.2.2.2.1)
noncomputable def z49b : AC :=
  (.seq (.region [(iO 5 (.box (.t 2))),
    (iO 6 (.alloc 34 (.tv YCell))),
    (iO 7 (.mv (nI 0)))])
  (.seq (.seq (.region [(iO 14 (.mv (.t 0))),
    (iO 15 (.eqp false (.t 14) (.c .nilp)))])
  (.cond (.t 15)
  (.seq (.region [(iO 16 .bad),
      (iS .bad),
      (iO 7 .bad)])
    .ret)
  .skip))
  (.seq (.region [(iO 17 (.mv (.t 0))),
    (iC 18 14 [((.t 17), none)]),
    (iO 8 (.mv (.t 18)))])
  (.seq (.region [(iO 19 (.mv (.t 0))),
    (iO 20 (.build 58 (.cons .nilp (.cons (.tv (.int .i64)) .nil)) [(0, (.fld 0 0), 1, (.t 19))])),
    (iO 21 (.box (.t 20))),
    (iO 9 (.mv (.t 21)))])
  (.seq (.region [(iO 10 (.alloc 34 (.tv YCell)))])
  (.seq (.seq (.region [(iO 23 (.mv (.t 9))),
    (iO 24 (.mv (.t 1))),
    (iC 25 24 [((.t 23), none), ((.t 24), none), ((.t 10), none)]),
    (iO 22 (.mv (.t 25))),
    (iO 26 (.ext (.t 22) 0)),
    (iO 27 (.ext (.t 22) 1)),
    (iO 11 (.mv (.t 26))),
    (iO 12 (.mv (.t 27)))])
  (.seq (.region [(iO 28 (.mv (.t 12)))])
  (.unit 0 z49u0d false z49u0b)))
  (.seq (.seq (.region [(iO 38 (.mv (.t 9))),
    (iO 39 (.nilc (.t 38))),
    (iO 40 (.fad 1 1 (.t 39))),
    (iO 41 (.load false 1 (.t 40))),
    (iO 42 (.bin .neq (.t 41) (nI 0)))])
  (.cond (.t 42)
  (.seq (.region [(iO 43 (.mv (.t 0))),
      (iO 44 (.mv (.t 8))),
      (iC 45 8 [((.t 43), none), ((.t 44), none)])])
    (.seq (.draw [(iO 46 (.build 34 (.tv YCell) [])),
      (iO 47 (.mv (.t 9))),
      (iOa 48 (.nilc (.t 47)) [1]),
      (iOa 49 (.fad 1 1 (.t 48)) [1, 2]),
      (iOa 50 (.load false 1 (.t 49)) [1, 2, 3]),
      (iSa (.store 18 none (.t 6) (.t 46)) [0]),
      (iOa 7 (.mv (.t 50)) (rg [0, 6]))])
    .ret))
  .skip))
  (.seq (.region [(iO 51 (.load true 18 (.t 10))),
    (iS (.store 18 none (.t 6) (.t 51))),
    (iO 7 (.mv (nI 0)))])
  .ret))))))))
noncomputable def z49f : FDef := ⟨3, 52, [.cell 6 18 true (some YCell), .tmp 7 none], z49b⟩
noncomputable def z49p : XPat := ⟨.normal, [(.ptr 0 []), (.tv .bool), (.tv (.arr 2 (.int .i64)))], [(.box (.tv YReader))]⟩
noncomputable def z49x : List XPat := [⟨.ret, [(.tup (.cons (.tv YCell) (.cons (.tv (.int .i64)) .nil)))], [(.box (.tv YReader))]⟩]
noncomputable def z49t (k : Nat) (d : z49p.D) : Option (XD z49x) := cellin_Take k d.1.2.1 d.1.2.2 d.2
noncomputable def z49_e (k : Nat) : UEntry := mkU z49p z49x (z49t k) nilU
theorem z49_n (k : Nat) : UNat (z49_e k) := mkU_nat nilU_nat
theorem z49_fu (k : Nat) : FU P GL 10 (z49_e k) :=
  fn_typed (uorc := uorT (z49U1 k)) hmo (T48_ok k).oo (z49U1_k k) (fd := z49f) (AllU.seq (AllU.no (by kernel_rfl)) (AllU.seq (AllU.no (by kernel_rfl)) (AllU.seq (AllU.no (by kernel_rfl)) (AllU.seq (AllU.no (by kernel_rfl)) (AllU.seq (AllU.no (by kernel_rfl)) (AllU.seq (AllU.seq (AllU.no (by kernel_rfl)) (AllU.seq (AllU.no (by kernel_rfl)) (AllU.unit (uorc := uorT (z49U1 k)) (u := 0) (z49u0_k k)))) (AllU.no (by kernel_rfl)))))))) (fn := Tryd.f10) (by kernel_rfl) (by kernel_rfl) (fun d => by kernel_rfl) FU_nil
noncomputable def T49 (k : Nat) : List (Nat × Ent) := (10, ⟨z49_e k⟩) :: T48 k
theorem T49_ok (k : Nat) : TabOK P GL (T49 k) := (T48_ok k).cons (z49_fu k) (z49_n k)
/-! ### overspill.overspilllaw21.lives -/
noncomputable def z50U0 (_ : Nat) : List (Nat × Ent) := []
theorem z50U0_k (k : Nat) : UTab (z50U0 k) := UTab.nil
noncomputable def overspilllaw21_lives (k : Nat) : Option (Bool) :=
  Option.bind (inbits_New k ([128] : List UInt8)) fun (v5 : (Unit) × (DReader)) =>
  Option.bind (cellin_Take k true (Ty.zero (.arr 2 (.int .i64))) v5.2) fun (v205 : ((DCell) × ((Int) × (Unit))) × (DReader)) =>
  Option.bind (inbits_New k ([124] : List UInt8)) fun (v206 : (Unit) × (DReader)) =>
  Option.bind (cellin_Take k true (List.set (List.set (Ty.zero (.arr 2 (.int .i64))) 0 3) 1 (-2)) v206.2) fun (v207 : ((DCell) × ((Int) × (Unit))) × (DReader)) =>
  bif v205.1.1.2.1 then
    bif (decide (v205.1.2.1 = 0)) then
      bif (decide (v207.1.1.2.2.1 = 0)) then
        bif (!v207.1.1.2.1) then
          bif (false ^^ Ty.eqB (.arr 2 (.int .i64)) v207.1.1.2.2.2.2.1 (List.set (List.set (Ty.zero (.arr 2 (.int .i64))) 0 3) 1 (-2))) then
            some (decide (v207.1.2.1 = 0))
          else
          some false
        else
        some false
      else
      some false
    else
    some false
  else
  some false
noncomputable def z50b : AC :=
  (.seq (.region [(iO 0 (.mv (.c (.tv .bool (false : Bool)))))])
  (.seq (.region [(iC 6 7 [((.c (.tv .str (([128] : List UInt8) : List UInt8))), none)]),
    (iO 7 (.build 24 (.tv (.arr 2 (.int .i64))) [])),
    (iC 8 10 [((.t 6), none), ((.c (.tv .bool (true : Bool))), none), ((.t 7), some (.arr 2 (.int .i64)))]),
    (iO 5 (.mv (.t 8))),
    (iO 9 (.ext (.t 5) 0)),
    (iO 10 (.ext (.t 5) 1)),
    (iO 1 (.alloc 34 (.tv YCell))),
    (iS (.store 18 none (.t 1) (.t 9))),
    (iO 2 (.mv (.t 10)))])
  (.seq (.region [(iC 12 7 [((.c (.tv .str (([124] : List UInt8) : List UInt8))), none)]),
    (iO 13 (.build 24 (.tv (.arr 2 (.int .i64))) [(0, (.idx 0 2 1), 1, (nI 3)), (1, (.idx 1 2 1), 1, (nI (-2)))])),
    (iC 14 10 [((.t 12), none), ((.c (.tv .bool (true : Bool))), none), ((.t 13), some (.arr 2 (.int .i64)))]),
    (iO 11 (.mv (.t 14))),
    (iO 15 (.ext (.t 11) 0)),
    (iO 16 (.ext (.t 11) 1)),
    (iO 3 (.alloc 34 (.tv YCell))),
    (iS (.store 18 none (.t 3) (.t 15))),
    (iO 4 (.mv (.t 16)))])
  (.seq (.region [(iO 17 (.fad 1 1 (.t 1))),
    (iO 18 (.load false 1 (.t 17))),
    (iO 19 (.mv (.t 18))),
    ⟨some 20, some (2, 19, true), (.op (.mv (.t 2))), []⟩,
    ⟨some 21, some (2, 19, true), (.op (.bin .eql (.t 20) (nI 0))), []⟩,
    (iO 22 (.pick (.t 19) (.t 21) (.c (.tv .bool (false : Bool))))),
    (iO 23 (.mv (.t 22))),
    ⟨some 24, some (6, 23, true), (.op (.fad 2 2 (.t 3))), []⟩,
    ⟨some 25, some (6, 23, true), (.op (.load false 1 (.t 24))), []⟩,
    ⟨some 26, some (6, 23, true), (.op (.bin .eql (.t 25) (nI 0))), []⟩,
    (iO 27 (.pick (.t 23) (.t 26) (.c (.tv .bool (false : Bool))))),
    (iO 28 (.mv (.t 27))),
    ⟨some 29, some (11, 28, true), (.op (.fad 1 1 (.t 3))), []⟩,
    ⟨some 30, some (11, 28, true), (.op (.load false 1 (.t 29))), []⟩,
    ⟨some 31, some (11, 28, true), (.op (.un .not (.t 30))), []⟩,
    (iO 32 (.pick (.t 28) (.t 31) (.c (.tv .bool (false : Bool))))),
    (iO 33 (.mv (.t 32))),
    ⟨some 34, some (16, 33, true), (.op (.fad 4 4 (.t 3))), []⟩,
    ⟨some 35, some (16, 33, true), (.op (.load true 2 (.t 34))), []⟩,
    ⟨some 36, some (16, 33, true), (.op (.build 24 (.tv (.arr 2 (.int .i64))) [(0, (.idx 0 2 1), 1, (nI 3)), (1, (.idx 1 2 1), 1, (nI (-2)))])), []⟩,
    ⟨some 37, some (16, 33, true), (.op (.eqa false (.arr 2 (.int .i64)) (.t 35) (.t 36))), []⟩,
    (iO 38 (.pick (.t 33) (.t 37) (.c (.tv .bool (false : Bool))))),
    (iO 39 (.mv (.t 38))),
    ⟨some 40, some (22, 39, true), (.op (.mv (.t 4))), []⟩,
    ⟨some 41, some (22, 39, true), (.op (.bin .eql (.t 40) (nI 0))), []⟩,
    (iO 42 (.pick (.t 39) (.t 41) (.c (.tv .bool (false : Bool))))),
    (iO 0 (.mv (.t 42)))])
  .ret))))
noncomputable def z50f : FDef := ⟨0, 43, [.tmp 0 none], z50b⟩
noncomputable def z50p : XPat := ⟨.normal, [], []⟩
noncomputable def z50x : List XPat := [⟨.ret, [(.tv .bool)], []⟩]
noncomputable def z50t (k : Nat) (d : z50p.D) : Option (XD z50x) := overspilllaw21_lives k
noncomputable def z50_e (k : Nat) : UEntry := mkU z50p z50x (z50t k) nilU
theorem z50_n (k : Nat) : UNat (z50_e k) := mkU_nat nilU_nat
theorem z50_fu (k : Nat) : FU P GL 9 (z50_e k) :=
  fn_typed (uorc := uorT (z50U0 k)) hmo (T49_ok k).oo (z50U0_k k) (fd := z50f) (AllU.no (by kernel_rfl)) (fn := Tryd.f9) (by kernel_rfl) (by kernel_rfl) (fun d => by kernel_rfl) FU_nil
noncomputable def T50 (k : Nat) : List (Nat × Ent) := (9, ⟨z50_e k⟩) :: T49 k
theorem T50_ok (k : Nat) : TabOK P GL (T50 k) := (T49_ok k).cons (z50_fu k) (z50_n k)
/-! ### overspill.overspillref02.Row -/
noncomputable def z51U0 (_ : Nat) : List (Nat × Ent) := []
theorem z51U0_k (k : Nat) : UTab (z51U0 k) := UTab.nil
noncomputable def z51u0d : UDef := ⟨[(0, none), (1, none), (5, none), (6, none)], [0, 5, 6, 7, 8, 9, 10, 11, 12, 13, 14, 15, 16, 17, 18, 19, 20, 21], [((.exit 0), [(5, none)])], []⟩
noncomputable def z51u0p : XPat := ⟨.normal, [(.tv (.int .i64)), (.tv (.int .i64)), (.tv .str), (.tv (.int .i64))], []⟩
noncomputable def z51u0x : List XPat := [⟨(.exit 0), [(.tv .str)], []⟩]
noncomputable def overspillref02_Rowu0 (k : Nat) : Nat → (Int) → (Int) → (List UInt8) → (Int) → Option (List UInt8)
  | 0, _, _, _, _ => none
  | n + 1, x0, x1, x2, x3 =>
    bif (decide (x3 < x1)) then
      bif (decide ((0 : Int) ≤ (Int.tmod x0 2) ∧ (Int.tmod x0 2) ≤ (wr .i64 ((Int.tmod x0 2) + 1)) ∧ (wr .i64 ((Int.tmod x0 2) + 1)) ≤ ((2 : Nat) : Int))) then
        bif (decide ((List.length (List.drop (Int.toNat (Int.tmod x0 2)) (List.take (Int.toNat (wr .i64 ((Int.tmod x0 2) + 1))) ([48, 49] : List UInt8)))) + (List.length x2) ≤ strMax)) then
          Option.bind (overspillref02_Rowu0 k n (wr .i64 (Int.tdiv x0 2)) x1 ((List.drop (Int.toNat (Int.tmod x0 2)) (List.take (Int.toNat (wr .i64 ((Int.tmod x0 2) + 1))) ([48, 49] : List UInt8))) ++ x2) (wr .i64 (x3 + 1))) fun r => some r
        else
          none
      else
        none
    else
    some x2
noncomputable def z51u0b : AC :=
  (.seq (.seq (.region [(iO 7 (.mv (.t 6))),
    (iO 8 (.mv (.t 1))),
    (iO 9 (.bin .lss (.t 7) (.t 8)))])
  (.cond (.t 9)
  .skip
  (.exit 0)))
  (.seq (.block 1 (.seq (.region [(iO 12 (.mv (.t 0))),
    (iO 13 (.bin .rem (.t 12) (nI 2))),
    (iO 14 (.mv (.t 0))),
    (iO 15 (.bin .rem (.t 14) (nI 2))),
    (iO 16 (.bin .add (.t 15) (nI 1))),
    (iO 17 (.slis (.c (.tv .str (([48, 49] : List UInt8) : List UInt8))) (some (.t 13)) (some (.t 16)))),
    (iO 18 (.mv (.t 5))),
    (iO 19 (.bin .add (.t 17) (.t 18))),
    (iO 5 (.mv (.t 19)))])
  (.region [(iO 20 (.mv (.t 0))),
    (iO 21 (.bin .quo (.t 20) (nI 2))),
    (iO 0 (.mv (.t 21)))])))
  (.region [(iO 10 (.mv (.t 6))),
    (iO 11 (.bin .add (.t 10) (nI 1))),
    (iO 6 (.mv (.t 11)))])))
noncomputable def z51u0t (k n : Nat) (d : z51u0p.D) : Option (XD z51u0x) := overspillref02_Rowu0 k n d.1 d.2.1 d.2.2.1 d.2.2.2
theorem z51u0_k (k : Nat) : UOK P GL (mkU z51u0p z51u0x (z51u0t k k) nilU) z51u0d true z51u0b :=
  loop_typed (ud := z51u0d) (body := z51u0b) (uorc := uorT (z51U0 k)) hmo (T50_ok k).oo (z51U0_k k) (AllU.no (by kernel_rfl)) (t := z51u0t k) (fun d => by kernel_rfl) (fun n d => by kernel_rfl) k
noncomputable def z51U1 (k : Nat) : List (Nat × Ent) := (0, ⟨mkU z51u0p z51u0x (z51u0t k k) nilU⟩) :: z51U0 k
theorem z51U1_k (k : Nat) : UTab (z51U1 k) := (z51U0_k k).cons (mkU_nat nilU_nat)
noncomputable def overspillref02_Row (k : Nat) (x0 : Int) (x1 : Int) : Option (List UInt8) :=
  Option.bind (overspillref02_Rowu0 k k x0 x1 ([] : List UInt8) 0) fun (v210 : List UInt8) =>
  some v210
noncomputable def z51b : AC :=
  (.seq (.region [(iO 4 (.mv (.c (.tv .str (([] : List UInt8) : List UInt8)))))])
  (.seq (.region [(iO 5 (.mv (.c (.tv .str (([] : List UInt8) : List UInt8)))))])
  (.seq (.seq (.region [(iO 6 (.mv (nI 0)))])
  (.block 0 (.unit 0 z51u0d true z51u0b)))
  (.seq (.region [(iO 22 (.mv (.t 5))),
    (iO 4 (.mv (.t 22)))])
  .ret))))
noncomputable def z51f : FDef := ⟨2, 23, [.tmp 4 none], z51b⟩
noncomputable def z51p : XPat := ⟨.normal, [(.tv (.int .i64)), (.tv (.int .i64))], []⟩
noncomputable def z51x : List XPat := [⟨.ret, [(.tv .str)], []⟩]
noncomputable def z51t (k : Nat) (d : z51p.D) : Option (XD z51x) := overspillref02_Row k d.1 d.2
noncomputable def z51_e (k : Nat) : UEntry := mkU z51p z51x (z51t k) nilU
theorem z51_n (k : Nat) : UNat (z51_e k) := mkU_nat nilU_nat
theorem z51_fu (k : Nat) : FU P GL 34 (z51_e k) :=
  fn_typed (uorc := uorT (z51U1 k)) hmo (T50_ok k).oo (z51U1_k k) (fd := z51f) (AllU.seq (AllU.no (by kernel_rfl)) (AllU.seq (AllU.no (by kernel_rfl)) (AllU.seq (AllU.seq (AllU.no (by kernel_rfl)) (AllU.block (AllU.unit (uorc := uorT (z51U1 k)) (u := 0) (z51u0_k k)))) (AllU.no (by kernel_rfl))))) (fn := Tryd.f34) (by kernel_rfl) (by kernel_rfl) (fun d => by kernel_rfl) FU_nil
noncomputable def T51 (k : Nat) : List (Nat × Ent) := (34, ⟨z51_e k⟩) :: T50 k
theorem T51_ok (k : Nat) : TabOK P GL (T51 k) := (T50_ok k).cons (z51_fu k) (z51_n k)
/-! ### overspill.overspillref02.Show -/
noncomputable def z52U0 (_ : Nat) : List (Nat × Ent) := []
theorem z52U0_k (k : Nat) : UTab (z52U0 k) := UTab.nil
noncomputable def z52u0d : UDef := ⟨[(0, none), (3, none), (4, none)], [3, 4, 5, 6, 7, 8, 9, 10, 11, 12, 13, 14, 15, 16, 17], [((.exit 0), [(3, none)])], []⟩
noncomputable def z52u0p : XPat := ⟨.normal, [(.tv .str), (.row 0), (.tv (.int .i64))], [(.row (.int .u8) false)]⟩
noncomputable def z52u0x : List XPat := [⟨(.exit 0), [(.row 0)], [(.row (.int .u8) false)]⟩]
noncomputable def overspillref02_Showu0 (k : Nat) : Nat → (List UInt8) → (Int) → (List (Int)) → Option ((Unit) × (List (Int)))
  | 0, _, _, _ => none
  | n + 1, x0, x1, x2 =>
    bif (decide (x1 < ((List.length x0 : Nat) : Int))) then
      bif (inR x1 (List.length x0)) then
        Option.bind (overspillref02_Row k (wr .i64 ((UInt8.toNat (List.getD x0 (Int.toNat x1) 0) : Nat) : Int)) 8) fun (v212 : List UInt8) =>
        bif (decide ((List.length x2) + (List.length (List.map (fun (b : UInt8) => (b.toNat : Int)) v212)) ≤ rowMax)) then
          Option.bind (overspillref02_Showu0 k n x0 (wr .i64 (x1 + 1)) (x2 ++ (List.map (fun (b : UInt8) => (b.toNat : Int)) v212))) fun r => some r
        else
          none
      else
        none
    else
    some ((), x2)
noncomputable def z52u0b : AC :=
  (.seq (.seq (.region [(iO 5 (.mv (.t 4))),
    (iO 6 (.mv (.t 0))),
    (iO 7 (.lens (.t 6))),
    (iO 8 (.bin .lss (.t 5) (.t 7)))])
  (.cond (.t 8)
  .skip
  (.exit 0)))
  (.seq (.block 1 (.region [(iO 11 (.mv (.t 3))),
    (iO 12 (.mv (.t 0))),
    (iO 13 (.mv (.t 4))),
    (iO 14 (.ixs (.t 12) (.t 13))),
    (iO 15 (.conv .i64 (.t 14))),
    (iC 16 34 [((.t 15), none), ((nI 8), none)]),
    (iO 17 (.app (.int .u8) (.t 11) (.t 16))),
    (iO 3 (.mv (.t 17)))]))
  (.region [(iO 9 (.mv (.t 4))),
    (iO 10 (.bin .add (.t 9) (nI 1))),
    (iO 4 (.mv (.t 10)))])))
noncomputable def z52u0t (k n : Nat) (d : z52u0p.D) : Option (XD z52u0x) := overspillref02_Showu0 k n d.1.1 d.1.2.2 d.2
theorem z52u0_k (k : Nat) : UOK P GL (mkU z52u0p z52u0x (z52u0t k k) nilU) z52u0d true z52u0b :=
  loop_typed (ud := z52u0d) (body := z52u0b) (uorc := uorT (z52U0 k)) hmo (T51_ok k).oo (z52U0_k k) (AllU.no (by kernel_rfl)) (t := z52u0t k) (fun d => by kernel_rfl) (fun n d => by kernel_rfl) k
noncomputable def z52U1 (k : Nat) : List (Nat × Ent) := (0, ⟨mkU z52u0p z52u0x (z52u0t k k) nilU⟩) :: z52U0 k
theorem z52U1_k (k : Nat) : UTab (z52U1 k) := (z52U0_k k).cons (mkU_nat nilU_nat)
noncomputable def overspillref02_Show (k : Nat) (x0 : List UInt8) : Option (List UInt8) :=
  Option.bind (overspillref02_Showu0 k k x0 0 ([] : List (Int))) fun (v213 : (Unit) × (List (Int))) =>
  some (List.map toU8 v213.2)
noncomputable def z52b : AC :=
  (.seq (.region [(iO 2 (.mv (.c (.tv .str (([] : List UInt8) : List UInt8)))))])
  (.seq (.region [(iO 3 (.nrow (.int .u8)))])
  (.seq (.seq (.region [(iO 4 (.mv (nI 0)))])
  (.block 0 (.unit 0 z52u0d true z52u0b)))
  (.seq (.region [(iO 18 (.mv (.t 3))),
    (iO 19 (.bstr (.t 18))),
    (iO 2 (.mv (.t 19)))])
  .ret))))
noncomputable def z52f : FDef := ⟨1, 20, [.tmp 2 none], z52b⟩
noncomputable def z52p : XPat := ⟨.normal, [(.tv .str)], []⟩
noncomputable def z52x : List XPat := [⟨.ret, [(.tv .str)], []⟩]
noncomputable def z52t (k : Nat) (d : z52p.D) : Option (XD z52x) := overspillref02_Show k d
noncomputable def z52_e (k : Nat) : UEntry := mkU z52p z52x (z52t k) nilU
theorem z52_n (k : Nat) : UNat (z52_e k) := mkU_nat nilU_nat
theorem z52_fu (k : Nat) : FU P GL 12 (z52_e k) :=
  fn_typed (uorc := uorT (z52U1 k)) hmo (T51_ok k).oo (z52U1_k k) (fd := z52f) (AllU.seq (AllU.no (by kernel_rfl)) (AllU.seq (AllU.no (by kernel_rfl)) (AllU.seq (AllU.seq (AllU.no (by kernel_rfl)) (AllU.block (AllU.unit (uorc := uorT (z52U1 k)) (u := 0) (z52u0_k k)))) (AllU.no (by kernel_rfl))))) (fn := Tryd.f12) (by kernel_rfl) (by kernel_rfl) (fun d => by kernel_rfl) FU_nil
noncomputable def T52 (k : Nat) : List (Nat × Ent) := (12, ⟨z52_e k⟩) :: T51 k
theorem T52_ok (k : Nat) : TabOK P GL (T52 k) := (T51_ok k).cons (z52_fu k) (z52_n k)
/-! ### overspill.overspillref06.rows -/
noncomputable def z53U0 (_ : Nat) : List (Nat × Ent) := []
theorem z53U0_k (k : Nat) : UTab (z53U0 k) := UTab.nil
noncomputable def overspillref06_rows (k : Nat) (x0 : Bool) : Option (List (List UInt8)) :=
  bif x0 then
    some ([([49] : List UInt8), ([48, 48, 49, 49] : List UInt8), ([48, 48, 49, 48] : List UInt8), ([48, 48, 48, 49, 48, 49] : List UInt8), ([48, 49, 49] : List UInt8), ([48, 48, 48, 48, 49, 49, 49] : List UInt8), ([48, 48, 48, 48, 49, 49, 48] : List UInt8), ([48, 48, 48, 48, 48, 48, 49, 48, 49] : List UInt8), ([48, 49, 48] : List UInt8), ([48, 48, 48, 48, 49, 48, 49] : List UInt8), ([48, 48, 48, 48, 49, 48, 48] : List UInt8), ([48, 48, 48, 48, 48, 49, 48, 49] : List UInt8), ([48, 48, 48, 49, 49] : List UInt8), ([48, 48, 48, 48, 48, 49, 48, 48] : List UInt8), ([48, 48, 48, 48, 48, 48, 49, 49] : List UInt8), ([48, 48, 48, 48, 48, 49, 49] : List UInt8), ([48, 48, 48, 49, 48, 48] : List UInt8), ([48, 48, 48, 48, 48, 48, 49, 48, 48] : List UInt8), ([48, 48, 48, 48, 48, 48, 48, 49, 49] : List UInt8), ([48, 48, 48, 48, 48, 48, 48, 49, 48] : List UInt8), ([48, 48, 48, 48, 48, 48, 48, 48, 49] : List UInt8)] : List (List UInt8))
  else
  some ([([] : List UInt8), ([] : List UInt8), ([] : List UInt8), ([] : List UInt8), ([] : List UInt8), ([] : List UInt8), ([] : List UInt8), ([] : List UInt8), ([] : List UInt8), ([] : List UInt8), ([] : List UInt8), ([] : List UInt8), ([49] : List UInt8), ([48, 48, 49] : List UInt8), ([48, 49, 48] : List UInt8), ([48, 49, 49] : List UInt8), ([48, 48, 48, 49] : List UInt8), ([48, 48, 48, 48, 48, 49] : List UInt8), ([48, 48, 48, 48, 49, 48] : List UInt8), ([48, 48, 48, 48, 49, 49] : List UInt8), ([48, 48, 48, 48, 48, 48, 48, 48, 49] : List UInt8)] : List (List UInt8))
noncomputable def z53b : AC :=
  (.seq (.region [(iO 2 (.nrow .str))])
  (.seq (.seq (.region [(iO 3 (.mv (.t 0)))])
  (.cond (.t 3)
  (.seq (.region [(iO 4 (.bslice .str [(.c (.tv .str (([49] : List UInt8) : List UInt8))), (.c (.tv .str (([48, 48, 49, 49] : List UInt8) : List UInt8))), (.c (.tv .str (([48, 48, 49, 48] : List UInt8) : List UInt8))), (.c (.tv .str (([48, 48, 48, 49, 48, 49] : List UInt8) : List UInt8))), (.c (.tv .str (([48, 49, 49] : List UInt8) : List UInt8))), (.c (.tv .str (([48, 48, 48, 48, 49, 49, 49] : List UInt8) : List UInt8))), (.c (.tv .str (([48, 48, 48, 48, 49, 49, 48] : List UInt8) : List UInt8))), (.c (.tv .str (([48, 48, 48, 48, 48, 48, 49, 48, 49] : List UInt8) : List UInt8))), (.c (.tv .str (([48, 49, 48] : List UInt8) : List UInt8))), (.c (.tv .str (([48, 48, 48, 48, 49, 48, 49] : List UInt8) : List UInt8))), (.c (.tv .str (([48, 48, 48, 48, 49, 48, 48] : List UInt8) : List UInt8))), (.c (.tv .str (([48, 48, 48, 48, 48, 49, 48, 49] : List UInt8) : List UInt8))), (.c (.tv .str (([48, 48, 48, 49, 49] : List UInt8) : List UInt8))), (.c (.tv .str (([48, 48, 48, 48, 48, 49, 48, 48] : List UInt8) : List UInt8))), (.c (.tv .str (([48, 48, 48, 48, 48, 48, 49, 49] : List UInt8) : List UInt8))), (.c (.tv .str (([48, 48, 48, 48, 48, 49, 49] : List UInt8) : List UInt8))), (.c (.tv .str (([48, 48, 48, 49, 48, 48] : List UInt8) : List UInt8))), (.c (.tv .str (([48, 48, 48, 48, 48, 48, 49, 48, 48] : List UInt8) : List UInt8))), (.c (.tv .str (([48, 48, 48, 48, 48, 48, 48, 49, 49] : List UInt8) : List UInt8))), (.c (.tv .str (([48, 48, 48, 48, 48, 48, 48, 49, 48] : List UInt8) : List UInt8))), (.c (.tv .str (([48, 48, 48, 48, 48, 48, 48, 48, 49] : List UInt8) : List UInt8)))])),
      (iO 2 (.mv (.t 4)))])
    .ret)
  .skip))
  (.seq (.region [(iO 5 (.bslice .str [(.c (.tv .str (([] : List UInt8) : List UInt8))), (.c (.tv .str (([] : List UInt8) : List UInt8))), (.c (.tv .str (([] : List UInt8) : List UInt8))), (.c (.tv .str (([] : List UInt8) : List UInt8))), (.c (.tv .str (([] : List UInt8) : List UInt8))), (.c (.tv .str (([] : List UInt8) : List UInt8))), (.c (.tv .str (([] : List UInt8) : List UInt8))), (.c (.tv .str (([] : List UInt8) : List UInt8))), (.c (.tv .str (([] : List UInt8) : List UInt8))), (.c (.tv .str (([] : List UInt8) : List UInt8))), (.c (.tv .str (([] : List UInt8) : List UInt8))), (.c (.tv .str (([] : List UInt8) : List UInt8))), (.c (.tv .str (([49] : List UInt8) : List UInt8))), (.c (.tv .str (([48, 48, 49] : List UInt8) : List UInt8))), (.c (.tv .str (([48, 49, 48] : List UInt8) : List UInt8))), (.c (.tv .str (([48, 49, 49] : List UInt8) : List UInt8))), (.c (.tv .str (([48, 48, 48, 49] : List UInt8) : List UInt8))), (.c (.tv .str (([48, 48, 48, 48, 48, 49] : List UInt8) : List UInt8))), (.c (.tv .str (([48, 48, 48, 48, 49, 48] : List UInt8) : List UInt8))), (.c (.tv .str (([48, 48, 48, 48, 49, 49] : List UInt8) : List UInt8))), (.c (.tv .str (([48, 48, 48, 48, 48, 48, 48, 48, 49] : List UInt8) : List UInt8)))])),
    (iO 2 (.mv (.t 5)))])
  .ret)))
noncomputable def z53f : FDef := ⟨1, 6, [.tmp 2 (some (.sl .str))], z53b⟩
noncomputable def z53p : XPat := ⟨.normal, [(.tv .bool)], []⟩
noncomputable def z53x : List XPat := [⟨.ret, [(.tv (.sl .str))], []⟩]
noncomputable def z53t (k : Nat) (d : z53p.D) : Option (XD z53x) := overspillref06_rows k d
noncomputable def z53_e (k : Nat) : UEntry := mkU z53p z53x (z53t k) nilU
theorem z53_n (k : Nat) : UNat (z53_e k) := mkU_nat nilU_nat
theorem z53_fu (k : Nat) : FU P GL 81 (z53_e k) :=
  fn_typed (uorc := uorT (z53U0 k)) hmo (T52_ok k).oo (z53U0_k k) (fd := z53f) (AllU.no (by kernel_rfl)) (fn := Tryd.f81) (by kernel_rfl) (by kernel_rfl) (fun d => by kernel_rfl) FU_nil
noncomputable def T53 (k : Nat) : List (Nat × Ent) := (81, ⟨z53_e k⟩) :: T52 k
theorem T53_ok (k : Nat) : TabOK P GL (T53 k) := (T52_ok k).cons (z53_fu k) (z53_n k)
/-! ### overspill.overspillref05.begins -/
noncomputable def z54U0 (_ : Nat) : List (Nat × Ent) := []
theorem z54U0_k (k : Nat) : UTab (z54U0 k) := UTab.nil
noncomputable def overspillref05_begins (k : Nat) (x0 : List UInt8) (x1 : List UInt8) : Option (Bool) :=
  bif (decide (((List.length x1 : Nat) : Int) ≤ ((List.length x0 : Nat) : Int))) then
    bif (decide ((0 : Int) ≤ ((List.length x1 : Nat) : Int) ∧ ((List.length x1 : Nat) : Int) ≤ (((List.length x0) : Nat) : Int))) then
      some (decide ((List.drop 0 (List.take (Int.toNat ((List.length x1 : Nat) : Int)) x0)) = x1))
    else
      none
  else
  some false
noncomputable def z54b : AC :=
  (.seq (.region [(iO 4 (.mv (.c (.tv .bool (false : Bool)))))])
  (.seq (.region [(iO 5 (.mv (.t 0))),
    (iO 6 (.lens (.t 5))),
    (iO 7 (.mv (.t 1))),
    (iO 8 (.lens (.t 7))),
    (iO 9 (.bin .geq (.t 6) (.t 8))),
    (iO 10 (.mv (.t 9))),
    ⟨some 11, some (5, 10, true), (.op (.mv (.t 0))), []⟩,
    ⟨some 12, some (5, 10, true), (.op (.mv (.t 1))), []⟩,
    ⟨some 13, some (5, 10, true), (.op (.lens (.t 12))), []⟩,
    ⟨some 14, some (5, 10, true), (.op (.slis (.t 11) none (some (.t 13)))), []⟩,
    ⟨some 15, some (5, 10, true), (.op (.mv (.t 1))), []⟩,
    ⟨some 16, some (5, 10, true), (.op (.bin .eql (.t 14) (.t 15))), []⟩,
    (iO 17 (.pick (.t 10) (.t 16) (.c (.tv .bool (false : Bool))))),
    (iO 4 (.mv (.t 17)))])
  .ret))
noncomputable def z54f : FDef := ⟨2, 18, [.tmp 4 none], z54b⟩
noncomputable def z54p : XPat := ⟨.normal, [(.tv .str), (.tv .str)], []⟩
noncomputable def z54x : List XPat := [⟨.ret, [(.tv .bool)], []⟩]
noncomputable def z54t (k : Nat) (d : z54p.D) : Option (XD z54x) := overspillref05_begins k d.1 d.2
noncomputable def z54_e (k : Nat) : UEntry := mkU z54p z54x (z54t k) nilU
theorem z54_n (k : Nat) : UNat (z54_e k) := mkU_nat nilU_nat
theorem z54_fu (k : Nat) : FU P GL 82 (z54_e k) :=
  fn_typed (uorc := uorT (z54U0 k)) hmo (T53_ok k).oo (z54U0_k k) (fd := z54f) (AllU.no (by kernel_rfl)) (fn := Tryd.f82) (by kernel_rfl) (by kernel_rfl) (fun d => by kernel_rfl) FU_nil
noncomputable def T54 (k : Nat) : List (Nat × Ent) := (82, ⟨z54_e k⟩) :: T53 k
theorem T54_ok (k : Nat) : TabOK P GL (T54 k) := (T53_ok k).cons (z54_fu k) (z54_n k)
/-! ### overspill.overspillref05.Take -/
noncomputable def z55U0 (_ : Nat) : List (Nat × Ent) := []
theorem z55U0_k (k : Nat) : UTab (z55U0 k) := UTab.nil
noncomputable def z55u0d : UDef := ⟨[(0, none), (1, none), (2, none), (9, none), (10, none), (11, none)], [6, 7, 8, 10, 11, 23, 24, 25, 26, 27, 28, 29, 30, 31, 32, 33, 34, 35, 36, 37, 38, 39, 40, 41, 42, 43, 44, 45, 46, 47, 48, 49, 50, 51, 52, 53, 54, 55, 56, 57], [(.ret, [(6, none), (7, none), (8, none)]), ((.exit 2), [(10, none)])], []⟩
noncomputable def z55u0p : XPat := ⟨.normal, [(.tv (.sl .str)), (.tv .str), (.tv (.int .i64)), (.tv (.int .i64)), (.tv .bool), (.tv (.int .i64))], []⟩
noncomputable def z55u0x : List XPat := [⟨.ret, [(.tv (.int .i64)), (.tv (.int .i64)), (.tv (.int .i64))], []⟩, ⟨(.exit 2), [(.tv .bool)], []⟩]
noncomputable def overspillref05_Takeu0 (k : Nat) : Nat → (List (List UInt8)) → (List UInt8) → (Int) → (Int) → (Bool) → (Int) → Option (((Int) × ((Int) × (Int))) ⊕ (Bool))
  | 0, _, _, _, _, _, _ => none
  | n + 1, x0, x1, x2, x3, x4, x5 =>
    bif (decide (x5 < ((List.length x0 : Nat) : Int))) then
      bif (inR x5 (List.length x0)) then
        bif (decide ((0 : Int) ≤ x2 ∧ x2 ≤ (wr .i64 (x2 + x3)) ∧ (wr .i64 (x2 + x3)) ≤ (((List.length x1) : Nat) : Int))) then
          bif (decide ((List.getD x0 (Int.toNat x5) ([] : List UInt8)) = (List.drop (Int.toNat x2) (List.take (Int.toNat (wr .i64 (x2 + x3))) x1)))) then
            some (Sum.inl (x5, ((wr .i64 (x2 + x3)), 0)))
          else
          bif x4 then
            Option.bind (overspillref05_Takeu0 k n x0 x1 x2 x3 true (wr .i64 (x5 + 1))) fun r => Sum.elim (fun w => some (Sum.inl w)) (fun w => some (Sum.inr w)) r
          else
          bif (inR x5 (List.length x0)) then
            bif (decide ((0 : Int) ≤ x2 ∧ x2 ≤ (wr .i64 (x2 + x3)) ∧ (wr .i64 (x2 + x3)) ≤ (((List.length x1) : Nat) : Int))) then
              Option.bind (overspillref05_begins k (List.getD x0 (Int.toNat x5) ([] : List UInt8)) (List.drop (Int.toNat x2) (List.take (Int.toNat (wr .i64 (x2 + x3))) x1))) fun (v220 : Bool) =>
              Option.bind (overspillref05_Takeu0 k n x0 x1 x2 x3 v220 (wr .i64 (x5 + 1))) fun r => Sum.elim (fun w => some (Sum.inl w)) (fun w => some (Sum.inr w)) r
            else
              none
          else
            none
        else
          none
      else
        none
    else
    some (Sum.inr x4)
noncomputable def z55u0b : AC :=
  (.seq (.seq (.region [(iO 23 (.mv (.t 11))),
    (iO 24 (.mv (.t 0))),
    (iO 25 (.len (.t 24))),
    (iO 26 (.bin .lss (.t 23) (.t 25)))])
  (.cond (.t 26)
  .skip
  (.exit 2)))
  (.seq (.block 3 (.seq (.seq (.draw [(iO 29 (.mv (.t 0))),
    (iO 30 (.mv (.t 11))),
    (iOa 31 (.iads .str (.t 29) (.t 30)) [0, 1]),
    (iOa 32 (.load false 1 (.t 31)) [0, 1, 2]),
    (iO 33 (.mv (.t 1))),
    (iO 34 (.mv (.t 2))),
    (iO 35 (.mv (.t 2))),
    (iO 36 (.mv (.t 9))),
    (iOa 37 (.bin .add (.t 35) (.t 36)) [6, 7]),
    (iOa 38 (.slis (.t 33) (some (.t 34)) (some (.t 37))) (rg [4, 5])),
    (iOa 39 (.bin .eql (.t 32) (.t 38)) (rg [0, 10]))])
  (.cond (.t 39)
  (.seq (.region [(iO 40 (.mv (.t 11))),
      (iO 41 (.mv (.t 2))),
      (iO 42 (.mv (.t 9))),
      (iO 43 (.bin .add (.t 41) (.t 42))),
      (iO 6 (.mv (.t 40))),
      (iO 7 (.mv (.t 43))),
      (iO 8 (.mv (nI 0)))])
    .ret)
  .skip))
  (.draw [(iO 44 (.mv (.t 10))),
    (iOa 45 (.mv (.t 44)) [0]),
    ⟨some 46, some (1, 45, false), (.op (.mv (.t 0))), [0, 1]⟩,
    ⟨some 47, some (1, 45, false), (.op (.mv (.t 11))), [0, 1]⟩,
    ⟨some 48, some (1, 45, false), (.op (.iads .str (.t 46) (.t 47))), (rg [0, 4])⟩,
    ⟨some 49, some (1, 45, false), (.op (.load false 1 (.t 48))), (rg [0, 5])⟩,
    ⟨some 50, some (1, 45, false), (.op (.mv (.t 1))), [0, 1]⟩,
    ⟨some 51, some (1, 45, false), (.op (.mv (.t 2))), [0, 1]⟩,
    ⟨some 52, some (1, 45, false), (.op (.mv (.t 2))), [0, 1]⟩,
    ⟨some 53, some (1, 45, false), (.op (.mv (.t 9))), [0, 1]⟩,
    ⟨some 54, some (1, 45, false), (.op (.bin .add (.t 52) (.t 53))), [0, 1, 8, 9]⟩,
    ⟨some 55, some (1, 45, false), (.op (.slis (.t 50) (some (.t 51)) (some (.t 54)))), (rg [0, 2, 6, 5])⟩,
    ⟨some 56, some (1, 45, false), (.call (.c (.fn 82 .nil .nil)) [((.t 49), none), ((.t 55), none)]), (rg [0, 12])⟩,
    (iOa 57 (.pick (.t 45) (.c (.tv .bool (true : Bool))) (.t 56)) (rg [0, 13])),
    (iOa 10 (.mv (.t 57)) (rg [0, 14]))])))
  (.region [(iO 27 (.mv (.t 11))),
    (iO 28 (.bin .add (.t 27) (nI 1))),
    (iO 11 (.mv (.t 28)))])))
noncomputable def z55u0t (k n : Nat) (d : z55u0p.D) : Option (XD z55u0x) := overspillref05_Takeu0 k n d.1 d.2.1 d.2.2.1 d.2.2.2.1 d.2.2.2.2.1 d.2.2.2.2.2
theorem z55u0_k (k : Nat) : UOK P GL (mkU z55u0p z55u0x (z55u0t k k) nilU) z55u0d true z55u0b :=
  loop_typed (ud := z55u0d) (body := z55u0b) (uorc := uorT (z55U0 k)) hmo (T54_ok k).oo (z55U0_k k) (AllU.no (by kernel_rfl)) (t := z55u0t k) (fun d => by kernel_rfl) (fun n d => by kernel_rfl) k
noncomputable def z55U1 (k : Nat) : List (Nat × Ent) := (0, ⟨mkU z55u0p z55u0x (z55u0t k k) nilU⟩) :: z55U0 k
theorem z55U1_k (k : Nat) : UTab (z55U1 k) := (z55U0_k k).cons (mkU_nat nilU_nat)
noncomputable def z55u1d : UDef := ⟨[(0, none), (1, none), (2, none), (9, none)], [6, 7, 8, 9, 10, 11, 12, 13, 14, 15, 16, 17, 18, 19, 20, 21, 22, 23, 24, 25, 26, 27, 28, 29, 30, 31, 32, 33, 34, 35, 36, 37, 38, 39, 40, 41, 42, 43, 44, 45, 46, 47, 48, 49, 50, 51, 52, 53, 54, 55, 56, 57, 58, 59, 60], [(.ret, [(6, none), (7, none), (8, none)]), ((.exit 0), [])], []⟩
noncomputable def z55u1p : XPat := ⟨.normal, [(.tv (.sl .str)), (.tv .str), (.tv (.int .i64)), (.tv (.int .i64))], []⟩
noncomputable def z55u1x : List XPat := [⟨.ret, [(.tv (.int .i64)), (.tv (.int .i64)), (.tv (.int .i64))], []⟩, ⟨(.exit 0), [], []⟩]
noncomputable def overspillref05_Takeu1 (k : Nat) : Nat → (List (List UInt8)) → (List UInt8) → (Int) → (Int) → Option (((Int) × ((Int) × (Int))) ⊕ (Unit))
  | 0, _, _, _, _ => none
  | n + 1, x0, x1, x2, x3 =>
    bif (decide (x3 ≤ 25)) then
      bif (decide ((wr .i64 (((List.length x1 : Nat) : Int) - x2)) < x3)) then
        some (Sum.inl (0, (x2, 2)))
      else
      Option.bind (overspillref05_Takeu0 k k x0 x1 x2 x3 false 0) fun r =>
      Sum.elim (fun (v223 : (Int) × ((Int) × (Int))) =>
        some (Sum.inl (v223.1, (v223.2.1, v223.2.2))))
        (fun (v224 : Bool) =>
        bif (!v224) then
          some (Sum.inl (0, (x2, 3)))
        else
        Option.bind (overspillref05_Takeu1 k n x0 x1 x2 (wr .i64 (x3 + 1))) fun r => Sum.elim (fun w => some (Sum.inl w)) (fun w => some (Sum.inr w)) r) r
    else
    some (Sum.inr ())
noncomputable def z55u1b : AC :=
  (.seq (.seq (.region [(iO 12 (.mv (.t 9))),
    (iO 13 (.bin .leq (.t 12) (nI 25)))])
  (.cond (.t 13)
  .skip
  (.exit 0)))
  (.seq (.block 1 (.seq (.seq (.region [(iO 16 (.mv (.t 1))),
    (iO 17 (.lens (.t 16))),
    (iO 18 (.mv (.t 2))),
    (iO 19 (.bin .sub (.t 17) (.t 18))),
    (iO 20 (.mv (.t 9))),
    (iO 21 (.bin .lss (.t 19) (.t 20)))])
  (.cond (.t 21)
  (.seq (.region [(iO 22 (.mv (.t 2))),
      (iO 6 (.mv (nI 0))),
      (iO 7 (.mv (.t 22))),
      (iO 8 (.mv (nI 2)))])
    .ret)
  .skip))
  (.seq (.region [(iO 10 (.mv (.c (.tv .bool (false : Bool)))))])
  (.seq (.seq (.region [(iO 11 (.mv (nI 0)))])
  (.block 2 (.unit 0 z55u0d true z55u0b)))
  (.seq (.region [(iO 58 (.mv (.t 10))),
    (iO 59 (.un .not (.t 58)))])
  (.cond (.t 59)
  (.seq (.region [(iO 60 (.mv (.t 2))),
      (iO 6 (.mv (nI 0))),
      (iO 7 (.mv (.t 60))),
      (iO 8 (.mv (nI 3)))])
    .ret)
  .skip))))))
  (.region [(iO 14 (.mv (.t 9))),
    (iO 15 (.bin .add (.t 14) (nI 1))),
    (iO 9 (.mv (.t 15)))])))
noncomputable def z55u1t (k n : Nat) (d : z55u1p.D) : Option (XD z55u1x) := overspillref05_Takeu1 k n d.1 d.2.1 d.2.2.1 d.2.2.2
theorem z55u1_k (k : Nat) : UOK P GL (mkU z55u1p z55u1x (z55u1t k k) nilU) z55u1d true z55u1b :=
  loop_typed (ud := z55u1d) (body := z55u1b) (uorc := uorT (z55U1 k)) hmo (T54_ok k).oo (z55U1_k k) (AllU.seq (AllU.no (by kernel_rfl)) (AllU.seq (AllU.block (AllU.seq (AllU.no (by kernel_rfl)) (AllU.seq (AllU.no (by kernel_rfl)) (AllU.seq (AllU.seq (AllU.no (by kernel_rfl)) (AllU.block (AllU.unit (uorc := uorT (z55U1 k)) (u := 0) (z55u0_k k)))) (AllU.no (by kernel_rfl)))))) (AllU.no (by kernel_rfl)))) (t := z55u1t k) (fun d => by kernel_rfl) (fun n d => by kernel_rfl) k
noncomputable def z55U2 (k : Nat) : List (Nat × Ent) := (1, ⟨mkU z55u1p z55u1x (z55u1t k k) nilU⟩) :: z55U1 k
theorem z55U2_k (k : Nat) : UTab (z55U2 k) := (z55U1_k k).cons (mkU_nat nilU_nat)
noncomputable def overspillref05_Take (k : Nat) (x0 : List (List UInt8)) (x1 : List UInt8) (x2 : Int) : Option ((Int) × ((Int) × ((Int) × (Unit)))) :=
  Option.bind (overspillref05_Takeu1 k k x0 x1 x2 1) fun r =>
  Sum.elim (fun (v225 : (Int) × ((Int) × (Int))) =>
    some (v225.1, (v225.2.1, (v225.2.2, ()))))
    (fun (v226 : Unit) =>
    some (0, (x2, (3, ())))) r
noncomputable def z55b : AC :=
  (.seq (.region [(iO 6 (.mv (nI 0))),
    (iO 7 (.mv (nI 0))),
    (iO 8 (.mv (nI 0)))])
  (.seq (.seq (.region [(iO 9 (.mv (nI 1)))])
  (.block 0 (.unit 1 z55u1d true z55u1b)))
  (.seq (.region [(iO 61 (.mv (.t 2))),
    (iO 6 (.mv (nI 0))),
    (iO 7 (.mv (.t 61))),
    (iO 8 (.mv (nI 3)))])
  .ret)))
noncomputable def z55f : FDef := ⟨3, 62, [.tmp 6 none, .tmp 7 none, .tmp 8 none], z55b⟩
noncomputable def z55p : XPat := ⟨.normal, [(.tv (.sl .str)), (.tv .str), (.tv (.int .i64))], []⟩
noncomputable def z55x : List XPat := [⟨.ret, [(.tup (.cons (.tv (.int .i64)) (.cons (.tv (.int .i64)) (.cons (.tv (.int .i64)) .nil))))], []⟩]
noncomputable def z55t (k : Nat) (d : z55p.D) : Option (XD z55x) := overspillref05_Take k d.1 d.2.1 d.2.2
noncomputable def z55_e (k : Nat) : UEntry := mkU z55p z55x (z55t k) nilU
theorem z55_n (k : Nat) : UNat (z55_e k) := mkU_nat nilU_nat
theorem z55_fu (k : Nat) : FU P GL 58 (z55_e k) :=
  fn_typed (uorc := uorT (z55U2 k)) hmo (T54_ok k).oo (z55U2_k k) (fd := z55f) (AllU.seq (AllU.no (by kernel_rfl)) (AllU.seq (AllU.seq (AllU.no (by kernel_rfl)) (AllU.block (AllU.unit (uorc := uorT (z55U2 k)) (u := 1) (z55u1_k k)))) (AllU.no (by kernel_rfl)))) (fn := Tryd.f58) (by kernel_rfl) (by kernel_rfl) (fun d => by kernel_rfl) FU_nil
noncomputable def T55 (k : Nat) : List (Nat × Ent) := (58, ⟨z55_e k⟩) :: T54 k
theorem T55_ok (k : Nat) : TabOK P GL (T55 k) := (T54_ok k).cons (z55_fu k) (z55_n k)
/-! ### overspill.overspillref06.Take -/
noncomputable def z56U0 (_ : Nat) : List (Nat × Ent) := []
theorem z56U0_k (k : Nat) : UTab (z56U0 k) := UTab.nil
noncomputable def z56u0d : UDef := ⟨[(10, none), (11, none), (12, none)], [11, 12, 18, 19, 20, 21, 22, 23, 24, 25, 26, 27, 28, 29, 30, 31, 32, 33, 34, 35], [((.exit 0), [(11, none)])], []⟩
noncomputable def z56u0p : XPat := ⟨.normal, [(.tv (.sl .str)), (.row 0), (.tv (.int .i64))], [(.row .str false)]⟩
noncomputable def z56u0x : List XPat := [⟨(.exit 0), [(.row 0)], [(.row .str false)]⟩]
noncomputable def overspillref06_Takeu0 (k : Nat) : Nat → (List (List UInt8)) → (Int) → (List (List UInt8)) → Option ((Unit) × (List (List UInt8)))
  | 0, _, _, _ => none
  | n + 1, x0, x1, x2 =>
    bif (decide (x1 < ((List.length x0 : Nat) : Int))) then
      bif (inR x1 (List.length x0)) then
        bif (!(decide ((List.getD x0 (Int.toNat x1) ([] : List UInt8)) = ([] : List UInt8)))) then
          bif (inR x1 (List.length x0)) then
            bif (decide ((List.length x2) + 1 ≤ rowMax)) then
              Option.bind (overspillref06_Takeu0 k n x0 (wr .i64 (x1 + 1)) (x2 ++ ([(List.getD x0 (Int.toNat x1) ([] : List UInt8))] : List (List UInt8)))) fun r => some r
            else
              none
          else
            none
        else
        Option.bind (overspillref06_Takeu0 k n x0 (wr .i64 (x1 + 1)) x2) fun r => some r
      else
        none
    else
    some ((), x2)
noncomputable def z56u0b : AC :=
  (.seq (.seq (.region [(iO 18 (.mv (.t 12))),
    (iO 19 (.mv (.t 10))),
    (iO 20 (.len (.t 19))),
    (iO 21 (.bin .lss (.t 18) (.t 20)))])
  (.cond (.t 21)
  .skip
  (.exit 0)))
  (.seq (.block 1 (.seq (.region [(iO 24 (.mv (.t 10))),
    (iO 25 (.mv (.t 12))),
    (iO 26 (.iads .str (.t 24) (.t 25))),
    (iO 27 (.load false 1 (.t 26))),
    (iO 28 (.bin .neq (.t 27) (.c (.tv .str (([] : List UInt8) : List UInt8)))))])
  (.cond (.t 28)
  (.region [(iO 29 (.mv (.t 11))),
      (iO 30 (.mv (.t 10))),
      (iO 31 (.mv (.t 12))),
      (iO 32 (.iads .str (.t 30) (.t 31))),
      (iO 33 (.load false 1 (.t 32))),
      (iO 34 (.bslice .str [(.t 33)])),
      (iO 35 (.app .str (.t 29) (.t 34))),
      (iO 11 (.mv (.t 35)))])
  .skip)))
  (.region [(iO 22 (.mv (.t 12))),
    (iO 23 (.bin .add (.t 22) (nI 1))),
    (iO 12 (.mv (.t 23)))])))
noncomputable def z56u0t (k n : Nat) (d : z56u0p.D) : Option (XD z56u0x) := overspillref06_Takeu0 k n d.1.1 d.1.2.2 d.2
theorem z56u0_k (k : Nat) : UOK P GL (mkU z56u0p z56u0x (z56u0t k k) nilU) z56u0d true z56u0b :=
  loop_typed (ud := z56u0d) (body := z56u0b) (uorc := uorT (z56U0 k)) hmo (T55_ok k).oo (z56U0_k k) (AllU.no (by kernel_rfl)) (t := z56u0t k) (fun d => by kernel_rfl) (fun n d => by kernel_rfl) k
noncomputable def z56U1 (k : Nat) : List (Nat × Ent) := (0, ⟨mkU z56u0p z56u0x (z56u0t k k) nilU⟩) :: z56U0 k
theorem z56U1_k (k : Nat) : UTab (z56U1 k) := (z56U0_k k).cons (mkU_nat nilU_nat)
noncomputable def z56u1d : UDef := ⟨[(13, none), (49, none)], [13, 50, 51], [(.normal, [(13, none)])], []⟩
noncomputable def z56u1p : XPat := ⟨.normal, [(.tv (.int .i64)), (.tv .bool)], []⟩
noncomputable def z56u1x : List XPat := [⟨.normal, [(.tv (.int .i64))], []⟩]
noncomputable def overspillref06_Takeu1 (k : Nat) (x0 : Int) (x1 : Bool) : Option (Int) :=
  bif x1 then
    some (wr .i64 (x0 + 12))
  else
  some x0
noncomputable def z56u1b : AC :=
  (.cond (.t 49)
  (.region [(iO 50 (.mv (.t 13))),
      (iO 51 (.bin .add (.t 50) (nI 12))),
      (iO 13 (.mv (.t 51)))])
  .skip)
noncomputable def z56u1t (k : Nat) (d : z56u1p.D) : Option (XD z56u1x) := overspillref06_Takeu1 k d.1 d.2
theorem z56u1_k (k : Nat) : UOK P GL (mkU z56u1p z56u1x (z56u1t k) nilU) z56u1d false z56u1b :=
  unit_typed (ud := z56u1d) (body := z56u1b) (uorc := uorT (z56U1 k)) hmo (T55_ok k).oo (z56U1_k k) (AllU.no (by kernel_rfl)) (fun d => by kernel_rfl)
noncomputable def z56U2 (k : Nat) : List (Nat × Ent) := (1, ⟨mkU z56u1p z56u1x (z56u1t k) nilU⟩) :: z56U1 k
theorem z56U2_k (k : Nat) : UTab (z56U2 k) := (z56U1_k k).cons (mkU_nat nilU_nat)
noncomputable def overspillref06_Take (k : Nat) (x0 : List UInt8) (x1 : Int) (x2 : Bool) : Option ((Int) × ((Int) × ((Int) × ((Int) × (Unit))))) :=
  Option.bind (overspillref06_rows k x2) fun (v217 : List (List UInt8)) =>
  Option.bind (overspillref06_Takeu0 k k v217 0 ([] : List (List UInt8))) fun (v218 : (Unit) × (List (List UInt8))) =>
  Option.bind (overspillref05_Take k v218.2 x0 x1) fun (v227 : (Int) × ((Int) × ((Int) × (Unit)))) =>
  bif (!(decide (v227.2.2.1 = 0))) then
    some (0, (0, (x1, (v227.2.2.1, ()))))
  else
  Option.bind (overspillref06_Takeu1 k v227.1 (!x2)) fun (v228 : Int) =>
  bif (decide ((wr .i64 (Int.tdiv v228 4)) = 2)) then
    some (0, (0, (x1, (6, ()))))
  else
  some ((wr .i64 (Int.tdiv v228 4)), ((Int.tmod v228 4), (v227.2.1, (0, ()))))
noncomputable def z56b : AC :=
  (.seq (.region [(iO 6 (.mv (nI 0))),
    (iO 7 (.mv (nI 0))),
    (iO 8 (.mv (nI 0))),
    (iO 9 (.mv (nI 0)))])
  (.seq (.region [(iO 16 (.mv (.t 2))),
    (iC 17 81 [((.t 16), none)]),
    (iO 10 (.mv (.t 17)))])
  (.seq (.region [(iO 11 (.nrow .str))])
  (.seq (.seq (.region [(iO 12 (.mv (nI 0)))])
  (.block 0 (.unit 0 z56u0d true z56u0b)))
  (.seq (.region [(iO 37 (.mv (.t 11))),
    (iO 38 (.mv (.t 0))),
    (iO 39 (.mv (.t 1))),
    (iC 40 58 [((.t 37), some (.sl .str)), ((.t 38), none), ((.t 39), none)]),
    (iO 36 (.mv (.t 40))),
    (iO 41 (.ext (.t 36) 0)),
    (iO 42 (.ext (.t 36) 1)),
    (iO 43 (.ext (.t 36) 2)),
    (iO 13 (.mv (.t 41))),
    (iO 14 (.mv (.t 42))),
    (iO 15 (.mv (.t 43)))])
  (.seq (.seq (.region [(iO 44 (.mv (.t 15))),
    (iO 45 (.bin .neq (.t 44) (nI 0)))])
  (.cond (.t 45)
  (.seq (.region [(iO 46 (.mv (.t 1))),
      (iO 47 (.mv (.t 15))),
      (iO 6 (.mv (nI 0))),
      (iO 7 (.mv (nI 0))),
      (iO 8 (.mv (.t 46))),
      (iO 9 (.mv (.t 47)))])
    .ret)
  .skip))
  (.seq (.seq (.region [(iO 48 (.mv (.t 2))),
    (iO 49 (.un .not (.t 48)))])
  (.unit 1 z56u1d false z56u1b))
  (.seq (.seq (.region [(iO 52 (.mv (.t 13))),
    (iO 53 (.bin .quo (.t 52) (nI 4))),
    (iO 54 (.bin .eql (.t 53) (nI 2)))])
  (.cond (.t 54)
  (.seq (.region [(iO 55 (.mv (.t 1))),
      (iO 6 (.mv (nI 0))),
      (iO 7 (.mv (nI 0))),
      (iO 8 (.mv (.t 55))),
      (iO 9 (.mv (nI 6)))])
    .ret)
  .skip))
  (.seq (.region [(iO 56 (.mv (.t 13))),
    (iO 57 (.bin .quo (.t 56) (nI 4))),
    (iO 58 (.mv (.t 13))),
    (iO 59 (.bin .rem (.t 58) (nI 4))),
    (iO 60 (.mv (.t 14))),
    (iO 6 (.mv (.t 57))),
    (iO 7 (.mv (.t 59))),
    (iO 8 (.mv (.t 60))),
    (iO 9 (.mv (nI 0)))])
  .ret)))))))))
noncomputable def z56f : FDef := ⟨3, 61, [.tmp 6 none, .tmp 7 none, .tmp 8 none, .tmp 9 none], z56b⟩
noncomputable def z56p : XPat := ⟨.normal, [(.tv .str), (.tv (.int .i64)), (.tv .bool)], []⟩
noncomputable def z56x : List XPat := [⟨.ret, [(.tup (.cons (.tv (.int .i64)) (.cons (.tv (.int .i64)) (.cons (.tv (.int .i64)) (.cons (.tv (.int .i64)) .nil)))))], []⟩]
noncomputable def z56t (k : Nat) (d : z56p.D) : Option (XD z56x) := overspillref06_Take k d.1 d.2.1 d.2.2
noncomputable def z56_e (k : Nat) : UEntry := mkU z56p z56x (z56t k) nilU
theorem z56_n (k : Nat) : UNat (z56_e k) := mkU_nat nilU_nat
theorem z56_fu (k : Nat) : FU P GL 57 (z56_e k) :=
  fn_typed (uorc := uorT (z56U2 k)) hmo (T55_ok k).oo (z56U2_k k) (fd := z56f) (AllU.seq (AllU.no (by kernel_rfl)) (AllU.seq (AllU.no (by kernel_rfl)) (AllU.seq (AllU.no (by kernel_rfl)) (AllU.seq (AllU.seq (AllU.no (by kernel_rfl)) (AllU.block (AllU.unit (uorc := uorT (z56U2 k)) (u := 0) (z56u0_k k)))) (AllU.seq (AllU.no (by kernel_rfl)) (AllU.seq (AllU.no (by kernel_rfl)) (AllU.seq (AllU.seq (AllU.no (by kernel_rfl)) (AllU.unit (uorc := uorT (z56U2 k)) (u := 1) (z56u1_k k))) (AllU.no (by kernel_rfl))))))))) (fn := Tryd.f57) (by kernel_rfl) (by kernel_rfl) (fun d => by kernel_rfl) FU_nil
noncomputable def T56 (k : Nat) : List (Nat × Ent) := (57, ⟨z56_e k⟩) :: T55 k
theorem T56_ok (k : Nat) : TabOK P GL (T56 k) := (T55_ok k).cons (z56_fu k) (z56_n k)
/-! ### overspill.overspillref21.begin -/
noncomputable def z57U0 (_ : Nat) : List (Nat × Ent) := []
theorem z57U0_k (k : Nat) : UTab (z57U0 k) := UTab.nil
noncomputable def z57u0d : UDef := ⟨[(0, none), (1, none), (6, none), (10, none), (15, none)], [1, 7, 8, 9, 16, 17, 18, 19, 20, 21, 22, 23, 24, 25, 26, 27, 28, 29, 30], [(.ret, [(7, none), (8, none), (9, none)]), (.normal, [(1, none)])], []⟩
noncomputable def z57u0p : XPat := ⟨.normal, [(.tv .str), (.tv (.int .i64)), (.ptr 0 []), (.ptr 1 []), (.tv .bool)], [(.box (.tv YCell)), (.box (.tv YCell))]⟩
noncomputable def z57u0x : List XPat := [⟨.ret, [(.tv (.int .i64)), (.tv (.int .i64)), (.tv (.int .i64))], [(.box (.tv YCell)), (.box (.tv YCell))]⟩, ⟨.normal, [(.tv (.int .i64))], [(.box (.tv YCell)), (.box (.tv YCell))]⟩]
noncomputable def overspillref21_beginu0 (k : Nat) (x0 : List UInt8) (x1 : Int) (x2 : Bool) (x3 : DCell) (x4 : DCell) : Option ((((Int) × ((Int) × (Int))) × ((DCell) × (DCell))) ⊕ ((Int) × ((DCell) × (DCell)))) :=
  bif x2 then
    bif (decide (x1 = ((List.length x0 : Nat) : Int))) then
      some (Sum.inl ((0, (0, 2)), ((0, (false, (0, (0, ((Ty.zero (.arr 2 (.int .i64))), ((Ty.zero (.arr 6 (.int .i64))), ((Ty.zero (.arr 6 (.sl YEvent))), ()))))))), x4)))
    else
    bif (inR (wr .i64 ((wr .i64 (x1 + 1)) - 1)) (List.length x0)) then
      bif (decide (((UInt8.toNat (List.getD x0 (Int.toNat (wr .i64 ((wr .i64 (x1 + 1)) - 1))) 0) : Nat) : Int) = 49)) then
        some (Sum.inl ((0, ((wr .i64 (x1 + 1)), 0)), ((x4.1, (true, x4.2.2)), (x4.1, (true, x4.2.2)))))
      else
      some (Sum.inr ((wr .i64 (x1 + 1)), (x3, x4)))
    else
      none
  else
  some (Sum.inr (x1, (x3, x4)))
noncomputable def z57u0b : AC :=
  (.cond (.t 15)
  (.seq (.seq (.region [(iO 16 (.mv (.t 1))),
      (iO 17 (.mv (.t 0))),
      (iO 18 (.lens (.t 17))),
      (iO 19 (.bin .eql (.t 16) (.t 18)))])
    (.cond (.t 19)
    (.seq (.region [(iO 20 (.build 34 (.tv YCell) [])),
        (iS (.store 18 none (.t 6) (.t 20))),
        (iO 7 (.mv (nI 0))),
        (iO 8 (.mv (nI 0))),
        (iO 9 (.mv (nI 2)))])
      .ret)
    .skip))
    (.seq (.region [(iO 21 (.mv (.t 1))),
      (iO 22 (.bin .add (.t 21) (nI 1))),
      (iO 1 (.mv (.t 22)))])
    (.seq (.region [(iO 23 (.mv (.t 0))),
      (iO 24 (.mv (.t 1))),
      (iO 25 (.bin .sub (.t 24) (nI 1))),
      (iO 26 (.ixs (.t 23) (.t 25))),
      (iO 27 (.bin .eql (.t 26) (.c (.tv (.int .u8) (49 : Int)))))])
    (.cond (.t 27)
    (.seq (.region [(iO 28 (.fad 1 1 (.t 10))),
        (iS (.store 1 none (.t 28) (.c (.tv .bool (true : Bool)))))])
      (.seq (.region [(iO 29 (.load true 18 (.t 10))),
        (iO 30 (.mv (.t 1))),
        (iS (.store 18 none (.t 6) (.t 29))),
        (iO 7 (.mv (nI 0))),
        (iO 8 (.mv (.t 30))),
        (iO 9 (.mv (nI 0)))])
      .ret))
    .skip))))
  .skip)
noncomputable def z57u0t (k : Nat) (d : z57u0p.D) : Option (XD z57u0x) := overspillref21_beginu0 k d.1.1 d.1.2.1 d.1.2.2.2.2 d.2.1 d.2.2
theorem z57u0_k (k : Nat) : UOK P GL (mkU z57u0p z57u0x (z57u0t k) nilU) z57u0d false z57u0b :=
  unit_typed (ud := z57u0d) (body := z57u0b) (uorc := uorT (z57U0 k)) hmo (T56_ok k).oo (z57U0_k k) (AllU.no (by kernel_rfl)) (fun d => by kernel_rfl)
noncomputable def z57U1 (k : Nat) : List (Nat × Ent) := (0, ⟨mkU z57u0p z57u0x (z57u0t k) nilU⟩) :: z57U0 k
theorem z57U1_k (k : Nat) : UTab (z57U1 k) := (z57U0_k k).cons (mkU_nat nilU_nat)
noncomputable def z57u1d : UDef := ⟨[(0, none), (1, none), (2, none), (6, none), (10, none)], [1, 7, 8, 9, 11, 12, 13, 14, 15, 16, 17, 18, 19, 20, 21, 22, 23, 24, 25, 26, 27, 28, 29, 30, 31, 32, 33, 34, 35, 36, 37, 38, 39, 40, 41, 42, 43, 44, 45, 46, 47, 48, 49, 50, 51, 52, 53, 54, 55, 56, 57, 58, 59], [(.ret, [(7, none), (8, none), (9, none)])], []⟩
noncomputable def z57u1p : XPat := ⟨.normal, [(.tv .str), (.tv (.int .i64)), (.tv .bool), (.ptr 0 []), (.ptr 1 [])], [(.box (.tv YCell)), (.box (.tv YCell))]⟩
noncomputable def z57u1x : List XPat := [⟨.ret, [(.tv (.int .i64)), (.tv (.int .i64)), (.tv (.int .i64))], [(.box (.tv YCell)), (.box (.tv YCell))]⟩]
noncomputable def overspillref21_beginu1 (k : Nat) : Nat → (List UInt8) → (Int) → (Bool) → (DCell) → (DCell) → Option (((Int) × ((Int) × (Int))) × ((DCell) × (DCell)))
  | 0, _, _, _, _, _ => none
  | n + 1, x0, x1, x2, x3, x4 =>
    Option.bind (overspillref21_beginu0 k x0 x1 x2 x3 x4) fun r =>
    Sum.elim (fun (v230 : ((Int) × ((Int) × (Int))) × ((DCell) × (DCell))) =>
      some ((v230.1.1, (v230.1.2.1, v230.1.2.2)), (v230.2.1, v230.2.2)))
      (fun (v231 : (Int) × ((DCell) × (DCell))) =>
      Option.bind (overspillref06_Take k x0 v231.1 x2) fun (v232 : (Int) × ((Int) × ((Int) × ((Int) × (Unit))))) =>
      bif (!(decide (v232.2.2.2.1 = 0))) then
        some ((0, (0, v232.2.2.2.1)), ((0, (false, (0, (0, ((Ty.zero (.arr 2 (.int .i64))), ((Ty.zero (.arr 6 (.int .i64))), ((Ty.zero (.arr 6 (.sl YEvent))), ()))))))), v231.2.2))
      else
      bif (decide (v232.1 < 5)) then
        some ((v232.2.1, (v232.2.2.1, 0)), ((v231.2.2.1, (v231.2.2.2.1, (v232.1, v231.2.2.2.2.2))), (v231.2.2.1, (v231.2.2.2.1, (v232.1, v231.2.2.2.2.2)))))
      else
      bif (decide ((64 : Int) < (wr .i64 (v231.2.2.1 + 1)))) then
        some ((0, (0, 13)), ((0, (false, (0, (0, ((Ty.zero (.arr 2 (.int .i64))), ((Ty.zero (.arr 6 (.int .i64))), ((Ty.zero (.arr 6 (.sl YEvent))), ()))))))), ((wr .i64 (v231.2.2.1 + 1)), v231.2.2.2)))
      else
      Option.bind (overspillref21_beginu1 k n x0 v232.2.2.1 x2 v231.2.1 ((wr .i64 (v231.2.2.1 + 1)), v231.2.2.2)) fun r => some r) r
noncomputable def z57u1b : AC :=
  (.block 1 (.seq (.seq (.region [(iO 15 (.mv (.t 2)))])
  (.unit 0 z57u0d false z57u0b))
  (.seq (.region [(iO 32 (.mv (.t 0))),
    (iO 33 (.mv (.t 1))),
    (iO 34 (.mv (.t 2))),
    (iC 35 57 [((.t 32), none), ((.t 33), none), ((.t 34), none)]),
    (iO 31 (.mv (.t 35))),
    (iO 36 (.ext (.t 31) 0)),
    (iO 37 (.ext (.t 31) 1)),
    (iO 38 (.ext (.t 31) 2)),
    (iO 39 (.ext (.t 31) 3)),
    (iO 11 (.mv (.t 36))),
    (iO 12 (.mv (.t 37))),
    (iO 13 (.mv (.t 38))),
    (iO 14 (.mv (.t 39)))])
  (.seq (.seq (.region [(iO 40 (.mv (.t 14))),
    (iO 41 (.bin .neq (.t 40) (nI 0)))])
  (.cond (.t 41)
  (.seq (.region [(iO 42 (.build 34 (.tv YCell) [])),
      (iO 43 (.mv (.t 14))),
      (iS (.store 18 none (.t 6) (.t 42))),
      (iO 7 (.mv (nI 0))),
      (iO 8 (.mv (nI 0))),
      (iO 9 (.mv (.t 43)))])
    .ret)
  .skip))
  (.seq (.region [(iO 44 (.mv (.t 13))),
    (iO 1 (.mv (.t 44)))])
  (.seq (.seq (.region [(iO 45 (.mv (.t 11))),
    (iO 46 (.bin .lss (.t 45) (nI 5)))])
  (.cond (.t 46)
  (.seq (.region [(iO 47 (.mv (.t 11))),
      (iO 48 (.fad 2 2 (.t 10))),
      (iS (.store 1 none (.t 48) (.t 47)))])
    (.seq (.region [(iO 49 (.load true 18 (.t 10))),
      (iO 50 (.mv (.t 12))),
      (iO 51 (.mv (.t 1))),
      (iS (.store 18 none (.t 6) (.t 49))),
      (iO 7 (.mv (.t 50))),
      (iO 8 (.mv (.t 51))),
      (iO 9 (.mv (nI 0)))])
    .ret))
  .skip))
  (.seq (.region [(iO 52 (.fad 0 0 (.t 10))),
    (iO 53 (.load false 1 (.t 52))),
    (iO 54 (.bin .add (.t 53) (nI 1))),
    (iO 55 (.fad 0 0 (.t 10))),
    (iS (.store 1 none (.t 55) (.t 54)))])
  (.seq (.region [(iO 56 (.fad 0 0 (.t 10))),
    (iO 57 (.load false 1 (.t 56))),
    (iO 58 (.bin .gtr (.t 57) (nI 64)))])
  (.cond (.t 58)
  (.seq (.region [(iO 59 (.build 34 (.tv YCell) [])),
      (iS (.store 18 none (.t 6) (.t 59))),
      (iO 7 (.mv (nI 0))),
      (iO 8 (.mv (nI 0))),
      (iO 9 (.mv (nI 13)))])
    .ret)
  .skip)))))))))
noncomputable def z57u1t (k n : Nat) (d : z57u1p.D) : Option (XD z57u1x) := overspillref21_beginu1 k n d.1.1 d.1.2.1 d.1.2.2.1 d.2.1 d.2.2
theorem z57u1_k (k : Nat) : UOK P GL (mkU z57u1p z57u1x (z57u1t k k) nilU) z57u1d true z57u1b :=
  loop_typed (ud := z57u1d) (body := z57u1b) (uorc := uorT (z57U1 k)) hmo (T56_ok k).oo (z57U1_k k) (AllU.block (AllU.seq (AllU.seq (AllU.no (by kernel_rfl)) (AllU.unit (uorc := uorT (z57U1 k)) (u := 0) (z57u0_k k))) (AllU.no (by kernel_rfl)))) (t := z57u1t k) (fun d => by kernel_rfl) (fun n d => by kernel_rfl) k
noncomputable def z57U2 (k : Nat) : List (Nat × Ent) := (1, ⟨mkU z57u1p z57u1x (z57u1t k k) nilU⟩) :: z57U1 k
theorem z57U2_k (k : Nat) : UTab (z57U2 k) := (z57U1_k k).cons (mkU_nat nilU_nat)
noncomputable def overspillref21_begin (k : Nat) (x0 : List UInt8) (x1 : Int) (x2 : Bool) : Option ((DCell) × ((Int) × ((Int) × ((Int) × (Unit))))) :=
  Option.bind (overspillref21_beginu1 k k x0 x1 x2 (0, (false, (0, (0, ((Ty.zero (.arr 2 (.int .i64))), ((Ty.zero (.arr 6 (.int .i64))), ((Ty.zero (.arr 6 (.sl YEvent))), ()))))))) (0, (false, (0, (0, ((Ty.zero (.arr 2 (.int .i64))), ((Ty.zero (.arr 6 (.int .i64))), ((Ty.zero (.arr 6 (.sl YEvent))), ())))))))) fun (v233 : ((Int) × ((Int) × (Int))) × ((DCell) × (DCell))) =>
  some (v233.2.1, (v233.1.1, (v233.1.2.1, (v233.1.2.2, ()))))
noncomputable def z57b : AC :=
  (.seq (.region [(iO 6 (.alloc 34 (.tv YCell))),
    (iO 7 (.mv (nI 0))),
    (iO 8 (.mv (nI 0))),
    (iO 9 (.mv (nI 0)))])
  (.seq (.region [(iO 10 (.alloc 34 (.tv YCell)))])
  (.block 0 (.unit 1 z57u1d true z57u1b))))
noncomputable def z57f : FDef := ⟨3, 60, [.cell 6 18 true (some YCell), .tmp 7 none, .tmp 8 none, .tmp 9 none], z57b⟩
noncomputable def z57p : XPat := ⟨.normal, [(.tv .str), (.tv (.int .i64)), (.tv .bool)], []⟩
noncomputable def z57x : List XPat := [⟨.ret, [(.tup (.cons (.tv YCell) (.cons (.tv (.int .i64)) (.cons (.tv (.int .i64)) (.cons (.tv (.int .i64)) .nil)))))], []⟩]
noncomputable def z57t (k : Nat) (d : z57p.D) : Option (XD z57x) := overspillref21_begin k d.1 d.2.1 d.2.2
noncomputable def z57_e (k : Nat) : UEntry := mkU z57p z57x (z57t k) nilU
theorem z57_n (k : Nat) : UNat (z57_e k) := mkU_nat nilU_nat
theorem z57_fu (k : Nat) : FU P GL 27 (z57_e k) :=
  fn_typed (uorc := uorT (z57U2 k)) hmo (T56_ok k).oo (z57U2_k k) (fd := z57f) (AllU.seq (AllU.no (by kernel_rfl)) (AllU.seq (AllU.no (by kernel_rfl)) (AllU.block (AllU.unit (uorc := uorT (z57U2 k)) (u := 1) (z57u1_k k))))) (fn := Tryd.f27) (by kernel_rfl) (by kernel_rfl) (fun d => by kernel_rfl) FU_nil
noncomputable def T57 (k : Nat) : List (Nat × Ent) := (27, ⟨z57_e k⟩) :: T56 k
theorem T57_ok (k : Nat) : TabOK P GL (T57 k) := (T56_ok k).cons (z57_fu k) (z57_n k)
/-! ### overspill.overspillref21.Intra -/
noncomputable def z58U0 (_ : Nat) : List (Nat × Ent) := []
theorem z58U0_k (k : Nat) : UTab (z58U0 k) := UTab.nil
noncomputable def overspillref21_Intra (k : Nat) (x0 : Int) : Option (Bool) :=
  bif (decide (x0 = 3)) then
    some true
  else
  some (decide (x0 = 4))
noncomputable def z58b : AC :=
  (.seq (.region [(iO 2 (.mv (.c (.tv .bool (false : Bool)))))])
  (.seq (.region [(iO 3 (.mv (.t 0))),
    (iO 4 (.bin .eql (.t 3) (nI 3))),
    (iO 5 (.mv (.t 4))),
    ⟨some 6, some (2, 5, false), (.op (.mv (.t 0))), []⟩,
    ⟨some 7, some (2, 5, false), (.op (.bin .eql (.t 6) (nI 4))), []⟩,
    (iO 8 (.pick (.t 5) (.c (.tv .bool (true : Bool))) (.t 7))),
    (iO 2 (.mv (.t 8)))])
  .ret))
noncomputable def z58f : FDef := ⟨1, 9, [.tmp 2 none], z58b⟩
noncomputable def z58p : XPat := ⟨.normal, [(.tv (.int .i64))], []⟩
noncomputable def z58x : List XPat := [⟨.ret, [(.tv .bool)], []⟩]
noncomputable def z58t (k : Nat) (d : z58p.D) : Option (XD z58x) := overspillref21_Intra k d
noncomputable def z58_e (k : Nat) : UEntry := mkU z58p z58x (z58t k) nilU
theorem z58_n (k : Nat) : UNat (z58_e k) := mkU_nat nilU_nat
theorem z58_fu (k : Nat) : FU P GL 29 (z58_e k) :=
  fn_typed (uorc := uorT (z58U0 k)) hmo (T57_ok k).oo (z58U0_k k) (fd := z58f) (AllU.no (by kernel_rfl)) (fn := Tryd.f29) (by kernel_rfl) (by kernel_rfl) (fun d => by kernel_rfl) FU_nil
noncomputable def T58 (k : Nat) : List (Nat × Ent) := (29, ⟨z58_e k⟩) :: T57 k
theorem T58_ok (k : Nat) : TabOK P GL (T58 k) := (T57_ok k).cons (z58_fu k) (z58_n k)
/-! ### overspill.overspillref07.rows -/
noncomputable def z59U0 (_ : Nat) : List (Nat × Ent) := []
theorem z59U0_k (k : Nat) : UTab (z59U0 k) := UTab.nil
noncomputable def overspillref07_rows (k : Nat) : Option (List (List UInt8)) :=
  some ([([49, 49] : List UInt8), ([48, 49, 49, 48] : List UInt8), ([49, 48, 48, 48] : List UInt8), ([48, 49, 48, 48] : List UInt8), ([49, 48, 49, 48] : List UInt8), ([48, 49, 48, 49] : List UInt8), ([48, 48, 48, 48, 49, 49] : List UInt8), ([48, 48, 48, 49, 48] : List UInt8), ([49, 48, 49, 49] : List UInt8), ([48, 48, 48, 48, 49, 48] : List UInt8), ([48, 49, 49, 49] : List UInt8), ([48, 48, 48, 49, 49] : List UInt8), ([49, 48, 48, 49] : List UInt8), ([48, 48, 49, 48, 48] : List UInt8), ([48, 48, 49, 48, 49] : List UInt8), ([48, 48, 49, 49] : List UInt8)] : List (List UInt8))
noncomputable def z59b : AC :=
  (.seq (.region [(iO 0 (.nrow .str))])
  (.seq (.region [(iO 1 (.bslice .str [(.c (.tv .str (([49, 49] : List UInt8) : List UInt8))), (.c (.tv .str (([48, 49, 49, 48] : List UInt8) : List UInt8))), (.c (.tv .str (([49, 48, 48, 48] : List UInt8) : List UInt8))), (.c (.tv .str (([48, 49, 48, 48] : List UInt8) : List UInt8))), (.c (.tv .str (([49, 48, 49, 48] : List UInt8) : List UInt8))), (.c (.tv .str (([48, 49, 48, 49] : List UInt8) : List UInt8))), (.c (.tv .str (([48, 48, 48, 48, 49, 49] : List UInt8) : List UInt8))), (.c (.tv .str (([48, 48, 48, 49, 48] : List UInt8) : List UInt8))), (.c (.tv .str (([49, 48, 49, 49] : List UInt8) : List UInt8))), (.c (.tv .str (([48, 48, 48, 48, 49, 48] : List UInt8) : List UInt8))), (.c (.tv .str (([48, 49, 49, 49] : List UInt8) : List UInt8))), (.c (.tv .str (([48, 48, 48, 49, 49] : List UInt8) : List UInt8))), (.c (.tv .str (([49, 48, 48, 49] : List UInt8) : List UInt8))), (.c (.tv .str (([48, 48, 49, 48, 48] : List UInt8) : List UInt8))), (.c (.tv .str (([48, 48, 49, 48, 49] : List UInt8) : List UInt8))), (.c (.tv .str (([48, 48, 49, 49] : List UInt8) : List UInt8)))])),
    (iO 0 (.mv (.t 1)))])
  .ret))
noncomputable def z59f : FDef := ⟨0, 2, [.tmp 0 (some (.sl .str))], z59b⟩
noncomputable def z59p : XPat := ⟨.normal, [], []⟩
noncomputable def z59x : List XPat := [⟨.ret, [(.tv (.sl .str))], []⟩]
noncomputable def z59t (k : Nat) (d : z59p.D) : Option (XD z59x) := overspillref07_rows k
noncomputable def z59_e (k : Nat) : UEntry := mkU z59p z59x (z59t k) nilU
theorem z59_n (k : Nat) : UNat (z59_e k) := mkU_nat nilU_nat
theorem z59_fu (k : Nat) : FU P GL 59 (z59_e k) :=
  fn_typed (uorc := uorT (z59U0 k)) hmo (T58_ok k).oo (z59U0_k k) (fd := z59f) (AllU.no (by kernel_rfl)) (fn := Tryd.f59) (by kernel_rfl) (by kernel_rfl) (fun d => by kernel_rfl) FU_nil
noncomputable def T59 (k : Nat) : List (Nat × Ent) := (59, ⟨z59_e k⟩) :: T58 k
theorem T59_ok (k : Nat) : TabOK P GL (T59 k) := (T58_ok k).cons (z59_fu k) (z59_n k)
/-! ### overspill.overspillref07.Take -/
noncomputable def z60U0 (_ : Nat) : List (Nat × Ent) := []
theorem z60U0_k (k : Nat) : UTab (z60U0 k) := UTab.nil
noncomputable def z60u0d : UDef := ⟨[(2, none), (11, none)], [20, 21, 22, 23, 24], [(.normal, [(24, none)])], []⟩
noncomputable def z60u0p : XPat := ⟨.normal, [(.tv .bool), (.tv (.int .i64))], []⟩
noncomputable def z60u0x : List XPat := [⟨.normal, [(.tv .bool)], []⟩]
noncomputable def overspillref07_Takeu0 (k : Nat) (x0 : Bool) (x1 : Int) : Option (Bool) :=
  bif (decide (x1 = 0)) then
    some x0
  else
  some false
noncomputable def z60u0b : AC :=
  (.region [(iO 20 (.mv (.t 11))),
    (iO 21 (.bin .eql (.t 20) (nI 0))),
    (iO 22 (.mv (.t 21))),
    ⟨some 23, some (2, 22, true), (.op (.mv (.t 2))), []⟩,
    (iO 24 (.pick (.t 22) (.t 23) (.c (.tv .bool (false : Bool)))))])
noncomputable def z60u0t (k : Nat) (d : z60u0p.D) : Option (XD z60u0x) := overspillref07_Takeu0 k d.1 d.2
theorem z60u0_k (k : Nat) : UOK P GL (mkU z60u0p z60u0x (z60u0t k) nilU) z60u0d false z60u0b :=
  unit_typed (ud := z60u0d) (body := z60u0b) (uorc := uorT (z60U0 k)) hmo (T59_ok k).oo (z60U0_k k) (AllU.no (by kernel_rfl)) (fun d => by kernel_rfl)
noncomputable def z60U1 (k : Nat) : List (Nat × Ent) := (0, ⟨mkU z60u0p z60u0x (z60u0t k) nilU⟩) :: z60U0 k
theorem z60U1_k (k : Nat) : UTab (z60U1 k) := (z60U0_k k).cons (mkU_nat nilU_nat)
noncomputable def overspillref07_Take (k : Nat) (x0 : List UInt8) (x1 : Int) (x2 : Bool) : Option ((Int) × ((Int) × ((Int) × (Unit)))) :=
  Option.bind (overspillref07_rows k) fun (v236 : List (List UInt8)) =>
  Option.bind (overspillref05_Take k v236 x0 x1) fun (v237 : (Int) × ((Int) × ((Int) × (Unit)))) =>
  Option.bind (overspillref07_Takeu0 k x2 v237.2.2.1) fun (v238 : Bool) =>
  bif v238 then
    some ((wr .i64 (15 - v237.1)), (v237.2.1, (v237.2.2.1, ())))
  else
  some (v237.1, (v237.2.1, (v237.2.2.1, ())))
noncomputable def z60b : AC :=
  (.seq (.region [(iO 6 (.mv (nI 0))),
    (iO 7 (.mv (nI 0))),
    (iO 8 (.mv (nI 0)))])
  (.seq (.region [(iC 13 59 []),
    (iO 14 (.mv (.t 0))),
    (iO 15 (.mv (.t 1))),
    (iC 16 58 [((.t 13), some (.sl .str)), ((.t 14), none), ((.t 15), none)]),
    (iO 12 (.mv (.t 16))),
    (iO 17 (.ext (.t 12) 0)),
    (iO 18 (.ext (.t 12) 1)),
    (iO 19 (.ext (.t 12) 2)),
    (iO 9 (.mv (.t 17))),
    (iO 10 (.mv (.t 18))),
    (iO 11 (.mv (.t 19)))])
  (.seq (.seq (.unit 0 z60u0d false z60u0b)
  (.cond (.t 24)
  (.region [(iO 25 (.mv (.t 9))),
      (iO 26 (.bin .sub (nI 15) (.t 25))),
      (iO 9 (.mv (.t 26)))])
  .skip))
  (.seq (.region [(iO 27 (.mv (.t 9))),
    (iO 28 (.mv (.t 10))),
    (iO 29 (.mv (.t 11))),
    (iO 6 (.mv (.t 27))),
    (iO 7 (.mv (.t 28))),
    (iO 8 (.mv (.t 29)))])
  .ret))))
noncomputable def z60f : FDef := ⟨3, 30, [.tmp 6 none, .tmp 7 none, .tmp 8 none], z60b⟩
noncomputable def z60p : XPat := ⟨.normal, [(.tv .str), (.tv (.int .i64)), (.tv .bool)], []⟩
noncomputable def z60x : List XPat := [⟨.ret, [(.tup (.cons (.tv (.int .i64)) (.cons (.tv (.int .i64)) (.cons (.tv (.int .i64)) .nil))))], []⟩]
noncomputable def z60t (k : Nat) (d : z60p.D) : Option (XD z60x) := overspillref07_Take k d.1 d.2.1 d.2.2
noncomputable def z60_e (k : Nat) : UEntry := mkU z60p z60x (z60t k) nilU
theorem z60_n (k : Nat) : UNat (z60_e k) := mkU_nat nilU_nat
theorem z60_fu (k : Nat) : FU P GL 28 (z60_e k) :=
  fn_typed (uorc := uorT (z60U1 k)) hmo (T59_ok k).oo (z60U1_k k) (fd := z60f) (AllU.seq (AllU.no (by kernel_rfl)) (AllU.seq (AllU.no (by kernel_rfl)) (AllU.seq (AllU.seq (AllU.unit (uorc := uorT (z60U1 k)) (u := 0) (z60u0_k k)) (AllU.no (by kernel_rfl))) (AllU.no (by kernel_rfl))))) (fn := Tryd.f28) (by kernel_rfl) (by kernel_rfl) (fun d => by kernel_rfl) FU_nil
noncomputable def T60 (k : Nat) : List (Nat × Ent) := (28, ⟨z60_e k⟩) :: T59 k
theorem T60_ok (k : Nat) : TabOK P GL (T60 k) := (T59_ok k).cons (z60_fu k) (z60_n k)
/-! ### overspill.overspillref02.Number -/
noncomputable def z61U0 (_ : Nat) : List (Nat × Ent) := []
theorem z61U0_k (k : Nat) : UTab (z61U0 k) := UTab.nil
noncomputable def z61u0d : UDef := ⟨[(0, none), (3, none), (4, none)], [3, 4, 5, 6, 7, 8, 9, 10, 11, 12, 13, 14, 15, 16, 17, 18], [((.exit 0), [(3, none)])], []⟩
noncomputable def z61u0p : XPat := ⟨.normal, [(.tv .str), (.tv (.int .i64)), (.tv (.int .i64))], []⟩
noncomputable def z61u0x : List XPat := [⟨(.exit 0), [(.tv (.int .i64))], []⟩]
noncomputable def overspillref02_Numberu0 (k : Nat) : Nat → (List UInt8) → (Int) → (Int) → Option (Int)
  | 0, _, _, _ => none
  | n + 1, x0, x1, x2 =>
    bif (decide (x2 < ((List.length x0 : Nat) : Int))) then
      bif (inR x2 (List.length x0)) then
        Option.bind (overspillref02_Numberu0 k n x0 (wr .i64 ((wr .i64 (2 * x1)) + (wr .i64 (wr .u8 (((UInt8.toNat (List.getD x0 (Int.toNat x2) 0) : Nat) : Int) - 48))))) (wr .i64 (x2 + 1))) fun r => some r
      else
        none
    else
    some x1
noncomputable def z61u0b : AC :=
  (.seq (.seq (.region [(iO 5 (.mv (.t 4))),
    (iO 6 (.mv (.t 0))),
    (iO 7 (.lens (.t 6))),
    (iO 8 (.bin .lss (.t 5) (.t 7)))])
  (.cond (.t 8)
  .skip
  (.exit 0)))
  (.seq (.block 1 (.region [(iO 11 (.mv (.t 3))),
    (iO 12 (.bin .mul (nI 2) (.t 11))),
    (iO 13 (.mv (.t 0))),
    (iO 14 (.mv (.t 4))),
    (iO 15 (.ixs (.t 13) (.t 14))),
    (iO 16 (.bin .sub (.t 15) (.c (.tv (.int .u8) (48 : Int))))),
    (iO 17 (.conv .i64 (.t 16))),
    (iO 18 (.bin .add (.t 12) (.t 17))),
    (iO 3 (.mv (.t 18)))]))
  (.region [(iO 9 (.mv (.t 4))),
    (iO 10 (.bin .add (.t 9) (nI 1))),
    (iO 4 (.mv (.t 10)))])))
noncomputable def z61u0t (k n : Nat) (d : z61u0p.D) : Option (XD z61u0x) := overspillref02_Numberu0 k n d.1 d.2.1 d.2.2
theorem z61u0_k (k : Nat) : UOK P GL (mkU z61u0p z61u0x (z61u0t k k) nilU) z61u0d true z61u0b :=
  loop_typed (ud := z61u0d) (body := z61u0b) (uorc := uorT (z61U0 k)) hmo (T60_ok k).oo (z61U0_k k) (AllU.no (by kernel_rfl)) (t := z61u0t k) (fun d => by kernel_rfl) (fun n d => by kernel_rfl) k
noncomputable def z61U1 (k : Nat) : List (Nat × Ent) := (0, ⟨mkU z61u0p z61u0x (z61u0t k k) nilU⟩) :: z61U0 k
theorem z61U1_k (k : Nat) : UTab (z61U1 k) := (z61U0_k k).cons (mkU_nat nilU_nat)
noncomputable def overspillref02_Number (k : Nat) (x0 : List UInt8) : Option (Int) :=
  Option.bind (overspillref02_Numberu0 k k x0 0 0) fun (v241 : Int) =>
  some v241
noncomputable def z61b : AC :=
  (.seq (.region [(iO 2 (.mv (nI 0)))])
  (.seq (.region [(iO 3 (.mv (nI 0)))])
  (.seq (.seq (.region [(iO 4 (.mv (nI 0)))])
  (.block 0 (.unit 0 z61u0d true z61u0b)))
  (.seq (.region [(iO 19 (.mv (.t 3))),
    (iO 2 (.mv (.t 19)))])
  .ret))))
noncomputable def z61f : FDef := ⟨1, 20, [.tmp 2 none], z61b⟩
noncomputable def z61p : XPat := ⟨.normal, [(.tv .str)], []⟩
noncomputable def z61x : List XPat := [⟨.ret, [(.tv (.int .i64))], []⟩]
noncomputable def z61t (k : Nat) (d : z61p.D) : Option (XD z61x) := overspillref02_Number k d
noncomputable def z61_e (k : Nat) : UEntry := mkU z61p z61x (z61t k) nilU
theorem z61_n (k : Nat) : UNat (z61_e k) := mkU_nat nilU_nat
theorem z61_fu (k : Nat) : FU P GL 60 (z61_e k) :=
  fn_typed (uorc := uorT (z61U1 k)) hmo (T60_ok k).oo (z61U1_k k) (fd := z61f) (AllU.seq (AllU.no (by kernel_rfl)) (AllU.seq (AllU.no (by kernel_rfl)) (AllU.seq (AllU.seq (AllU.no (by kernel_rfl)) (AllU.block (AllU.unit (uorc := uorT (z61U1 k)) (u := 0) (z61u0_k k)))) (AllU.no (by kernel_rfl))))) (fn := Tryd.f60) (by kernel_rfl) (by kernel_rfl) (fun d => by kernel_rfl) FU_nil
noncomputable def T61 (k : Nat) : List (Nat × Ent) := (60, ⟨z61_e k⟩) :: T60 k
theorem T61_ok (k : Nat) : TabOK P GL (T61 k) := (T60_ok k).cons (z61_fu k) (z61_n k)
/-! ### overspill.overspillref20.Take -/
noncomputable def z62U0 (_ : Nat) : List (Nat × Ent) := []
theorem z62U0_k (k : Nat) : UTab (z62U0 k) := UTab.nil
noncomputable def overspillref20_Take (k : Nat) (x0 : List UInt8) (x1 : Int) : Option ((Int) × ((Int) × ((Int) × (Unit)))) :=
  bif (decide ((wr .i64 (((List.length x0 : Nat) : Int) - x1)) < 2)) then
    some (0, (x1, (2, ())))
  else
  bif (decide ((0 : Int) ≤ x1 ∧ x1 ≤ (wr .i64 (x1 + 2)) ∧ (wr .i64 (x1 + 2)) ≤ (((List.length x0) : Nat) : Int))) then
    Option.bind (overspillref02_Number k (List.drop (Int.toNat x1) (List.take (Int.toNat (wr .i64 (x1 + 2))) x0))) fun (v242 : Int) =>
    bif (inR v242 4) then
      some ((List.getD ([(-1), (-2), 1, 2] : List (Int)) (Int.toNat v242) 0), ((wr .i64 (x1 + 2)), (0, ())))
    else
      none
  else
    none
noncomputable def z62b : AC :=
  (.seq (.region [(iO 4 (.mv (nI 0))),
    (iO 5 (.mv (nI 0))),
    (iO 6 (.mv (nI 0)))])
  (.seq (.seq (.region [(iO 7 (.mv (.t 0))),
    (iO 8 (.lens (.t 7))),
    (iO 9 (.mv (.t 1))),
    (iO 10 (.bin .sub (.t 8) (.t 9))),
    (iO 11 (.bin .lss (.t 10) (nI 2)))])
  (.cond (.t 11)
  (.seq (.region [(iO 12 (.mv (.t 1))),
      (iO 4 (.mv (nI 0))),
      (iO 5 (.mv (.t 12))),
      (iO 6 (.mv (nI 2)))])
    .ret)
  .skip))
  (.seq (.region [(iO 13 (.bslice (.int .i64) [(nI (-1)), (nI (-2)), (nI 1), (nI 2)])),
    (iO 14 (.mv (.t 0))),
    (iO 15 (.mv (.t 1))),
    (iO 16 (.mv (.t 1))),
    (iO 17 (.bin .add (.t 16) (nI 2))),
    (iO 18 (.slis (.t 14) (some (.t 15)) (some (.t 17)))),
    (iC 19 60 [((.t 18), none)]),
    (iO 20 (.iads (.int .i64) (.t 13) (.t 19))),
    (iO 21 (.load false 1 (.t 20))),
    (iO 22 (.mv (.t 1))),
    (iO 23 (.bin .add (.t 22) (nI 2))),
    (iO 4 (.mv (.t 21))),
    (iO 5 (.mv (.t 23))),
    (iO 6 (.mv (nI 0)))])
  .ret)))
noncomputable def z62f : FDef := ⟨2, 24, [.tmp 4 none, .tmp 5 none, .tmp 6 none], z62b⟩
noncomputable def z62p : XPat := ⟨.normal, [(.tv .str), (.tv (.int .i64))], []⟩
noncomputable def z62x : List XPat := [⟨.ret, [(.tup (.cons (.tv (.int .i64)) (.cons (.tv (.int .i64)) (.cons (.tv (.int .i64)) .nil))))], []⟩]
noncomputable def z62t (k : Nat) (d : z62p.D) : Option (XD z62x) := overspillref20_Take k d.1 d.2
noncomputable def z62_e (k : Nat) : UEntry := mkU z62p z62x (z62t k) nilU
theorem z62_n (k : Nat) : UNat (z62_e k) := mkU_nat nilU_nat
theorem z62_fu (k : Nat) : FU P GL 30 (z62_e k) :=
  fn_typed (uorc := uorT (z62U0 k)) hmo (T61_ok k).oo (z62U0_k k) (fd := z62f) (AllU.no (by kernel_rfl)) (fn := Tryd.f30) (by kernel_rfl) (by kernel_rfl) (fun d => by kernel_rfl) FU_nil
noncomputable def T62 (k : Nat) : List (Nat × Ent) := (30, ⟨z62_e k⟩) :: T61 k
theorem T62_ok (k : Nat) : TabOK P GL (T62 k) := (T61_ok k).cons (z62_fu k) (z62_n k)
/-! ### overspill.overspillref08.amounts -/
noncomputable def z63U0 (_ : Nat) : List (Nat × Ent) := []
theorem z63U0_k (k : Nat) : UTab (z63U0 k) := UTab.nil
noncomputable def overspillref08_amounts (k : Nat) : Option (List (List UInt8)) :=
  some ([([49] : List UInt8), ([48, 49] : List UInt8), ([48, 48, 49] : List UInt8), ([48, 48, 48, 49] : List UInt8), ([48, 48, 48, 48, 49, 49] : List UInt8), ([48, 48, 48, 48, 49, 48, 49] : List UInt8), ([48, 48, 48, 48, 49, 48, 48] : List UInt8), ([48, 48, 48, 48, 48, 49, 49] : List UInt8), ([48, 48, 48, 48, 48, 49, 48, 49, 49] : List UInt8), ([48, 48, 48, 48, 48, 49, 48, 49, 48] : List UInt8), ([48, 48, 48, 48, 48, 49, 48, 48, 49] : List UInt8), ([48, 48, 48, 48, 48, 49, 48, 48, 48, 49] : List UInt8), ([48, 48, 48, 48, 48, 49, 48, 48, 48, 48] : List UInt8), ([48, 48, 48, 48, 48, 48, 49, 49, 49, 49] : List UInt8), ([48, 48, 48, 48, 48, 48, 49, 49, 49, 48] : List UInt8), ([48, 48, 48, 48, 48, 48, 49, 49, 48, 49] : List UInt8), ([48, 48, 48, 48, 48, 48, 49, 49, 48, 48] : List UInt8), ([48, 48, 48, 48, 48, 48, 49, 48, 49, 49] : List UInt8), ([48, 48, 48, 48, 48, 48, 49, 48, 49, 48] : List UInt8), ([48, 48, 48, 48, 48, 48, 49, 48, 48, 49] : List UInt8), ([48, 48, 48, 48, 48, 48, 49, 48, 48, 48] : List UInt8), ([48, 48, 48, 48, 48, 48, 48, 49, 49, 49] : List UInt8), ([48, 48, 48, 48, 48, 48, 48, 49, 49, 48] : List UInt8), ([48, 48, 48, 48, 48, 48, 48, 49, 48, 49] : List UInt8), ([48, 48, 48, 48, 48, 48, 48, 49, 48, 48] : List UInt8), ([48, 48, 48, 48, 48, 48, 48, 48, 49, 49, 49] : List UInt8), ([48, 48, 48, 48, 48, 48, 48, 48, 49, 49, 48] : List UInt8), ([48, 48, 48, 48, 48, 48, 48, 48, 49, 48, 49] : List UInt8), ([48, 48, 48, 48, 48, 48, 48, 48, 49, 48, 48] : List UInt8), ([48, 48, 48, 48, 48, 48, 48, 48, 48, 49, 49] : List UInt8), ([48, 48, 48, 48, 48, 48, 48, 48, 48, 49, 48] : List UInt8), ([48, 48, 48, 48, 48, 48, 48, 48, 48, 48, 49, 49] : List UInt8), ([48, 48, 48, 48, 48, 48, 48, 48, 48, 48, 49, 48] : List UInt8)] : List (List UInt8))
noncomputable def z63b : AC :=
  (.seq (.region [(iO 0 (.nrow .str))])
  (.seq (.region [(iO 1 (.bslice .str [(.c (.tv .str (([49] : List UInt8) : List UInt8))), (.c (.tv .str (([48, 49] : List UInt8) : List UInt8))), (.c (.tv .str (([48, 48, 49] : List UInt8) : List UInt8))), (.c (.tv .str (([48, 48, 48, 49] : List UInt8) : List UInt8))), (.c (.tv .str (([48, 48, 48, 48, 49, 49] : List UInt8) : List UInt8))), (.c (.tv .str (([48, 48, 48, 48, 49, 48, 49] : List UInt8) : List UInt8))), (.c (.tv .str (([48, 48, 48, 48, 49, 48, 48] : List UInt8) : List UInt8))), (.c (.tv .str (([48, 48, 48, 48, 48, 49, 49] : List UInt8) : List UInt8))), (.c (.tv .str (([48, 48, 48, 48, 48, 49, 48, 49, 49] : List UInt8) : List UInt8))), (.c (.tv .str (([48, 48, 48, 48, 48, 49, 48, 49, 48] : List UInt8) : List UInt8))), (.c (.tv .str (([48, 48, 48, 48, 48, 49, 48, 48, 49] : List UInt8) : List UInt8))), (.c (.tv .str (([48, 48, 48, 48, 48, 49, 48, 48, 48, 49] : List UInt8) : List UInt8))), (.c (.tv .str (([48, 48, 48, 48, 48, 49, 48, 48, 48, 48] : List UInt8) : List UInt8))), (.c (.tv .str (([48, 48, 48, 48, 48, 48, 49, 49, 49, 49] : List UInt8) : List UInt8))), (.c (.tv .str (([48, 48, 48, 48, 48, 48, 49, 49, 49, 48] : List UInt8) : List UInt8))), (.c (.tv .str (([48, 48, 48, 48, 48, 48, 49, 49, 48, 49] : List UInt8) : List UInt8))), (.c (.tv .str (([48, 48, 48, 48, 48, 48, 49, 49, 48, 48] : List UInt8) : List UInt8))), (.c (.tv .str (([48, 48, 48, 48, 48, 48, 49, 48, 49, 49] : List UInt8) : List UInt8))), (.c (.tv .str (([48, 48, 48, 48, 48, 48, 49, 48, 49, 48] : List UInt8) : List UInt8))), (.c (.tv .str (([48, 48, 48, 48, 48, 48, 49, 48, 48, 49] : List UInt8) : List UInt8))), (.c (.tv .str (([48, 48, 48, 48, 48, 48, 49, 48, 48, 48] : List UInt8) : List UInt8))), (.c (.tv .str (([48, 48, 48, 48, 48, 48, 48, 49, 49, 49] : List UInt8) : List UInt8))), (.c (.tv .str (([48, 48, 48, 48, 48, 48, 48, 49, 49, 48] : List UInt8) : List UInt8))), (.c (.tv .str (([48, 48, 48, 48, 48, 48, 48, 49, 48, 49] : List UInt8) : List UInt8))), (.c (.tv .str (([48, 48, 48, 48, 48, 48, 48, 49, 48, 48] : List UInt8) : List UInt8))), (.c (.tv .str (([48, 48, 48, 48, 48, 48, 48, 48, 49, 49, 49] : List UInt8) : List UInt8))), (.c (.tv .str (([48, 48, 48, 48, 48, 48, 48, 48, 49, 49, 48] : List UInt8) : List UInt8))), (.c (.tv .str (([48, 48, 48, 48, 48, 48, 48, 48, 49, 48, 49] : List UInt8) : List UInt8))), (.c (.tv .str (([48, 48, 48, 48, 48, 48, 48, 48, 49, 48, 48] : List UInt8) : List UInt8))), (.c (.tv .str (([48, 48, 48, 48, 48, 48, 48, 48, 48, 49, 49] : List UInt8) : List UInt8))), (.c (.tv .str (([48, 48, 48, 48, 48, 48, 48, 48, 48, 49, 48] : List UInt8) : List UInt8))), (.c (.tv .str (([48, 48, 48, 48, 48, 48, 48, 48, 48, 48, 49, 49] : List UInt8) : List UInt8))), (.c (.tv .str (([48, 48, 48, 48, 48, 48, 48, 48, 48, 48, 49, 48] : List UInt8) : List UInt8)))])),
    (iO 0 (.mv (.t 1)))])
  .ret))
noncomputable def z63f : FDef := ⟨0, 2, [.tmp 0 (some (.sl .str))], z63b⟩
noncomputable def z63p : XPat := ⟨.normal, [], []⟩
noncomputable def z63x : List XPat := [⟨.ret, [(.tv (.sl .str))], []⟩]
noncomputable def z63t (k : Nat) (d : z63p.D) : Option (XD z63x) := overspillref08_amounts k
noncomputable def z63_e (k : Nat) : UEntry := mkU z63p z63x (z63t k) nilU
theorem z63_n (k : Nat) : UNat (z63_e k) := mkU_nat nilU_nat
theorem z63_fu (k : Nat) : FU P GL 83 (z63_e k) :=
  fn_typed (uorc := uorT (z63U0 k)) hmo (T62_ok k).oo (z63U0_k k) (fd := z63f) (AllU.no (by kernel_rfl)) (fn := Tryd.f83) (by kernel_rfl) (by kernel_rfl) (fun d => by kernel_rfl) FU_nil
noncomputable def T63 (k : Nat) : List (Nat × Ent) := (83, ⟨z63_e k⟩) :: T62 k
theorem T63_ok (k : Nat) : TabOK P GL (T63 k) := (T62_ok k).cons (z63_fu k) (z63_n k)
/-! ### overspill.overspillref08.Row -/
noncomputable def z64U0 (_ : Nat) : List (Nat × Ent) := []
theorem z64U0_k (k : Nat) : UTab (z64U0 k) := UTab.nil
noncomputable def z64u0d : UDef := ⟨[(0, none)], [4, 5, 6, 7, 8, 9], [(.normal, [(9, none)])], []⟩
noncomputable def z64u0p : XPat := ⟨.normal, [(.tv (.int .i64))], []⟩
noncomputable def z64u0x : List XPat := [⟨.normal, [(.tv .bool)], []⟩]
noncomputable def overspillref08_Rowu0 (k : Nat) (x0 : Int) : Option (Bool) :=
  bif (decide (x0 < (-32))) then
    some true
  else
  some (decide ((31 : Int) < x0))
noncomputable def z64u0b : AC :=
  (.region [(iO 4 (.mv (.t 0))),
    (iO 5 (.bin .lss (.t 4) (nI (-32)))),
    (iO 6 (.mv (.t 5))),
    ⟨some 7, some (2, 6, false), (.op (.mv (.t 0))), []⟩,
    ⟨some 8, some (2, 6, false), (.op (.bin .gtr (.t 7) (nI 31))), []⟩,
    (iO 9 (.pick (.t 6) (.c (.tv .bool (true : Bool))) (.t 8)))])
noncomputable def z64u0t (k : Nat) (d : z64u0p.D) : Option (XD z64u0x) := overspillref08_Rowu0 k d
theorem z64u0_k (k : Nat) : UOK P GL (mkU z64u0p z64u0x (z64u0t k) nilU) z64u0d false z64u0b :=
  unit_typed (ud := z64u0d) (body := z64u0b) (uorc := uorT (z64U0 k)) hmo (T63_ok k).oo (z64U0_k k) (AllU.no (by kernel_rfl)) (fun d => by kernel_rfl)
noncomputable def z64U1 (k : Nat) : List (Nat × Ent) := (0, ⟨mkU z64u0p z64u0x (z64u0t k) nilU⟩) :: z64U0 k
theorem z64U1_k (k : Nat) : UTab (z64U1 k) := (z64U0_k k).cons (mkU_nat nilU_nat)
noncomputable def overspillref08_Row (k : Nat) (x0 : Int) : Option (List UInt8) :=
  Option.bind (overspillref08_Rowu0 k x0) fun (v248 : Bool) =>
  bif v248 then
    some ([] : List UInt8)
  else
  Option.bind (overspillref08_amounts k) fun (v249 : List (List UInt8)) =>
  bif (decide (x0 < 0)) then
    bif (inR (wr .i64 (0 - x0)) (List.length v249)) then
      bif (decide ((List.length (List.getD v249 (Int.toNat (wr .i64 (0 - x0))) ([] : List UInt8))) + 1 ≤ strMax)) then
        some ((List.getD v249 (Int.toNat (wr .i64 (0 - x0))) ([] : List UInt8)) ++ ([49] : List UInt8))
      else
        none
    else
      none
  else
  bif (decide ((0 : Int) < x0)) then
    bif (inR x0 (List.length v249)) then
      bif (decide ((List.length (List.getD v249 (Int.toNat x0) ([] : List UInt8))) + 1 ≤ strMax)) then
        some ((List.getD v249 (Int.toNat x0) ([] : List UInt8)) ++ ([48] : List UInt8))
      else
        none
    else
      none
  else
  bif (inR 0 (List.length v249)) then
    some (List.getD v249 0 ([] : List UInt8))
  else
    none
noncomputable def z64b : AC :=
  (.seq (.region [(iO 2 (.mv (.c (.tv .str (([] : List UInt8) : List UInt8)))))])
  (.seq (.seq (.unit 0 z64u0d false z64u0b)
  (.cond (.t 9)
  (.seq (.region [(iO 2 (.mv (.c (.tv .str (([] : List UInt8) : List UInt8)))))])
    .ret)
  .skip))
  (.seq (.region [(iC 10 83 []),
    (iO 3 (.mv (.t 10)))])
  (.seq (.seq (.region [(iO 11 (.mv (.t 0))),
    (iO 12 (.bin .lss (.t 11) (nI 0)))])
  (.cond (.t 12)
  (.seq (.region [(iO 13 (.mv (.t 3))),
      (iO 14 (.mv (.t 0))),
      (iO 15 (.un .neg (.t 14))),
      (iO 16 (.iads .str (.t 13) (.t 15))),
      (iO 17 (.load false 1 (.t 16))),
      (iO 18 (.bin .add (.t 17) (.c (.tv .str (([49] : List UInt8) : List UInt8))))),
      (iO 2 (.mv (.t 18)))])
    .ret)
  .skip))
  (.seq (.seq (.region [(iO 19 (.mv (.t 0))),
    (iO 20 (.bin .gtr (.t 19) (nI 0)))])
  (.cond (.t 20)
  (.seq (.region [(iO 21 (.mv (.t 3))),
      (iO 22 (.mv (.t 0))),
      (iO 23 (.iads .str (.t 21) (.t 22))),
      (iO 24 (.load false 1 (.t 23))),
      (iO 25 (.bin .add (.t 24) (.c (.tv .str (([48] : List UInt8) : List UInt8))))),
      (iO 2 (.mv (.t 25)))])
    .ret)
  .skip))
  (.seq (.region [(iO 26 (.mv (.t 3))),
    (iO 27 (.iads .str (.t 26) (nI 0))),
    (iO 28 (.load false 1 (.t 27))),
    (iO 2 (.mv (.t 28)))])
  .ret))))))
noncomputable def z64f : FDef := ⟨1, 29, [.tmp 2 none], z64b⟩
noncomputable def z64p : XPat := ⟨.normal, [(.tv (.int .i64))], []⟩
noncomputable def z64x : List XPat := [⟨.ret, [(.tv .str)], []⟩]
noncomputable def z64t (k : Nat) (d : z64p.D) : Option (XD z64x) := overspillref08_Row k d
noncomputable def z64_e (k : Nat) : UEntry := mkU z64p z64x (z64t k) nilU
theorem z64_n (k : Nat) : UNat (z64_e k) := mkU_nat nilU_nat
theorem z64_fu (k : Nat) : FU P GL 61 (z64_e k) :=
  fn_typed (uorc := uorT (z64U1 k)) hmo (T63_ok k).oo (z64U1_k k) (fd := z64f) (AllU.seq (AllU.no (by kernel_rfl)) (AllU.seq (AllU.seq (AllU.unit (uorc := uorT (z64U1 k)) (u := 0) (z64u0_k k)) (AllU.no (by kernel_rfl))) (AllU.no (by kernel_rfl)))) (fn := Tryd.f61) (by kernel_rfl) (by kernel_rfl) (fun d => by kernel_rfl) FU_nil
noncomputable def T64 (k : Nat) : List (Nat × Ent) := (61, ⟨z64_e k⟩) :: T63 k
theorem T64_ok (k : Nat) : TabOK P GL (T64 k) := (T63_ok k).cons (z64_fu k) (z64_n k)
/-! ### overspill.overspillref08.Take -/
noncomputable def z65U0 (_ : Nat) : List (Nat × Ent) := []
theorem z65U0_k (k : Nat) : UTab (z65U0 k) := UTab.nil
noncomputable def z65u0d : UDef := ⟨[(7, none), (8, none)], [7, 8, 12, 13, 14, 15, 16, 17, 18, 19, 20], [((.exit 0), [(7, none)])], []⟩
noncomputable def z65u0p : XPat := ⟨.normal, [(.row 0), (.tv (.int .i64))], [(.row .str false)]⟩
noncomputable def z65u0x : List XPat := [⟨(.exit 0), [(.row 0)], [(.row .str false)]⟩]
noncomputable def overspillref08_Takeu0 (k : Nat) : Nat → (Int) → (List (List UInt8)) → Option ((Unit) × (List (List UInt8)))
  | 0, _, _ => none
  | n + 1, x0, x1 =>
    bif (decide (x0 ≤ 31)) then
      Option.bind (overspillref08_Row k x0) fun (v251 : List UInt8) =>
      bif (decide ((List.length x1) + 1 ≤ rowMax)) then
        Option.bind (overspillref08_Takeu0 k n (wr .i64 (x0 + 1)) (x1 ++ ([v251] : List (List UInt8)))) fun r => some r
      else
        none
    else
    some ((), x1)
noncomputable def z65u0b : AC :=
  (.seq (.seq (.region [(iO 12 (.mv (.t 8))),
    (iO 13 (.bin .leq (.t 12) (nI 31)))])
  (.cond (.t 13)
  .skip
  (.exit 0)))
  (.seq (.block 1 (.region [(iO 16 (.mv (.t 7))),
    (iO 17 (.mv (.t 8))),
    (iC 18 61 [((.t 17), none)]),
    (iO 19 (.bslice .str [(.t 18)])),
    (iO 20 (.app .str (.t 16) (.t 19))),
    (iO 7 (.mv (.t 20)))]))
  (.region [(iO 14 (.mv (.t 8))),
    (iO 15 (.bin .add (.t 14) (nI 1))),
    (iO 8 (.mv (.t 15)))])))
noncomputable def z65u0t (k n : Nat) (d : z65u0p.D) : Option (XD z65u0x) := overspillref08_Takeu0 k n d.1.2 d.2
theorem z65u0_k (k : Nat) : UOK P GL (mkU z65u0p z65u0x (z65u0t k k) nilU) z65u0d true z65u0b :=
  loop_typed (ud := z65u0d) (body := z65u0b) (uorc := uorT (z65U0 k)) hmo (T64_ok k).oo (z65U0_k k) (AllU.no (by kernel_rfl)) (t := z65u0t k) (fun d => by kernel_rfl) (fun n d => by kernel_rfl) k
noncomputable def z65U1 (k : Nat) : List (Nat × Ent) := (0, ⟨mkU z65u0p z65u0x (z65u0t k k) nilU⟩) :: z65U0 k
theorem z65U1_k (k : Nat) : UTab (z65U1 k) := (z65U0_k k).cons (mkU_nat nilU_nat)
noncomputable def overspillref08_Take (k : Nat) (x0 : List UInt8) (x1 : Int) : Option ((Int) × ((Int) × ((Int) × (Unit)))) :=
  Option.bind (overspillref08_Takeu0 k k (-32) ([] : List (List UInt8))) fun (v252 : (Unit) × (List (List UInt8))) =>
  Option.bind (overspillref05_Take k v252.2 x0 x1) fun (v253 : (Int) × ((Int) × ((Int) × (Unit)))) =>
  bif (!(decide (v253.2.2.1 = 0))) then
    some (0, (x1, (v253.2.2.1, ())))
  else
  some ((wr .i64 (v253.1 - 32)), (v253.2.1, (0, ())))
noncomputable def z65b : AC :=
  (.seq (.region [(iO 4 (.mv (nI 0))),
    (iO 5 (.mv (nI 0))),
    (iO 6 (.mv (nI 0)))])
  (.seq (.region [(iO 7 (.nrow .str))])
  (.seq (.seq (.region [(iO 8 (.mv (nI (-32))))])
  (.block 0 (.unit 0 z65u0d true z65u0b)))
  (.seq (.region [(iO 22 (.mv (.t 7))),
    (iO 23 (.mv (.t 0))),
    (iO 24 (.mv (.t 1))),
    (iC 25 58 [((.t 22), some (.sl .str)), ((.t 23), none), ((.t 24), none)]),
    (iO 21 (.mv (.t 25))),
    (iO 26 (.ext (.t 21) 0)),
    (iO 27 (.ext (.t 21) 1)),
    (iO 28 (.ext (.t 21) 2)),
    (iO 9 (.mv (.t 26))),
    (iO 10 (.mv (.t 27))),
    (iO 11 (.mv (.t 28)))])
  (.seq (.seq (.region [(iO 29 (.mv (.t 11))),
    (iO 30 (.bin .neq (.t 29) (nI 0)))])
  (.cond (.t 30)
  (.seq (.region [(iO 31 (.mv (.t 1))),
      (iO 32 (.mv (.t 11))),
      (iO 4 (.mv (nI 0))),
      (iO 5 (.mv (.t 31))),
      (iO 6 (.mv (.t 32)))])
    .ret)
  .skip))
  (.seq (.region [(iO 33 (.mv (.t 9))),
    (iO 34 (.bin .sub (.t 33) (nI 32))),
    (iO 35 (.mv (.t 10))),
    (iO 4 (.mv (.t 34))),
    (iO 5 (.mv (.t 35))),
    (iO 6 (.mv (nI 0)))])
  .ret))))))
noncomputable def z65f : FDef := ⟨2, 36, [.tmp 4 none, .tmp 5 none, .tmp 6 none], z65b⟩
noncomputable def z65p : XPat := ⟨.normal, [(.tv .str), (.tv (.int .i64))], []⟩
noncomputable def z65x : List XPat := [⟨.ret, [(.tup (.cons (.tv (.int .i64)) (.cons (.tv (.int .i64)) (.cons (.tv (.int .i64)) .nil))))], []⟩]
noncomputable def z65t (k : Nat) (d : z65p.D) : Option (XD z65x) := overspillref08_Take k d.1 d.2
noncomputable def z65_e (k : Nat) : UEntry := mkU z65p z65x (z65t k) nilU
theorem z65_n (k : Nat) : UNat (z65_e k) := mkU_nat nilU_nat
theorem z65_fu (k : Nat) : FU P GL 31 (z65_e k) :=
  fn_typed (uorc := uorT (z65U1 k)) hmo (T64_ok k).oo (z65U1_k k) (fd := z65f) (AllU.seq (AllU.no (by kernel_rfl)) (AllU.seq (AllU.no (by kernel_rfl)) (AllU.seq (AllU.seq (AllU.no (by kernel_rfl)) (AllU.block (AllU.unit (uorc := uorT (z65U1 k)) (u := 0) (z65u0_k k)))) (AllU.no (by kernel_rfl))))) (fn := Tryd.f31) (by kernel_rfl) (by kernel_rfl) (fun d => by kernel_rfl) FU_nil
noncomputable def T65 (k : Nat) : List (Nat × Ent) := (31, ⟨z65_e k⟩) :: T64 k
theorem T65_ok (k : Nat) : TabOK P GL (T65 k) := (T64_ok k).cons (z65_fu k) (z65_n k)
/-! ### overspill.overspillref01.Wrap -/
noncomputable def z66U0 (_ : Nat) : List (Nat × Ent) := []
theorem z66U0_k (k : Nat) : UTab (z66U0 k) := UTab.nil
noncomputable def overspillref01_Wrap (k : Nat) (x0 : Int) : Option (Int) :=
  bif (decide ((Int.tmod x0 64) < 0)) then
    bif (decide ((31 : Int) < (wr .i64 ((Int.tmod x0 64) + 64)))) then
      some (wr .i64 ((wr .i64 ((Int.tmod x0 64) + 64)) - 64))
    else
    some (wr .i64 ((Int.tmod x0 64) + 64))
  else
  bif (decide ((31 : Int) < (Int.tmod x0 64))) then
    some (wr .i64 ((Int.tmod x0 64) - 64))
  else
  some (Int.tmod x0 64)
noncomputable def z66b : AC :=
  (.seq (.region [(iO 2 (.mv (nI 0)))])
  (.seq (.region [(iO 4 (.mv (.t 0))),
    (iO 5 (.bin .rem (.t 4) (nI 64))),
    (iO 3 (.mv (.t 5)))])
  (.seq (.seq (.region [(iO 6 (.mv (.t 3))),
    (iO 7 (.bin .lss (.t 6) (nI 0)))])
  (.cond (.t 7)
  (.region [(iO 8 (.mv (.t 3))),
      (iO 9 (.bin .add (.t 8) (nI 64))),
      (iO 3 (.mv (.t 9)))])
  .skip))
  (.seq (.seq (.region [(iO 10 (.mv (.t 3))),
    (iO 11 (.bin .gtr (.t 10) (nI 31)))])
  (.cond (.t 11)
  (.seq (.region [(iO 12 (.mv (.t 3))),
      (iO 13 (.bin .sub (.t 12) (nI 64))),
      (iO 2 (.mv (.t 13)))])
    .ret)
  .skip))
  (.seq (.region [(iO 14 (.mv (.t 3))),
    (iO 2 (.mv (.t 14)))])
  .ret)))))
noncomputable def z66f : FDef := ⟨1, 15, [.tmp 2 none], z66b⟩
noncomputable def z66p : XPat := ⟨.normal, [(.tv (.int .i64))], []⟩
noncomputable def z66x : List XPat := [⟨.ret, [(.tv (.int .i64))], []⟩]
noncomputable def z66t (k : Nat) (d : z66p.D) : Option (XD z66x) := overspillref01_Wrap k d
noncomputable def z66_e (k : Nat) : UEntry := mkU z66p z66x (z66t k) nilU
theorem z66_n (k : Nat) : UNat (z66_e k) := mkU_nat nilU_nat
theorem z66_fu (k : Nat) : FU P GL 32 (z66_e k) :=
  fn_typed (uorc := uorT (z66U0 k)) hmo (T65_ok k).oo (z66U0_k k) (fd := z66f) (AllU.no (by kernel_rfl)) (fn := Tryd.f32) (by kernel_rfl) (by kernel_rfl) (fun d => by kernel_rfl) FU_nil
noncomputable def T66 (k : Nat) : List (Nat × Ent) := (32, ⟨z66_e k⟩) :: T65 k
theorem T66_ok (k : Nat) : TabOK P GL (T66 k) := (T65_ok k).cons (z66_fu k) (z66_n k)
/-! ### overspill.overspillref15.from -/
noncomputable def z67U0 (_ : Nat) : List (Nat × Ent) := []
theorem z67U0_k (k : Nat) : UTab (z67U0 k) := UTab.nil
noncomputable def overspillref15_from (k : Nat) (x0 : Bool) : Option (Int) :=
  bif x0 then
    some 1
  else
  some 0
noncomputable def z67b : AC :=
  (.seq (.region [(iO 2 (.mv (nI 0)))])
  (.seq (.seq (.region [(iO 3 (.mv (.t 0)))])
  (.cond (.t 3)
  (.seq (.region [(iO 2 (.mv (nI 1)))])
    .ret)
  .skip))
  (.seq (.region [(iO 2 (.mv (nI 0)))])
  .ret)))
noncomputable def z67f : FDef := ⟨1, 4, [.tmp 2 none], z67b⟩
noncomputable def z67p : XPat := ⟨.normal, [(.tv .bool)], []⟩
noncomputable def z67x : List XPat := [⟨.ret, [(.tv (.int .i64))], []⟩]
noncomputable def z67t (k : Nat) (d : z67p.D) : Option (XD z67x) := overspillref15_from k d
noncomputable def z67_e (k : Nat) : UEntry := mkU z67p z67x (z67t k) nilU
theorem z67_n (k : Nat) : UNat (z67_e k) := mkU_nat nilU_nat
theorem z67_fu (k : Nat) : FU P GL 62 (z67_e k) :=
  fn_typed (uorc := uorT (z67U0 k)) hmo (T66_ok k).oo (z67U0_k k) (fd := z67f) (AllU.no (by kernel_rfl)) (fn := Tryd.f62) (by kernel_rfl) (by kernel_rfl) (fun d => by kernel_rfl) FU_nil
noncomputable def T67 (k : Nat) : List (Nat × Ent) := (62, ⟨z67_e k⟩) :: T66 k
theorem T67_ok (k : Nat) : TabOK P GL (T67 k) := (T66_ok k).cons (z67_fu k) (z67_n k)
/-! ### overspill.overspillref09.table -/
noncomputable def z68U0 (_ : Nat) : List (Nat × Ent) := []
theorem z68U0_k (k : Nat) : UTab (z68U0 k) := UTab.nil
noncomputable def overspillref09_table (k : Nat) : Option (List (List UInt8)) :=
  some ([([49, 48, 32, 49, 49, 49, 49, 32, 48, 49, 48, 49, 48, 49, 32, 48, 48, 49, 48, 49, 49, 49, 32, 48, 48, 48, 49, 49, 49, 49, 49, 32, 48, 48, 48, 49, 48, 48, 49, 48, 49, 32, 48, 48, 48, 49, 48, 48, 49, 48, 48, 32, 48, 48, 48, 48, 49, 48, 48, 48, 48, 49, 32, 48, 48, 48, 48, 49, 48, 48, 48, 48, 48, 32, 48, 48, 48, 48, 48, 48, 48, 48, 49, 49, 49, 32, 48, 48, 48, 48, 48, 48, 48, 48, 49, 49, 48, 32, 48, 48, 48, 48, 48, 49, 48, 48, 48, 48, 48] : List UInt8), ([49, 49, 48, 32, 48, 49, 48, 49, 48, 48, 32, 48, 48, 48, 49, 49, 49, 49, 48, 32, 48, 48, 48, 48, 48, 48, 49, 49, 49, 49, 32, 48, 48, 48, 48, 48, 49, 48, 48, 48, 48, 49, 32, 48, 48, 48, 48, 48, 49, 48, 49, 48, 48, 48, 48] : List UInt8), ([49, 49, 49, 48, 32, 48, 48, 48, 49, 49, 49, 48, 49, 32, 48, 48, 48, 48, 48, 48, 49, 49, 49, 48, 32, 48, 48, 48, 48, 48, 49, 48, 49, 48, 48, 48, 49] : List UInt8), ([48, 49, 49, 48, 49, 32, 48, 48, 48, 49, 48, 48, 48, 49, 49, 32, 48, 48, 48, 48, 48, 48, 49, 49, 48, 49] : List UInt8), ([48, 49, 49, 48, 48, 32, 48, 48, 48, 49, 48, 48, 48, 49, 48, 32, 48, 48, 48, 48, 48, 49, 48, 49, 48, 48, 49, 48] : List UInt8), ([48, 49, 48, 49, 49, 32, 48, 48, 48, 48, 48, 48, 49, 49, 48, 48, 32, 48, 48, 48, 48, 48, 49, 48, 49, 48, 48, 49, 49] : List UInt8), ([48, 49, 48, 48, 49, 49, 32, 48, 48, 48, 48, 48, 48, 49, 48, 49, 49, 32, 48, 48, 48, 48, 48, 49, 48, 49, 48, 49, 48, 48] : List UInt8), ([48, 49, 48, 48, 49, 48, 32, 48, 48, 48, 48, 48, 48, 49, 48, 49, 48] : List UInt8), ([48, 49, 48, 48, 48, 49, 32, 48, 48, 48, 48, 48, 48, 49, 48, 48, 49] : List UInt8), ([48, 49, 48, 48, 48, 48, 32, 48, 48, 48, 48, 48, 48, 49, 48, 48, 48] : List UInt8), ([48, 48, 49, 48, 49, 49, 48, 32, 48, 48, 48, 48, 48, 49, 48, 49, 48, 49, 48, 49] : List UInt8), ([48, 48, 49, 48, 49, 48, 49] : List UInt8), ([48, 48, 49, 48, 49, 48, 48] : List UInt8), ([48, 48, 48, 49, 49, 49, 48, 48] : List UInt8), ([48, 48, 48, 49, 49, 48, 49, 49] : List UInt8), ([48, 48, 48, 49, 48, 48, 48, 48, 49] : List UInt8), ([48, 48, 48, 49, 48, 48, 48, 48, 48] : List UInt8), ([48, 48, 48, 48, 49, 49, 49, 49, 49] : List UInt8), ([48, 48, 48, 48, 49, 49, 49, 49, 48] : List UInt8), ([48, 48, 48, 48, 49, 49, 49, 48, 49] : List UInt8), ([48, 48, 48, 48, 49, 49, 49, 48, 48] : List UInt8), ([48, 48, 48, 48, 49, 49, 48, 49, 49] : List UInt8), ([48, 48, 48, 48, 49, 49, 48, 49, 48] : List UInt8), ([48, 48, 48, 48, 48, 49, 48, 48, 48, 49, 48] : List UInt8), ([48, 48, 48, 48, 48, 49, 48, 48, 48, 49, 49] : List UInt8), ([48, 48, 48, 48, 48, 49, 48, 49, 48, 49, 49, 48] : List UInt8), ([48, 48, 48, 48, 48, 49, 48, 49, 48, 49, 49, 49] : List UInt8)] : List (List UInt8))
noncomputable def z68b : AC :=
  (.seq (.region [(iO 0 (.nrow .str))])
  (.seq (.region [(iO 1 (.bslice .str [(.c (.tv .str (([49, 48, 32, 49, 49, 49, 49, 32, 48, 49, 48, 49, 48, 49, 32, 48, 48, 49, 48, 49, 49, 49, 32, 48, 48, 48, 49, 49, 49, 49, 49, 32, 48, 48, 48, 49, 48, 48, 49, 48, 49, 32, 48, 48, 48, 49, 48, 48, 49, 48, 48, 32, 48, 48, 48, 48, 49, 48, 48, 48, 48, 49, 32, 48, 48, 48, 48, 49, 48, 48, 48, 48, 48, 32, 48, 48, 48, 48, 48, 48, 48, 48, 49, 49, 49, 32, 48, 48, 48, 48, 48, 48, 48, 48, 49, 49, 48, 32, 48, 48, 48, 48, 48, 49, 48, 48, 48, 48, 48] : List UInt8) : List UInt8))), (.c (.tv .str (([49, 49, 48, 32, 48, 49, 48, 49, 48, 48, 32, 48, 48, 48, 49, 49, 49, 49, 48, 32, 48, 48, 48, 48, 48, 48, 49, 49, 49, 49, 32, 48, 48, 48, 48, 48, 49, 48, 48, 48, 48, 49, 32, 48, 48, 48, 48, 48, 49, 48, 49, 48, 48, 48, 48] : List UInt8) : List UInt8))), (.c (.tv .str (([49, 49, 49, 48, 32, 48, 48, 48, 49, 49, 49, 48, 49, 32, 48, 48, 48, 48, 48, 48, 49, 49, 49, 48, 32, 48, 48, 48, 48, 48, 49, 48, 49, 48, 48, 48, 49] : List UInt8) : List UInt8))), (.c (.tv .str (([48, 49, 49, 48, 49, 32, 48, 48, 48, 49, 48, 48, 48, 49, 49, 32, 48, 48, 48, 48, 48, 48, 49, 49, 48, 49] : List UInt8) : List UInt8))), (.c (.tv .str (([48, 49, 49, 48, 48, 32, 48, 48, 48, 49, 48, 48, 48, 49, 48, 32, 48, 48, 48, 48, 48, 49, 48, 49, 48, 48, 49, 48] : List UInt8) : List UInt8))), (.c (.tv .str (([48, 49, 48, 49, 49, 32, 48, 48, 48, 48, 48, 48, 49, 49, 48, 48, 32, 48, 48, 48, 48, 48, 49, 48, 49, 48, 48, 49, 49] : List UInt8) : List UInt8))), (.c (.tv .str (([48, 49, 48, 48, 49, 49, 32, 48, 48, 48, 48, 48, 48, 49, 48, 49, 49, 32, 48, 48, 48, 48, 48, 49, 48, 49, 48, 49, 48, 48] : List UInt8) : List UInt8))), (.c (.tv .str (([48, 49, 48, 48, 49, 48, 32, 48, 48, 48, 48, 48, 48, 49, 48, 49, 48] : List UInt8) : List UInt8))), (.c (.tv .str (([48, 49, 48, 48, 48, 49, 32, 48, 48, 48, 48, 48, 48, 49, 48, 48, 49] : List UInt8) : List UInt8))), (.c (.tv .str (([48, 49, 48, 48, 48, 48, 32, 48, 48, 48, 48, 48, 48, 49, 48, 48, 48] : List UInt8) : List UInt8))), (.c (.tv .str (([48, 48, 49, 48, 49, 49, 48, 32, 48, 48, 48, 48, 48, 49, 48, 49, 48, 49, 48, 49] : List UInt8) : List UInt8))), (.c (.tv .str (([48, 48, 49, 48, 49, 48, 49] : List UInt8) : List UInt8))), (.c (.tv .str (([48, 48, 49, 48, 49, 48, 48] : List UInt8) : List UInt8))), (.c (.tv .str (([48, 48, 48, 49, 49, 49, 48, 48] : List UInt8) : List UInt8))), (.c (.tv .str (([48, 48, 48, 49, 49, 48, 49, 49] : List UInt8) : List UInt8))), (.c (.tv .str (([48, 48, 48, 49, 48, 48, 48, 48, 49] : List UInt8) : List UInt8))), (.c (.tv .str (([48, 48, 48, 49, 48, 48, 48, 48, 48] : List UInt8) : List UInt8))), (.c (.tv .str (([48, 48, 48, 48, 49, 49, 49, 49, 49] : List UInt8) : List UInt8))), (.c (.tv .str (([48, 48, 48, 48, 49, 49, 49, 49, 48] : List UInt8) : List UInt8))), (.c (.tv .str (([48, 48, 48, 48, 49, 49, 49, 48, 49] : List UInt8) : List UInt8))), (.c (.tv .str (([48, 48, 48, 48, 49, 49, 49, 48, 48] : List UInt8) : List UInt8))), (.c (.tv .str (([48, 48, 48, 48, 49, 49, 48, 49, 49] : List UInt8) : List UInt8))), (.c (.tv .str (([48, 48, 48, 48, 49, 49, 48, 49, 48] : List UInt8) : List UInt8))), (.c (.tv .str (([48, 48, 48, 48, 48, 49, 48, 48, 48, 49, 48] : List UInt8) : List UInt8))), (.c (.tv .str (([48, 48, 48, 48, 48, 49, 48, 48, 48, 49, 49] : List UInt8) : List UInt8))), (.c (.tv .str (([48, 48, 48, 48, 48, 49, 48, 49, 48, 49, 49, 48] : List UInt8) : List UInt8))), (.c (.tv .str (([48, 48, 48, 48, 48, 49, 48, 49, 48, 49, 49, 49] : List UInt8) : List UInt8)))])),
    (iO 0 (.mv (.t 1)))])
  .ret))
noncomputable def z68f : FDef := ⟨0, 2, [.tmp 0 (some (.sl .str))], z68b⟩
noncomputable def z68p : XPat := ⟨.normal, [], []⟩
noncomputable def z68x : List XPat := [⟨.ret, [(.tv (.sl .str))], []⟩]
noncomputable def z68t (k : Nat) (d : z68p.D) : Option (XD z68x) := overspillref09_table k
noncomputable def z68_e (k : Nat) : UEntry := mkU z68p z68x (z68t k) nilU
theorem z68_n (k : Nat) : UNat (z68_e k) := mkU_nat nilU_nat
theorem z68_fu (k : Nat) : FU P GL 99 (z68_e k) :=
  fn_typed (uorc := uorT (z68U0 k)) hmo (T67_ok k).oo (z68U0_k k) (fd := z68f) (AllU.no (by kernel_rfl)) (fn := Tryd.f99) (by kernel_rfl) (by kernel_rfl) (fun d => by kernel_rfl) FU_nil
noncomputable def T68 (k : Nat) : List (Nat × Ent) := (99, ⟨z68_e k⟩) :: T67 k
theorem T68_ok (k : Nat) : TabOK P GL (T68 k) := (T67_ok k).cons (z68_fu k) (z68_n k)
/-! ### overspill.overspillref09.ends -/
noncomputable def z69U0 (_ : Nat) : List (Nat × Ent) := []
theorem z69U0_k (k : Nat) : UTab (z69U0 k) := UTab.nil
noncomputable def overspillref09_ends (k : Nat) : Option (List (List UInt8)) :=
  some ([([48, 49, 49, 49, 32, 48, 48, 48, 48, 49, 49, 48, 48, 49, 32, 48, 48, 48, 48, 48, 48, 48, 48, 49, 48, 49] : List UInt8), ([48, 48, 49, 49, 49, 49, 32, 48, 48, 48, 48, 48, 48, 48, 48, 49, 48, 48] : List UInt8), ([48, 48, 49, 49, 49, 48] : List UInt8), ([48, 48, 49, 49, 48, 49] : List UInt8), ([48, 48, 49, 49, 48, 48] : List UInt8), ([48, 48, 49, 48, 48, 49, 49] : List UInt8), ([48, 48, 49, 48, 48, 49, 48] : List UInt8), ([48, 48, 49, 48, 48, 48, 49] : List UInt8), ([48, 48, 49, 48, 48, 48, 48] : List UInt8), ([48, 48, 48, 49, 49, 48, 49, 48] : List UInt8), ([48, 48, 48, 49, 49, 48, 48, 49] : List UInt8), ([48, 48, 48, 49, 49, 48, 48, 48] : List UInt8), ([48, 48, 48, 49, 48, 49, 49, 49] : List UInt8), ([48, 48, 48, 49, 48, 49, 49, 48] : List UInt8), ([48, 48, 48, 49, 48, 49, 48, 49] : List UInt8), ([48, 48, 48, 49, 48, 49, 48, 48] : List UInt8), ([48, 48, 48, 49, 48, 48, 49, 49] : List UInt8), ([48, 48, 48, 48, 49, 49, 48, 48, 48] : List UInt8), ([48, 48, 48, 48, 49, 48, 49, 49, 49] : List UInt8), ([48, 48, 48, 48, 49, 48, 49, 49, 48] : List UInt8), ([48, 48, 48, 48, 49, 48, 49, 48, 49] : List UInt8), ([48, 48, 48, 48, 49, 48, 49, 48, 48] : List UInt8), ([48, 48, 48, 48, 49, 48, 48, 49, 49] : List UInt8), ([48, 48, 48, 48, 49, 48, 48, 49, 48] : List UInt8), ([48, 48, 48, 48, 49, 48, 48, 48, 49] : List UInt8), ([48, 48, 48, 48, 48, 48, 48, 49, 49, 49] : List UInt8), ([48, 48, 48, 48, 48, 48, 48, 49, 49, 48] : List UInt8), ([48, 48, 48, 48, 48, 48, 48, 49, 48, 49] : List UInt8), ([48, 48, 48, 48, 48, 48, 48, 49, 48, 48] : List UInt8), ([48, 48, 48, 48, 48, 49, 48, 48, 49, 48, 48] : List UInt8), ([48, 48, 48, 48, 48, 49, 48, 48, 49, 48, 49] : List UInt8), ([48, 48, 48, 48, 48, 49, 48, 48, 49, 49, 48] : List UInt8), ([48, 48, 48, 48, 48, 49, 48, 48, 49, 49, 49] : List UInt8), ([48, 48, 48, 48, 48, 49, 48, 49, 49, 48, 48, 48] : List UInt8), ([48, 48, 48, 48, 48, 49, 48, 49, 49, 48, 48, 49] : List UInt8), ([48, 48, 48, 48, 48, 49, 48, 49, 49, 48, 49, 48] : List UInt8), ([48, 48, 48, 48, 48, 49, 48, 49, 49, 48, 49, 49] : List UInt8), ([48, 48, 48, 48, 48, 49, 48, 49, 49, 49, 48, 48] : List UInt8), ([48, 48, 48, 48, 48, 49, 48, 49, 49, 49, 48, 49] : List UInt8), ([48, 48, 48, 48, 48, 49, 48, 49, 49, 49, 49, 48] : List UInt8), ([48, 48, 48, 48, 48, 49, 48, 49, 49, 49, 49, 49] : List UInt8)] : List (List UInt8))
noncomputable def z69b : AC :=
  (.seq (.region [(iO 0 (.nrow .str))])
  (.seq (.region [(iO 1 (.bslice .str [(.c (.tv .str (([48, 49, 49, 49, 32, 48, 48, 48, 48, 49, 49, 48, 48, 49, 32, 48, 48, 48, 48, 48, 48, 48, 48, 49, 48, 49] : List UInt8) : List UInt8))), (.c (.tv .str (([48, 48, 49, 49, 49, 49, 32, 48, 48, 48, 48, 48, 48, 48, 48, 49, 48, 48] : List UInt8) : List UInt8))), (.c (.tv .str (([48, 48, 49, 49, 49, 48] : List UInt8) : List UInt8))), (.c (.tv .str (([48, 48, 49, 49, 48, 49] : List UInt8) : List UInt8))), (.c (.tv .str (([48, 48, 49, 49, 48, 48] : List UInt8) : List UInt8))), (.c (.tv .str (([48, 48, 49, 48, 48, 49, 49] : List UInt8) : List UInt8))), (.c (.tv .str (([48, 48, 49, 48, 48, 49, 48] : List UInt8) : List UInt8))), (.c (.tv .str (([48, 48, 49, 48, 48, 48, 49] : List UInt8) : List UInt8))), (.c (.tv .str (([48, 48, 49, 48, 48, 48, 48] : List UInt8) : List UInt8))), (.c (.tv .str (([48, 48, 48, 49, 49, 48, 49, 48] : List UInt8) : List UInt8))), (.c (.tv .str (([48, 48, 48, 49, 49, 48, 48, 49] : List UInt8) : List UInt8))), (.c (.tv .str (([48, 48, 48, 49, 49, 48, 48, 48] : List UInt8) : List UInt8))), (.c (.tv .str (([48, 48, 48, 49, 48, 49, 49, 49] : List UInt8) : List UInt8))), (.c (.tv .str (([48, 48, 48, 49, 48, 49, 49, 48] : List UInt8) : List UInt8))), (.c (.tv .str (([48, 48, 48, 49, 48, 49, 48, 49] : List UInt8) : List UInt8))), (.c (.tv .str (([48, 48, 48, 49, 48, 49, 48, 48] : List UInt8) : List UInt8))), (.c (.tv .str (([48, 48, 48, 49, 48, 48, 49, 49] : List UInt8) : List UInt8))), (.c (.tv .str (([48, 48, 48, 48, 49, 49, 48, 48, 48] : List UInt8) : List UInt8))), (.c (.tv .str (([48, 48, 48, 48, 49, 48, 49, 49, 49] : List UInt8) : List UInt8))), (.c (.tv .str (([48, 48, 48, 48, 49, 48, 49, 49, 48] : List UInt8) : List UInt8))), (.c (.tv .str (([48, 48, 48, 48, 49, 48, 49, 48, 49] : List UInt8) : List UInt8))), (.c (.tv .str (([48, 48, 48, 48, 49, 48, 49, 48, 48] : List UInt8) : List UInt8))), (.c (.tv .str (([48, 48, 48, 48, 49, 48, 48, 49, 49] : List UInt8) : List UInt8))), (.c (.tv .str (([48, 48, 48, 48, 49, 48, 48, 49, 48] : List UInt8) : List UInt8))), (.c (.tv .str (([48, 48, 48, 48, 49, 48, 48, 48, 49] : List UInt8) : List UInt8))), (.c (.tv .str (([48, 48, 48, 48, 48, 48, 48, 49, 49, 49] : List UInt8) : List UInt8))), (.c (.tv .str (([48, 48, 48, 48, 48, 48, 48, 49, 49, 48] : List UInt8) : List UInt8))), (.c (.tv .str (([48, 48, 48, 48, 48, 48, 48, 49, 48, 49] : List UInt8) : List UInt8))), (.c (.tv .str (([48, 48, 48, 48, 48, 48, 48, 49, 48, 48] : List UInt8) : List UInt8))), (.c (.tv .str (([48, 48, 48, 48, 48, 49, 48, 48, 49, 48, 48] : List UInt8) : List UInt8))), (.c (.tv .str (([48, 48, 48, 48, 48, 49, 48, 48, 49, 48, 49] : List UInt8) : List UInt8))), (.c (.tv .str (([48, 48, 48, 48, 48, 49, 48, 48, 49, 49, 48] : List UInt8) : List UInt8))), (.c (.tv .str (([48, 48, 48, 48, 48, 49, 48, 48, 49, 49, 49] : List UInt8) : List UInt8))), (.c (.tv .str (([48, 48, 48, 48, 48, 49, 48, 49, 49, 48, 48, 48] : List UInt8) : List UInt8))), (.c (.tv .str (([48, 48, 48, 48, 48, 49, 48, 49, 49, 48, 48, 49] : List UInt8) : List UInt8))), (.c (.tv .str (([48, 48, 48, 48, 48, 49, 48, 49, 49, 48, 49, 48] : List UInt8) : List UInt8))), (.c (.tv .str (([48, 48, 48, 48, 48, 49, 48, 49, 49, 48, 49, 49] : List UInt8) : List UInt8))), (.c (.tv .str (([48, 48, 48, 48, 48, 49, 48, 49, 49, 49, 48, 48] : List UInt8) : List UInt8))), (.c (.tv .str (([48, 48, 48, 48, 48, 49, 48, 49, 49, 49, 48, 49] : List UInt8) : List UInt8))), (.c (.tv .str (([48, 48, 48, 48, 48, 49, 48, 49, 49, 49, 49, 48] : List UInt8) : List UInt8))), (.c (.tv .str (([48, 48, 48, 48, 48, 49, 48, 49, 49, 49, 49, 49] : List UInt8) : List UInt8)))])),
    (iO 0 (.mv (.t 1)))])
  .ret))
noncomputable def z69f : FDef := ⟨0, 2, [.tmp 0 (some (.sl .str))], z69b⟩
noncomputable def z69p : XPat := ⟨.normal, [], []⟩
noncomputable def z69x : List XPat := [⟨.ret, [(.tv (.sl .str))], []⟩]
noncomputable def z69t (k : Nat) (d : z69p.D) : Option (XD z69x) := overspillref09_ends k
noncomputable def z69_e (k : Nat) : UEntry := mkU z69p z69x (z69t k) nilU
theorem z69_n (k : Nat) : UNat (z69_e k) := mkU_nat nilU_nat
theorem z69_fu (k : Nat) : FU P GL 100 (z69_e k) :=
  fn_typed (uorc := uorT (z69U0 k)) hmo (T68_ok k).oo (z69U0_k k) (fd := z69f) (AllU.no (by kernel_rfl)) (fn := Tryd.f100) (by kernel_rfl) (by kernel_rfl) (fun d => by kernel_rfl) FU_nil
noncomputable def T69 (k : Nat) : List (Nat × Ent) := (100, ⟨z69_e k⟩) :: T68 k
theorem T69_ok (k : Nat) : TabOK P GL (T69 k) := (T68_ok k).cons (z69_fu k) (z69_n k)
/-! ### overspill.overspillref09.words -/
noncomputable def z70U0 (_ : Nat) : List (Nat × Ent) := []
theorem z70U0_k (k : Nat) : UTab (z70U0 k) := UTab.nil
noncomputable def z70u0d : UDef := ⟨[(0, none), (3, none), (4, none)], [3, 4, 6, 7, 8, 9, 10, 11, 12, 13, 14, 15, 16, 17, 18, 19, 20, 21, 22, 23, 24, 25, 26, 27, 28, 29, 30, 31, 32, 33, 34, 35], [((.exit 0), [(3, none)])], []⟩
noncomputable def z70u0p : XPat := ⟨.normal, [(.tv .str), (.row 0), (.tv (.int .i64))], [(.row .str false)]⟩
noncomputable def z70u0x : List XPat := [⟨(.exit 0), [(.row 0)], [(.row .str false)]⟩]
noncomputable def overspillref09_wordsu0 (k : Nat) : Nat → (List UInt8) → (Int) → (List (List UInt8)) → Option ((Unit) × (List (List UInt8)))
  | 0, _, _, _ => none
  | n + 1, x0, x1, x2 =>
    bif (decide (x1 < ((List.length x0 : Nat) : Int))) then
      bif (inR x1 (List.length x0)) then
        bif (decide (((UInt8.toNat (List.getD x0 (Int.toNat x1) 0) : Nat) : Int) = 32)) then
          bif (decide ((List.length x2) + 1 ≤ rowMax)) then
            Option.bind (overspillref09_wordsu0 k n x0 (wr .i64 (x1 + 1)) (x2 ++ ([([] : List UInt8)] : List (List UInt8)))) fun r => some r
          else
            none
        else
        bif (inR (wr .i64 (((List.length x2 : Nat) : Int) - 1)) (List.length x2)) then
          bif (decide ((0 : Int) ≤ x1 ∧ x1 ≤ (wr .i64 (x1 + 1)) ∧ (wr .i64 (x1 + 1)) ≤ (((List.length x0) : Nat) : Int))) then
            bif (decide ((List.length (List.getD x2 (Int.toNat (wr .i64 (((List.length x2 : Nat) : Int) - 1))) ([] : List UInt8))) + (List.length (List.drop (Int.toNat x1) (List.take (Int.toNat (wr .i64 (x1 + 1))) x0))) ≤ strMax)) then
              bif (inR (wr .i64 (((List.length x2 : Nat) : Int) - 1)) (List.length x2)) then
                Option.bind (overspillref09_wordsu0 k n x0 (wr .i64 (x1 + 1)) (List.set x2 (Int.toNat (wr .i64 (((List.length x2 : Nat) : Int) - 1))) ((List.getD x2 (Int.toNat (wr .i64 (((List.length x2 : Nat) : Int) - 1))) ([] : List UInt8)) ++ (List.drop (Int.toNat x1) (List.take (Int.toNat (wr .i64 (x1 + 1))) x0))))) fun r => some r
              else
                none
            else
              none
          else
            none
        else
          none
      else
        none
    else
    some ((), x2)
noncomputable def z70u0b : AC :=
  (.seq (.seq (.region [(iO 6 (.mv (.t 4))),
    (iO 7 (.mv (.t 0))),
    (iO 8 (.lens (.t 7))),
    (iO 9 (.bin .lss (.t 6) (.t 8)))])
  (.cond (.t 9)
  .skip
  (.exit 0)))
  (.seq (.block 1 (.seq (.region [(iO 12 (.mv (.t 0))),
    (iO 13 (.mv (.t 4))),
    (iO 14 (.ixs (.t 12) (.t 13))),
    (iO 15 (.bin .eql (.t 14) (.c (.tv (.int .u8) (32 : Int)))))])
  (.cond (.t 15)
  (.region [(iO 16 (.mv (.t 3))),
      (iO 17 (.bslice .str [(.c (.tv .str (([] : List UInt8) : List UInt8)))])),
      (iO 18 (.app .str (.t 16) (.t 17))),
      (iO 3 (.mv (.t 18)))])
  (.draw [(iO 19 (.mv (.t 3))),
      (iO 20 (.mv (.t 3))),
      (iOa 21 (.len (.t 20)) [1]),
      (iOa 22 (.bin .sub (.t 21) (nI 1)) [1, 2]),
      (iO 23 (.mv (.t 3))),
      (iO 24 (.mv (.t 3))),
      (iOa 25 (.len (.t 24)) [5]),
      (iOa 26 (.bin .sub (.t 25) (nI 1)) [5, 6]),
      (iOa 27 (.iads .str (.t 23) (.t 26)) (rg [4, 4])),
      (iOa 28 (.load false 1 (.t 27)) (rg [4, 5])),
      (iO 29 (.mv (.t 0))),
      (iO 30 (.mv (.t 4))),
      (iO 31 (.mv (.t 4))),
      (iOa 32 (.bin .add (.t 31) (nI 1)) [12]),
      (iOa 33 (.slis (.t 29) (some (.t 30)) (some (.t 32))) (rg [10, 4])),
      (iOa 34 (.bin .add (.t 28) (.t 33)) (rg [4, 11])),
      (iOa 35 (.iads .str (.t 19) (.t 22)) (rg [0, 16])),
      (iSa (.store 1 none (.t 35) (.t 34)) (rg [0, 17]))]))))
  (.region [(iO 10 (.mv (.t 4))),
    (iO 11 (.bin .add (.t 10) (nI 1))),
    (iO 4 (.mv (.t 11)))])))
noncomputable def z70u0t (k n : Nat) (d : z70u0p.D) : Option (XD z70u0x) := overspillref09_wordsu0 k n d.1.1 d.1.2.2 d.2
theorem z70u0_k (k : Nat) : UOK P GL (mkU z70u0p z70u0x (z70u0t k k) nilU) z70u0d true z70u0b :=
  loop_typed (ud := z70u0d) (body := z70u0b) (uorc := uorT (z70U0 k)) hmo (T69_ok k).oo (z70U0_k k) (AllU.no (by kernel_rfl)) (t := z70u0t k) (fun d => by kernel_rfl) (fun n d => by kernel_rfl) k
noncomputable def z70U1 (k : Nat) : List (Nat × Ent) := (0, ⟨mkU z70u0p z70u0x (z70u0t k k) nilU⟩) :: z70U0 k
theorem z70U1_k (k : Nat) : UTab (z70U1 k) := (z70U0_k k).cons (mkU_nat nilU_nat)
noncomputable def overspillref09_words (k : Nat) (x0 : List UInt8) : Option (List (List UInt8)) :=
  Option.bind (overspillref09_wordsu0 k k x0 0 ([([] : List UInt8)] : List (List UInt8))) fun (v275 : (Unit) × (List (List UInt8))) =>
  some v275.2
noncomputable def z70b : AC :=
  (.seq (.region [(iO 2 (.nrow .str))])
  (.seq (.region [(iO 5 (.bslice .str [(.c (.tv .str (([] : List UInt8) : List UInt8)))])),
    (iO 3 (.mv (.t 5)))])
  (.seq (.seq (.region [(iO 4 (.mv (nI 0)))])
  (.block 0 (.unit 0 z70u0d true z70u0b)))
  (.seq (.region [(iO 36 (.mv (.t 3))),
    (iO 2 (.mv (.t 36)))])
  .ret))))
noncomputable def z70f : FDef := ⟨1, 37, [.tmp 2 (some (.sl .str))], z70b⟩
noncomputable def z70p : XPat := ⟨.normal, [(.tv .str)], []⟩
noncomputable def z70x : List XPat := [⟨.ret, [(.tv (.sl .str))], []⟩]
noncomputable def z70t (k : Nat) (d : z70p.D) : Option (XD z70x) := overspillref09_words k d
noncomputable def z70_e (k : Nat) : UEntry := mkU z70p z70x (z70t k) nilU
theorem z70_n (k : Nat) : UNat (z70_e k) := mkU_nat nilU_nat
theorem z70_fu (k : Nat) : FU P GL 101 (z70_e k) :=
  fn_typed (uorc := uorT (z70U1 k)) hmo (T69_ok k).oo (z70U1_k k) (fd := z70f) (AllU.seq (AllU.no (by kernel_rfl)) (AllU.seq (AllU.no (by kernel_rfl)) (AllU.seq (AllU.seq (AllU.no (by kernel_rfl)) (AllU.block (AllU.unit (uorc := uorT (z70U1 k)) (u := 0) (z70u0_k k)))) (AllU.no (by kernel_rfl))))) (fn := Tryd.f101) (by kernel_rfl) (by kernel_rfl) (fun d => by kernel_rfl) FU_nil
noncomputable def T70 (k : Nat) : List (Nat × Ent) := (101, ⟨z70_e k⟩) :: T69 k
theorem T70_ok (k : Nat) : TabOK P GL (T70 k) := (T69_ok k).cons (z70_fu k) (z70_n k)
/-! ### overspill.overspillref09.rows -/
noncomputable def z71U0 (_ : Nat) : List (Nat × Ent) := []
theorem z71U0_k (k : Nat) : UTab (z71U0 k) := UTab.nil
noncomputable def z71u0d : UDef := ⟨[(5, none), (7, none)], [5, 8], [(.normal, [(5, none)])], []⟩
noncomputable def z71u0p : XPat := ⟨.normal, [(.tv (.sl .str)), (.tv .bool)], []⟩
noncomputable def z71u0x : List XPat := [⟨.normal, [(.tv (.sl .str))], []⟩]
noncomputable def overspillref09_rowsu0 (k : Nat) (x0 : List (List UInt8)) (x1 : Bool) : Option (List (List UInt8)) :=
  bif x1 then
    Option.bind (overspillref09_ends k) fun (v273 : List (List UInt8)) =>
    some v273
  else
  some x0
noncomputable def z71u0b : AC :=
  (.cond (.t 7)
  (.region [(iC 8 100 []),
      (iO 5 (.mv (.t 8)))])
  .skip)
noncomputable def z71u0t (k : Nat) (d : z71u0p.D) : Option (XD z71u0x) := overspillref09_rowsu0 k d.1 d.2
theorem z71u0_k (k : Nat) : UOK P GL (mkU z71u0p z71u0x (z71u0t k) nilU) z71u0d false z71u0b :=
  unit_typed (ud := z71u0d) (body := z71u0b) (uorc := uorT (z71U0 k)) hmo (T70_ok k).oo (z71U0_k k) (AllU.no (by kernel_rfl)) (fun d => by kernel_rfl)
noncomputable def z71U1 (k : Nat) : List (Nat × Ent) := (0, ⟨mkU z71u0p z71u0x (z71u0t k) nilU⟩) :: z71U0 k
theorem z71U1_k (k : Nat) : UTab (z71U1 k) := (z71U0_k k).cons (mkU_nat nilU_nat)
noncomputable def overspillref09_rows (k : Nat) (x0 : Bool) (x1 : Int) : Option (List (List UInt8)) :=
  Option.bind (overspillref09_table k) fun (v271 : List (List UInt8)) =>
  Option.bind (overspillref09_rowsu0 k v271 x0) fun (v274 : List (List UInt8)) =>
  bif (decide (((List.length v274 : Nat) : Int) ≤ x1)) then
    some ([] : List (List UInt8))
  else
  bif (inR x1 (List.length v274)) then
    Option.bind (overspillref09_words k (List.getD v274 (Int.toNat x1) ([] : List UInt8))) fun (v276 : List (List UInt8)) =>
    some v276
  else
    none
noncomputable def z71b : AC :=
  (.seq (.region [(iO 4 (.mv (.c (.tv (.sl .str) (([] : List (List UInt8)) : List (List UInt8))))))])
  (.seq (.region [(iC 6 99 []),
    (iO 5 (.mv (.t 6)))])
  (.seq (.seq (.region [(iO 7 (.mv (.t 0)))])
  (.unit 0 z71u0d false z71u0b))
  (.seq (.seq (.region [(iO 9 (.mv (.t 1))),
    (iO 10 (.mv (.t 5))),
    (iO 11 (.len (.t 10))),
    (iO 12 (.bin .geq (.t 9) (.t 11)))])
  (.cond (.t 12)
  (.seq (.region [(iO 4 (.mv (.c (.tv (.sl .str) (([] : List (List UInt8)) : List (List UInt8))))))])
    .ret)
  .skip))
  (.seq (.region [(iO 13 (.mv (.t 5))),
    (iO 14 (.mv (.t 1))),
    (iO 15 (.iads .str (.t 13) (.t 14))),
    (iO 16 (.load false 1 (.t 15))),
    (iC 17 101 [((.t 16), none)]),
    (iO 4 (.mv (.t 17)))])
  .ret)))))
noncomputable def z71f : FDef := ⟨2, 18, [.tmp 4 (some (.sl .str))], z71b⟩
noncomputable def z71p : XPat := ⟨.normal, [(.tv .bool), (.tv (.int .i64))], []⟩
noncomputable def z71x : List XPat := [⟨.ret, [(.tv (.sl .str))], []⟩]
noncomputable def z71t (k : Nat) (d : z71p.D) : Option (XD z71x) := overspillref09_rows k d.1 d.2
noncomputable def z71_e (k : Nat) : UEntry := mkU z71p z71x (z71t k) nilU
theorem z71_n (k : Nat) : UNat (z71_e k) := mkU_nat nilU_nat
theorem z71_fu (k : Nat) : FU P GL 84 (z71_e k) :=
  fn_typed (uorc := uorT (z71U1 k)) hmo (T70_ok k).oo (z71U1_k k) (fd := z71f) (AllU.seq (AllU.no (by kernel_rfl)) (AllU.seq (AllU.no (by kernel_rfl)) (AllU.seq (AllU.seq (AllU.no (by kernel_rfl)) (AllU.unit (uorc := uorT (z71U1 k)) (u := 0) (z71u0_k k))) (AllU.no (by kernel_rfl))))) (fn := Tryd.f84) (by kernel_rfl) (by kernel_rfl) (fun d => by kernel_rfl) FU_nil
noncomputable def T71 (k : Nat) : List (Nat × Ent) := (84, ⟨z71_e k⟩) :: T70 k
theorem T71_ok (k : Nat) : TabOK P GL (T71 k) := (T70_ok k).cons (z71_fu k) (z71_n k)
/-! ### overspill.overspillref09.Right -/
noncomputable def z72U0 (_ : Nat) : List (Nat × Ent) := []
theorem z72U0_k (k : Nat) : UTab (z72U0 k) := UTab.nil
noncomputable def overspillref09_Right (k : Nat) (x0 : DEvent) : Option (Bool) :=
  bif (decide ((0 : Int) ≤ x0.2.1)) then
    bif (decide (x0.2.1 ≤ 63)) then
      bif (decide (((-127) : Int) ≤ x0.2.2.1)) then
        bif (decide (x0.2.2.1 ≤ 127)) then
          some (!(decide (x0.2.2.1 = 0)))
        else
        some false
      else
      some false
    else
    some false
  else
  some false
noncomputable def z72b : AC :=
  (.seq (.region [(iO 1 (.box (.t 0))),
    (iO 2 (.mv (.c (.tv .bool (false : Bool)))))])
  (.seq (.region [(iO 3 (.fad 1 1 (.t 1))),
    (iO 4 (.load false 1 (.t 3))),
    (iO 5 (.bin .geq (.t 4) (nI 0))),
    (iO 6 (.mv (.t 5))),
    ⟨some 7, some (3, 6, true), (.op (.fad 1 1 (.t 1))), []⟩,
    ⟨some 8, some (3, 6, true), (.op (.load false 1 (.t 7))), []⟩,
    ⟨some 9, some (3, 6, true), (.op (.bin .leq (.t 8) (nI 63))), []⟩,
    (iO 10 (.pick (.t 6) (.t 9) (.c (.tv .bool (false : Bool))))),
    (iO 11 (.mv (.t 10))),
    ⟨some 12, some (8, 11, true), (.op (.fad 2 2 (.t 1))), []⟩,
    ⟨some 13, some (8, 11, true), (.op (.load false 1 (.t 12))), []⟩,
    ⟨some 14, some (8, 11, true), (.op (.bin .geq (.t 13) (nI (-127)))), []⟩,
    (iO 15 (.pick (.t 11) (.t 14) (.c (.tv .bool (false : Bool))))),
    (iO 16 (.mv (.t 15))),
    ⟨some 17, some (13, 16, true), (.op (.fad 2 2 (.t 1))), []⟩,
    ⟨some 18, some (13, 16, true), (.op (.load false 1 (.t 17))), []⟩,
    ⟨some 19, some (13, 16, true), (.op (.bin .leq (.t 18) (nI 127))), []⟩,
    (iO 20 (.pick (.t 16) (.t 19) (.c (.tv .bool (false : Bool))))),
    (iO 21 (.mv (.t 20))),
    ⟨some 22, some (18, 21, true), (.op (.fad 2 2 (.t 1))), []⟩,
    ⟨some 23, some (18, 21, true), (.op (.load false 1 (.t 22))), []⟩,
    ⟨some 24, some (18, 21, true), (.op (.bin .neq (.t 23) (nI 0))), []⟩,
    (iO 25 (.pick (.t 21) (.t 24) (.c (.tv .bool (false : Bool))))),
    (iO 2 (.mv (.t 25)))])
  .ret))
noncomputable def z72f : FDef := ⟨1, 26, [.tmp 2 none], z72b⟩
noncomputable def z72p : XPat := ⟨.normal, [(.tv YEvent)], []⟩
noncomputable def z72x : List XPat := [⟨.ret, [(.tv .bool)], []⟩]
noncomputable def z72t (k : Nat) (d : z72p.D) : Option (XD z72x) := overspillref09_Right k d
noncomputable def z72_e (k : Nat) : UEntry := mkU z72p z72x (z72t k) nilU
theorem z72_n (k : Nat) : UNat (z72_e k) := mkU_nat nilU_nat
theorem z72_fu (k : Nat) : FU P GL 85 (z72_e k) :=
  fn_typed (uorc := uorT (z72U0 k)) hmo (T71_ok k).oo (z72U0_k k) (fd := z72f) (AllU.no (by kernel_rfl)) (fn := Tryd.f85) (by kernel_rfl) (by kernel_rfl) (fun d => by kernel_rfl) FU_nil
noncomputable def T72 (k : Nat) : List (Nat × Ent) := (85, ⟨z72_e k⟩) :: T71 k
theorem T72_ok (k : Nat) : TabOK P GL (T72 k) := (T71_ok k).cons (z72_fu k) (z72_n k)
/-! ### overspill.overspillref09.amount -/
noncomputable def z73U0 (_ : Nat) : List (Nat × Ent) := []
theorem z73U0_k (k : Nat) : UTab (z73U0 k) := UTab.nil
noncomputable def overspillref09_amount (k : Nat) (x0 : Int) : Option (Int) :=
  bif (decide (x0 < 0)) then
    some (wr .i64 (0 - x0))
  else
  some x0
noncomputable def z73b : AC :=
  (.seq (.region [(iO 2 (.mv (nI 0)))])
  (.seq (.seq (.region [(iO 3 (.mv (.t 0))),
    (iO 4 (.bin .lss (.t 3) (nI 0)))])
  (.cond (.t 4)
  (.seq (.region [(iO 5 (.mv (.t 0))),
      (iO 6 (.un .neg (.t 5))),
      (iO 2 (.mv (.t 6)))])
    .ret)
  .skip))
  (.seq (.region [(iO 7 (.mv (.t 0))),
    (iO 2 (.mv (.t 7)))])
  .ret)))
noncomputable def z73f : FDef := ⟨1, 8, [.tmp 2 none], z73b⟩
noncomputable def z73p : XPat := ⟨.normal, [(.tv (.int .i64))], []⟩
noncomputable def z73x : List XPat := [⟨.ret, [(.tv (.int .i64))], []⟩]
noncomputable def z73t (k : Nat) (d : z73p.D) : Option (XD z73x) := overspillref09_amount k d
noncomputable def z73_e (k : Nat) : UEntry := mkU z73p z73x (z73t k) nilU
theorem z73_n (k : Nat) : UNat (z73_e k) := mkU_nat nilU_nat
theorem z73_fu (k : Nat) : FU P GL 87 (z73_e k) :=
  fn_typed (uorc := uorT (z73U0 k)) hmo (T72_ok k).oo (z73U0_k k) (fd := z73f) (AllU.no (by kernel_rfl)) (fn := Tryd.f87) (by kernel_rfl) (by kernel_rfl) (fun d => by kernel_rfl) FU_nil
noncomputable def T73 (k : Nat) : List (Nat × Ent) := (87, ⟨z73_e k⟩) :: T72 k
theorem T73_ok (k : Nat) : TabOK P GL (T73 k) := (T72_ok k).cons (z73_fu k) (z73_n k)
/-! ### overspill.overspillref09.has -/
noncomputable def z74U0 (_ : Nat) : List (Nat × Ent) := []
theorem z74U0_k (k : Nat) : UTab (z74U0 k) := UTab.nil
noncomputable def overspillref09_has (k : Nat) (x0 : Bool) (x1 : Int) (x2 : Int) : Option (List UInt8) :=
  Option.bind (overspillref09_rows k x0 x1) fun (v291 : List (List UInt8)) =>
  bif (decide (((List.length v291 : Nat) : Int) < x2)) then
    some ([] : List UInt8)
  else
  bif (inR (wr .i64 (x2 - 1)) (List.length v291)) then
    some (List.getD v291 (Int.toNat (wr .i64 (x2 - 1))) ([] : List UInt8))
  else
    none
noncomputable def z74b : AC :=
  (.seq (.region [(iO 6 (.mv (.c (.tv .str (([] : List UInt8) : List UInt8)))))])
  (.seq (.region [(iO 8 (.mv (.t 0))),
    (iO 9 (.mv (.t 1))),
    (iC 10 84 [((.t 8), none), ((.t 9), none)]),
    (iO 7 (.mv (.t 10)))])
  (.seq (.seq (.region [(iO 11 (.mv (.t 2))),
    (iO 12 (.mv (.t 7))),
    (iO 13 (.len (.t 12))),
    (iO 14 (.bin .gtr (.t 11) (.t 13)))])
  (.cond (.t 14)
  (.seq (.region [(iO 6 (.mv (.c (.tv .str (([] : List UInt8) : List UInt8)))))])
    .ret)
  .skip))
  (.seq (.region [(iO 15 (.mv (.t 7))),
    (iO 16 (.mv (.t 2))),
    (iO 17 (.bin .sub (.t 16) (nI 1))),
    (iO 18 (.iads .str (.t 15) (.t 17))),
    (iO 19 (.load false 1 (.t 18))),
    (iO 6 (.mv (.t 19)))])
  .ret))))
noncomputable def z74f : FDef := ⟨3, 20, [.tmp 6 none], z74b⟩
noncomputable def z74p : XPat := ⟨.normal, [(.tv .bool), (.tv (.int .i64)), (.tv (.int .i64))], []⟩
noncomputable def z74x : List XPat := [⟨.ret, [(.tv .str)], []⟩]
noncomputable def z74t (k : Nat) (d : z74p.D) : Option (XD z74x) := overspillref09_has k d.1 d.2.1 d.2.2
noncomputable def z74_e (k : Nat) : UEntry := mkU z74p z74x (z74t k) nilU
theorem z74_n (k : Nat) : UNat (z74_e k) := mkU_nat nilU_nat
theorem z74_fu (k : Nat) : FU P GL 86 (z74_e k) :=
  fn_typed (uorc := uorT (z74U0 k)) hmo (T73_ok k).oo (z74U0_k k) (fd := z74f) (AllU.no (by kernel_rfl)) (fn := Tryd.f86) (by kernel_rfl) (by kernel_rfl) (fun d => by kernel_rfl) FU_nil
noncomputable def T74 (k : Nat) : List (Nat × Ent) := (86, ⟨z74_e k⟩) :: T73 k
theorem T74_ok (k : Nat) : TabOK P GL (T74 k) := (T73_ok k).cons (z74_fu k) (z74_n k)
/-! ### overspill.overspillref09.Take -/
noncomputable def z75U0 (_ : Nat) : List (Nat × Ent) := []
theorem z75U0_k (k : Nat) : UTab (z75U0 k) := UTab.nil
noncomputable def z75u0d : UDef := ⟨[(7, none), (8, none), (9, none), (10, none), (11, none), (12, none)], [7, 8, 12, 33, 34, 35, 36, 37, 38, 39, 40, 41, 42, 43, 44, 45, 46, 47, 48, 49, 50, 51, 52, 53, 54], [((.exit 4), [(7, none), (8, none)])], []⟩
noncomputable def z75u0p : XPat := ⟨.normal, [(.row 0), (.row 1), (.tv (.int .i64)), (.tv (.int .i64)), (.tv (.sl .str)), (.tv (.int .i64))], [(.row .str false), (.row YEvent false)]⟩
noncomputable def z75u0x : List XPat := [⟨(.exit 4), [(.row 0), (.row 1)], [(.row .str false), (.row YEvent false)]⟩]
noncomputable def overspillref09_Takeu0 (k : Nat) : Nat → (Int) → (Int) → (List (List UInt8)) → (Int) → (List (List UInt8)) → (List (DEvent)) → Option (((Unit) × (Unit)) × ((List (List UInt8)) × (List (DEvent))))
  | 0, _, _, _, _, _, _ => none
  | n + 1, x0, x1, x2, x3, x4, x5 =>
    bif (decide (x3 < ((List.length x2 : Nat) : Int))) then
      bif (inR x3 (List.length x2)) then
        bif (decide ((List.length x4) + 1 ≤ rowMax)) then
          bif (decide ((List.length x5) + 1 ≤ rowMax)) then
            Option.bind (overspillref09_Takeu0 k n x0 x1 x2 (wr .i64 (x3 + 1)) (x4 ++ ([(List.getD x2 (Int.toNat x3) ([] : List UInt8))] : List (List UInt8))) (x5 ++ ([((decide (x1 = 1)), (x0, ((wr .i64 (x3 + 1)), ())))] : List (DEvent)))) fun r => some r
          else
            none
        else
          none
      else
        none
    else
    some (((), ()), (x4, x5))
noncomputable def z75u0b : AC :=
  (.seq (.seq (.region [(iO 33 (.mv (.t 12))),
    (iO 34 (.mv (.t 11))),
    (iO 35 (.len (.t 34))),
    (iO 36 (.bin .lss (.t 33) (.t 35)))])
  (.cond (.t 36)
  .skip
  (.exit 4)))
  (.seq (.block 5 (.seq (.region [(iO 39 (.mv (.t 7))),
    (iO 40 (.mv (.t 11))),
    (iO 41 (.mv (.t 12))),
    (iO 42 (.iads .str (.t 40) (.t 41))),
    (iO 43 (.load false 1 (.t 42))),
    (iO 44 (.bslice .str [(.t 43)])),
    (iO 45 (.app .str (.t 39) (.t 44))),
    (iO 7 (.mv (.t 45)))])
  (.region [(iO 46 (.mv (.t 8))),
    (iO 47 (.mv (.t 10))),
    (iO 48 (.bin .eql (.t 47) (nI 1))),
    (iO 49 (.mv (.t 9))),
    (iO 50 (.mv (.t 12))),
    (iO 51 (.bin .add (.t 50) (nI 1))),
    (iO 52 (.build 78 (.tv YEvent) [(0, (.fld 0 0), 1, (.t 48)), (1, (.fld 1 1), 1, (.t 49)), (2, (.fld 2 2), 1, (.t 51))])),
    (iO 53 (.bslice YEvent [(.t 52)])),
    (iO 54 (.app YEvent (.t 46) (.t 53))),
    (iO 8 (.mv (.t 54)))])))
  (.region [(iO 37 (.mv (.t 12))),
    (iO 38 (.bin .add (.t 37) (nI 1))),
    (iO 12 (.mv (.t 38)))])))
noncomputable def z75u0t (k n : Nat) (d : z75u0p.D) : Option (XD z75u0x) := overspillref09_Takeu0 k n d.1.2.2.1 d.1.2.2.2.1 d.1.2.2.2.2.1 d.1.2.2.2.2.2 d.2.1 d.2.2
theorem z75u0_k (k : Nat) : UOK P GL (mkU z75u0p z75u0x (z75u0t k k) nilU) z75u0d true z75u0b :=
  loop_typed (ud := z75u0d) (body := z75u0b) (uorc := uorT (z75U0 k)) hmo (T74_ok k).oo (z75U0_k k) (AllU.no (by kernel_rfl)) (t := z75u0t k) (fun d => by kernel_rfl) (fun n d => by kernel_rfl) k
noncomputable def z75U1 (k : Nat) : List (Nat × Ent) := (0, ⟨mkU z75u0p z75u0x (z75u0t k k) nilU⟩) :: z75U0 k
theorem z75U1_k (k : Nat) : UTab (z75U1 k) := (z75U0_k k).cons (mkU_nat nilU_nat)
noncomputable def z75u1d : UDef := ⟨[(7, none), (8, none), (9, none), (10, none)], [7, 8, 10, 11, 12, 25, 26, 27, 28, 29, 30, 31, 32, 33, 34, 35, 36, 37, 38, 39, 40, 41, 42, 43, 44, 45, 46, 47, 48, 49, 50, 51, 52, 53, 54], [((.exit 2), [(7, none), (8, none)])], []⟩
noncomputable def z75u1p : XPat := ⟨.normal, [(.row 0), (.row 1), (.tv (.int .i64)), (.tv (.int .i64))], [(.row .str false), (.row YEvent false)]⟩
noncomputable def z75u1x : List XPat := [⟨(.exit 2), [(.row 0), (.row 1)], [(.row .str false), (.row YEvent false)]⟩]
noncomputable def overspillref09_Takeu1 (k : Nat) : Nat → (Int) → (Int) → (List (List UInt8)) → (List (DEvent)) → Option (((Unit) × (Unit)) × ((List (List UInt8)) × (List (DEvent))))
  | 0, _, _, _, _ => none
  | n + 1, x0, x1, x2, x3 =>
    bif (decide (x1 < 2)) then
      Option.bind (overspillref09_rows k (decide (x1 = 1)) x0) fun (v279 : List (List UInt8)) =>
      Option.bind (overspillref09_Takeu0 k k x0 x1 v279 0 x2 x3) fun (v280 : ((Unit) × (Unit)) × ((List (List UInt8)) × (List (DEvent)))) =>
      Option.bind (overspillref09_Takeu1 k n x0 (wr .i64 (x1 + 1)) v280.2.1 v280.2.2) fun r => some r
    else
    some (((), ()), (x2, x3))
noncomputable def z75u1b : AC :=
  (.seq (.seq (.region [(iO 25 (.mv (.t 10))),
    (iO 26 (.bin .lss (.t 25) (nI 2)))])
  (.cond (.t 26)
  .skip
  (.exit 2)))
  (.seq (.block 3 (.seq (.region [(iO 29 (.mv (.t 10))),
    (iO 30 (.bin .eql (.t 29) (nI 1))),
    (iO 31 (.mv (.t 9))),
    (iC 32 84 [((.t 30), none), ((.t 31), none)]),
    (iO 11 (.mv (.t 32)))])
  (.seq (.region [(iO 12 (.mv (nI 0)))])
  (.block 4 (.unit 0 z75u0d true z75u0b)))))
  (.region [(iO 27 (.mv (.t 10))),
    (iO 28 (.bin .add (.t 27) (nI 1))),
    (iO 10 (.mv (.t 28)))])))
noncomputable def z75u1t (k n : Nat) (d : z75u1p.D) : Option (XD z75u1x) := overspillref09_Takeu1 k n d.1.2.2.1 d.1.2.2.2 d.2.1 d.2.2
theorem z75u1_k (k : Nat) : UOK P GL (mkU z75u1p z75u1x (z75u1t k k) nilU) z75u1d true z75u1b :=
  loop_typed (ud := z75u1d) (body := z75u1b) (uorc := uorT (z75U1 k)) hmo (T74_ok k).oo (z75U1_k k) (AllU.seq (AllU.no (by kernel_rfl)) (AllU.seq (AllU.block (AllU.seq (AllU.no (by kernel_rfl)) (AllU.seq (AllU.no (by kernel_rfl)) (AllU.block (AllU.unit (uorc := uorT (z75U1 k)) (u := 0) (z75u0_k k)))))) (AllU.no (by kernel_rfl)))) (t := z75u1t k) (fun d => by kernel_rfl) (fun n d => by kernel_rfl) k
noncomputable def z75U2 (k : Nat) : List (Nat × Ent) := (1, ⟨mkU z75u1p z75u1x (z75u1t k k) nilU⟩) :: z75U1 k
theorem z75U2_k (k : Nat) : UTab (z75U2 k) := (z75U1_k k).cons (mkU_nat nilU_nat)
noncomputable def z75u2d : UDef := ⟨[(7, none), (8, none), (9, none)], [7, 8, 9, 10, 11, 12, 21, 22, 23, 24, 25, 26, 27, 28, 29, 30, 31, 32, 33, 34, 35, 36, 37, 38, 39, 40, 41, 42, 43, 44, 45, 46, 47, 48, 49, 50, 51, 52, 53, 54], [((.exit 0), [(7, none), (8, none)])], []⟩
noncomputable def z75u2p : XPat := ⟨.normal, [(.row 0), (.row 1), (.tv (.int .i64))], [(.row .str false), (.row YEvent false)]⟩
noncomputable def z75u2x : List XPat := [⟨(.exit 0), [(.row 0), (.row 1)], [(.row .str false), (.row YEvent false)]⟩]
noncomputable def overspillref09_Takeu2 (k : Nat) : Nat → (Int) → (List (List UInt8)) → (List (DEvent)) → Option (((Unit) × (Unit)) × ((List (List UInt8)) × (List (DEvent))))
  | 0, _, _, _ => none
  | n + 1, x0, x1, x2 =>
    bif (decide (x0 ≤ 63)) then
      Option.bind (overspillref09_Takeu1 k k x0 0 x1 x2) fun (v282 : ((Unit) × (Unit)) × ((List (List UInt8)) × (List (DEvent)))) =>
      Option.bind (overspillref09_Takeu2 k n (wr .i64 (x0 + 1)) v282.2.1 v282.2.2) fun r => some r
    else
    some (((), ()), (x1, x2))
noncomputable def z75u2b : AC :=
  (.seq (.seq (.region [(iO 21 (.mv (.t 9))),
    (iO 22 (.bin .leq (.t 21) (nI 63)))])
  (.cond (.t 22)
  .skip
  (.exit 0)))
  (.seq (.block 1 (.seq (.region [(iO 10 (.mv (nI 0)))])
  (.block 2 (.unit 1 z75u1d true z75u1b))))
  (.region [(iO 23 (.mv (.t 9))),
    (iO 24 (.bin .add (.t 23) (nI 1))),
    (iO 9 (.mv (.t 24)))])))
noncomputable def z75u2t (k n : Nat) (d : z75u2p.D) : Option (XD z75u2x) := overspillref09_Takeu2 k n d.1.2.2 d.2.1 d.2.2
theorem z75u2_k (k : Nat) : UOK P GL (mkU z75u2p z75u2x (z75u2t k k) nilU) z75u2d true z75u2b :=
  loop_typed (ud := z75u2d) (body := z75u2b) (uorc := uorT (z75U2 k)) hmo (T74_ok k).oo (z75U2_k k) (AllU.seq (AllU.no (by kernel_rfl)) (AllU.seq (AllU.block (AllU.seq (AllU.no (by kernel_rfl)) (AllU.block (AllU.unit (uorc := uorT (z75U2 k)) (u := 1) (z75u1_k k))))) (AllU.no (by kernel_rfl)))) (t := z75u2t k) (fun d => by kernel_rfl) (fun n d => by kernel_rfl) k
noncomputable def z75U3 (k : Nat) : List (Nat × Ent) := (2, ⟨mkU z75u2p z75u2x (z75u2t k k) nilU⟩) :: z75U2 k
theorem z75U3_k (k : Nat) : UTab (z75U3 k) := (z75U2_k k).cons (mkU_nat nilU_nat)
noncomputable def z75u3d : UDef := ⟨[(16, none), (83, none)], [84, 85, 86, 87], [(.normal, [])], []⟩
noncomputable def z75u3p : XPat := ⟨.normal, [(.ptr 0 []), (.tv .bool)], [(.box (.tv YEvent))]⟩
noncomputable def z75u3x : List XPat := [⟨.normal, [], [(.box (.tv YEvent))]⟩]
noncomputable def overspillref09_Takeu3 (k : Nat) (x0 : Bool) (x1 : DEvent) : Option ((Unit) × (DEvent)) :=
  bif x0 then
    some ((), (x1.1, (x1.2.1, ((wr .i64 (0 - x1.2.2.1)), x1.2.2.2))))
  else
  some ((), x1)
noncomputable def z75u3b : AC :=
  (.cond (.t 83)
  (.region [(iO 84 (.fad 2 2 (.t 16))),
      (iO 85 (.load false 1 (.t 84))),
      (iO 86 (.un .neg (.t 85))),
      (iO 87 (.fad 2 2 (.t 16))),
      (iS (.store 1 none (.t 87) (.t 86)))])
  .skip)
noncomputable def z75u3t (k : Nat) (d : z75u3p.D) : Option (XD z75u3x) := overspillref09_Takeu3 k d.1.2 d.2
theorem z75u3_k (k : Nat) : UOK P GL (mkU z75u3p z75u3x (z75u3t k) nilU) z75u3d false z75u3b :=
  unit_typed (ud := z75u3d) (body := z75u3b) (uorc := uorT (z75U3 k)) hmo (T74_ok k).oo (z75U3_k k) (AllU.no (by kernel_rfl)) (fun d => by kernel_rfl)
noncomputable def z75U4 (k : Nat) : List (Nat × Ent) := (3, ⟨mkU z75u3p z75u3x (z75u3t k) nilU⟩) :: z75U3 k
theorem z75U4_k (k : Nat) : UTab (z75U4 k) := (z75U3_k k).cons (mkU_nat nilU_nat)
noncomputable def z75u4d : UDef := ⟨[(17, none), (119, none)], [120, 121, 122, 123], [(.normal, [])], []⟩
noncomputable def z75u4p : XPat := ⟨.normal, [(.ptr 0 []), (.tv .bool)], [(.box (.tv YEvent))]⟩
noncomputable def z75u4x : List XPat := [⟨.normal, [], [(.box (.tv YEvent))]⟩]
noncomputable def overspillref09_Takeu4 (k : Nat) (x0 : Bool) (x1 : DEvent) : Option ((Unit) × (DEvent)) :=
  bif x0 then
    some ((), (x1.1, (x1.2.1, ((wr .i64 (x1.2.2.1 - 256)), x1.2.2.2))))
  else
  some ((), x1)
noncomputable def z75u4b : AC :=
  (.cond (.t 119)
  (.region [(iO 120 (.fad 2 2 (.t 17))),
      (iO 121 (.load false 1 (.t 120))),
      (iO 122 (.bin .sub (.t 121) (nI 256))),
      (iO 123 (.fad 2 2 (.t 17))),
      (iS (.store 1 none (.t 123) (.t 122)))])
  .skip)
noncomputable def z75u4t (k : Nat) (d : z75u4p.D) : Option (XD z75u4x) := overspillref09_Takeu4 k d.1.2 d.2
theorem z75u4_k (k : Nat) : UOK P GL (mkU z75u4p z75u4x (z75u4t k) nilU) z75u4d false z75u4b :=
  unit_typed (ud := z75u4d) (body := z75u4b) (uorc := uorT (z75U4 k)) hmo (T74_ok k).oo (z75U4_k k) (AllU.no (by kernel_rfl)) (fun d => by kernel_rfl)
noncomputable def z75U5 (k : Nat) : List (Nat × Ent) := (4, ⟨mkU z75u4p z75u4x (z75u4t k) nilU⟩) :: z75U4 k
theorem z75U5_k (k : Nat) : UTab (z75U5 k) := (z75U4_k k).cons (mkU_nat nilU_nat)
noncomputable def z75u5d : UDef := ⟨[(17, none)], [124, 125, 126, 127, 128, 129, 130, 131, 132, 133, 134, 135, 136, 137], [(.normal, [(137, none)])], []⟩
noncomputable def z75u5p : XPat := ⟨.normal, [(.ptr 0 [])], [(.box (.tv YEvent))]⟩
noncomputable def z75u5x : List XPat := [⟨.normal, [(.tv .bool)], [(.box (.tv YEvent))]⟩]
noncomputable def overspillref09_Takeu5 (k : Nat) (x0 : DEvent) : Option ((Bool) × (DEvent)) :=
  Option.bind (overspillref09_Right k x0) fun (v293 : Bool) =>
  bif (!v293) then
    some (true, x0)
  else
  Option.bind (overspillref09_amount k x0.2.2.1) fun (v294 : Int) =>
  Option.bind (overspillref09_has k x0.1 x0.2.1 v294) fun (v295 : List UInt8) =>
  some ((!(decide (v295 = ([] : List UInt8)))), x0)
noncomputable def z75u5b : AC :=
  (.draw [(iO 124 (.load true 3 (.t 17))),
    (iCa 125 85 [((.t 124), some YEvent)] [0]),
    (iOa 126 (.un .not (.t 125)) [0, 1]),
    (iOa 127 (.mv (.t 126)) [0, 1, 2]),
    ⟨some 128, some (3, 127, false), (.op (.fad 0 0 (.t 17))), (rg [0, 4])⟩,
    ⟨some 129, some (3, 127, false), (.op (.load false 1 (.t 128))), (rg [0, 5])⟩,
    ⟨some 130, some (3, 127, false), (.op (.fad 1 1 (.t 17))), (rg [0, 4])⟩,
    ⟨some 131, some (3, 127, false), (.op (.load false 1 (.t 130))), [0, 1, 2, 3, 6]⟩,
    ⟨some 132, some (3, 127, false), (.op (.fad 2 2 (.t 17))), (rg [0, 4])⟩,
    ⟨some 133, some (3, 127, false), (.op (.load false 1 (.t 132))), [0, 1, 2, 3, 8]⟩,
    ⟨some 134, some (3, 127, false), (.call (.c (.fn 87 .nil .nil)) [((.t 133), none)]), (rg [0, 4, 8, 2])⟩,
    ⟨some 135, some (3, 127, false), (.call (.c (.fn 86 .nil .nil)) [((.t 129), none), ((.t 131), none), ((.t 134), none)]), (rg [0, 11])⟩,
    ⟨some 136, some (3, 127, false), (.op (.bin .neq (.t 135) (.c (.tv .str (([] : List UInt8) : List UInt8))))), (rg [0, 12])⟩,
    (iOa 137 (.pick (.t 127) (.c (.tv .bool (true : Bool))) (.t 136)) (rg [0, 13]))])
noncomputable def z75u5t (k : Nat) (d : z75u5p.D) : Option (XD z75u5x) := overspillref09_Takeu5 k d.2
theorem z75u5_k (k : Nat) : UOK P GL (mkU z75u5p z75u5x (z75u5t k) nilU) z75u5d false z75u5b :=
  unit_typed (ud := z75u5d) (body := z75u5b) (uorc := uorT (z75U5 k)) hmo (T74_ok k).oo (z75U5_k k) (AllU.no (by kernel_rfl)) (fun d => by kernel_rfl)
noncomputable def z75U6 (k : Nat) : List (Nat × Ent) := (5, ⟨mkU z75u5p z75u5x (z75u5t k) nilU⟩) :: z75U5 k
theorem z75U6_k (k : Nat) : UTab (z75U6 k) := (z75U5_k k).cons (mkU_nat nilU_nat)
noncomputable def overspillref09_Take (k : Nat) (x0 : List UInt8) (x1 : Int) : Option ((DEvent) × ((Int) × ((Int) × (Unit)))) :=
  Option.bind (overspillref09_Takeu2 k k 0 ([([48, 48, 48, 48, 48, 49, 49] : List UInt8)] : List (List UInt8)) ([(false, (0, (0, ())))] : List (DEvent))) fun (v283 : ((Unit) × (Unit)) × ((List (List UInt8)) × (List (DEvent)))) =>
  Option.bind (overspillref05_Take k v283.2.1 x0 x1) fun (v284 : (Int) × ((Int) × ((Int) × (Unit)))) =>
  bif (!(decide (v284.2.2.1 = 0))) then
    some ((false, (0, (0, ()))), (x1, (v284.2.2.1, ())))
  else
  bif (decide ((0 : Int) < v284.1)) then
    bif (decide (v284.2.1 = ((List.length x0 : Nat) : Int))) then
      some ((false, (0, (0, ()))), (x1, (2, ())))
    else
    bif (inR v284.1 (List.length v283.2.2)) then
      bif (inR v284.2.1 (List.length x0)) then
        Option.bind (overspillref09_Takeu3 k (decide (((UInt8.toNat (List.getD x0 (Int.toNat v284.2.1) 0) : Nat) : Int) = 49)) (List.getD v283.2.2 (Int.toNat v284.1) (false, (0, (0, ()))))) fun (v285 : (Unit) × (DEvent)) =>
        some (v285.2, ((wr .i64 (v284.2.1 + 1)), (0, ())))
      else
        none
    else
      none
  else
  bif (decide ((wr .i64 (((List.length x0 : Nat) : Int) - v284.2.1)) < 15)) then
    some ((false, (0, (0, ()))), (x1, (2, ())))
  else
  bif (inR v284.2.1 (List.length x0)) then
    bif (decide ((0 : Int) ≤ (wr .i64 (v284.2.1 + 1)) ∧ (wr .i64 (v284.2.1 + 1)) ≤ (wr .i64 (v284.2.1 + 7)) ∧ (wr .i64 (v284.2.1 + 7)) ≤ (((List.length x0) : Nat) : Int))) then
      Option.bind (overspillref02_Number k (List.drop (Int.toNat (wr .i64 (v284.2.1 + 1))) (List.take (Int.toNat (wr .i64 (v284.2.1 + 7))) x0))) fun (v286 : Int) =>
      bif (decide ((0 : Int) ≤ (wr .i64 (v284.2.1 + 7)) ∧ (wr .i64 (v284.2.1 + 7)) ≤ (wr .i64 (v284.2.1 + 15)) ∧ (wr .i64 (v284.2.1 + 15)) ≤ (((List.length x0) : Nat) : Int))) then
        Option.bind (overspillref02_Number k (List.drop (Int.toNat (wr .i64 (v284.2.1 + 7))) (List.take (Int.toNat (wr .i64 (v284.2.1 + 15))) x0))) fun (v287 : Int) =>
        Option.bind (overspillref09_Takeu4 k (decide ((127 : Int) < v287)) ((decide (((UInt8.toNat (List.getD x0 (Int.toNat v284.2.1) 0) : Nat) : Int) = 49)), (v286, (v287, ())))) fun (v288 : (Unit) × (DEvent)) =>
        Option.bind (overspillref09_Takeu5 k v288.2) fun (v296 : (Bool) × (DEvent)) =>
        bif v296.1 then
          some ((false, (0, (0, ()))), (x1, (7, ())))
        else
        some (v296.2, ((wr .i64 (v284.2.1 + 15)), (0, ())))
      else
        none
    else
      none
  else
    none
noncomputable def z75b : AC :=
  (.seq (.region [(iO 4 (.alloc 78 (.tv YEvent))),
    (iO 5 (.mv (nI 0))),
    (iO 6 (.mv (nI 0)))])
  (.seq (.region [(iO 18 (.bslice .str [(.c (.tv .str (([48, 48, 48, 48, 48, 49, 49] : List UInt8) : List UInt8)))])),
    (iO 7 (.mv (.t 18)))])
  (.seq (.region [(iO 19 (.build 78 (.tv YEvent) [])),
    (iO 20 (.bslice YEvent [(.t 19)])),
    (iO 8 (.mv (.t 20)))])
  (.seq (.seq (.region [(iO 9 (.mv (nI 0)))])
  (.block 0 (.unit 2 z75u2d true z75u2b)))
  (.seq (.region [(iO 56 (.mv (.t 7))),
    (iO 57 (.mv (.t 0))),
    (iO 58 (.mv (.t 1))),
    (iC 59 58 [((.t 56), some (.sl .str)), ((.t 57), none), ((.t 58), none)]),
    (iO 55 (.mv (.t 59))),
    (iO 60 (.ext (.t 55) 0)),
    (iO 61 (.ext (.t 55) 1)),
    (iO 62 (.ext (.t 55) 2)),
    (iO 13 (.mv (.t 60))),
    (iO 14 (.mv (.t 61))),
    (iO 15 (.mv (.t 62)))])
  (.seq (.seq (.region [(iO 63 (.mv (.t 15))),
    (iO 64 (.bin .neq (.t 63) (nI 0)))])
  (.cond (.t 64)
  (.seq (.region [(iO 65 (.build 78 (.tv YEvent) [])),
      (iO 66 (.mv (.t 1))),
      (iO 67 (.mv (.t 15))),
      (iS (.store 3 none (.t 4) (.t 65))),
      (iO 5 (.mv (.t 66))),
      (iO 6 (.mv (.t 67)))])
    .ret)
  .skip))
  (.seq (.seq (.region [(iO 68 (.mv (.t 13))),
    (iO 69 (.bin .gtr (.t 68) (nI 0)))])
  (.cond (.t 69)
  (.seq (.seq (.region [(iO 70 (.mv (.t 14))),
      (iO 71 (.mv (.t 0))),
      (iO 72 (.lens (.t 71))),
      (iO 73 (.bin .eql (.t 70) (.t 72)))])
    (.cond (.t 73)
    (.seq (.region [(iO 74 (.build 78 (.tv YEvent) [])),
        (iO 75 (.mv (.t 1))),
        (iS (.store 3 none (.t 4) (.t 74))),
        (iO 5 (.mv (.t 75))),
        (iO 6 (.mv (nI 2)))])
      .ret)
    .skip))
    (.seq (.region [(iO 76 (.mv (.t 8))),
      (iO 77 (.mv (.t 13))),
      (iO 78 (.iads YEvent (.t 76) (.t 77))),
      (iO 79 (.load true 3 (.t 78))),
      (iO 16 (.alloc 78 (.tv YEvent))),
      (iS (.store 3 none (.t 16) (.t 79)))])
    (.seq (.seq (.region [(iO 80 (.mv (.t 0))),
      (iO 81 (.mv (.t 14))),
      (iO 82 (.ixs (.t 80) (.t 81))),
      (iO 83 (.bin .eql (.t 82) (.c (.tv (.int .u8) (49 : Int)))))])
    (.unit 3 z75u3d false z75u3b))
    (.seq (.region [(iO 88 (.load true 3 (.t 16))),
      (iO 89 (.mv (.t 14))),
      (iO 90 (.bin .add (.t 89) (nI 1))),
      (iS (.store 3 none (.t 4) (.t 88))),
      (iO 5 (.mv (.t 90))),
      (iO 6 (.mv (nI 0)))])
    .ret))))
  .skip))
  (.seq (.seq (.region [(iO 91 (.mv (.t 0))),
    (iO 92 (.lens (.t 91))),
    (iO 93 (.mv (.t 14))),
    (iO 94 (.bin .sub (.t 92) (.t 93))),
    (iO 95 (.bin .lss (.t 94) (nI 15)))])
  (.cond (.t 95)
  (.seq (.region [(iO 96 (.build 78 (.tv YEvent) [])),
      (iO 97 (.mv (.t 1))),
      (iS (.store 3 none (.t 4) (.t 96))),
      (iO 5 (.mv (.t 97))),
      (iO 6 (.mv (nI 2)))])
    .ret)
  .skip))
  (.seq (.draw [(iO 98 (.mv (.t 0))),
    (iO 99 (.mv (.t 14))),
    (iOa 100 (.ixs (.t 98) (.t 99)) [0, 1]),
    (iOa 101 (.bin .eql (.t 100) (.c (.tv (.int .u8) (49 : Int)))) [0, 1, 2]),
    (iO 102 (.mv (.t 0))),
    (iO 103 (.mv (.t 14))),
    (iOa 104 (.bin .add (.t 103) (nI 1)) [5]),
    (iO 105 (.mv (.t 14))),
    (iOa 106 (.bin .add (.t 105) (nI 7)) [7]),
    (iOa 107 (.slis (.t 102) (some (.t 104)) (some (.t 106))) (rg [4, 5])),
    (iCa 108 60 [((.t 107), none)] (rg [4, 6])),
    (iO 109 (.mv (.t 0))),
    (iO 110 (.mv (.t 14))),
    (iOa 111 (.bin .add (.t 110) (nI 7)) [12]),
    (iO 112 (.mv (.t 14))),
    (iOa 113 (.bin .add (.t 112) (nI 15)) [14]),
    (iOa 114 (.slis (.t 109) (some (.t 111)) (some (.t 113))) (rg [11, 5])),
    (iCa 115 60 [((.t 114), none)] (rg [4, 13])),
    (iOa 116 (.build 78 (.tv YEvent) [(0, (.fld 0 0), 1, (.t 101)), (1, (.fld 1 1), 1, (.t 108)), (2, (.fld 2 2), 1, (.t 115))]) (rg [0, 18])),
    (iO 17 (.alloc 78 (.tv YEvent))),
    (iSa (.store 3 none (.t 17) (.t 116)) (rg [0, 20]))])
  (.seq (.seq (.region [(iO 117 (.fad 2 2 (.t 17))),
    (iO 118 (.load false 1 (.t 117))),
    (iO 119 (.bin .gtr (.t 118) (nI 127)))])
  (.unit 4 z75u4d false z75u4b))
  (.seq (.seq (.unit 5 z75u5d false z75u5b)
  (.cond (.t 137)
  (.seq (.region [(iO 138 (.build 78 (.tv YEvent) [])),
      (iO 139 (.mv (.t 1))),
      (iS (.store 3 none (.t 4) (.t 138))),
      (iO 5 (.mv (.t 139))),
      (iO 6 (.mv (nI 7)))])
    .ret)
  .skip))
  (.seq (.region [(iO 140 (.load true 3 (.t 17))),
    (iO 141 (.mv (.t 14))),
    (iO 142 (.bin .add (.t 141) (nI 15))),
    (iS (.store 3 none (.t 4) (.t 140))),
    (iO 5 (.mv (.t 142))),
    (iO 6 (.mv (nI 0)))])
  .ret))))))))))))
noncomputable def z75f : FDef := ⟨2, 143, [.cell 4 3 true (some YEvent), .tmp 5 none, .tmp 6 none], z75b⟩
noncomputable def z75p : XPat := ⟨.normal, [(.tv .str), (.tv (.int .i64))], []⟩
noncomputable def z75x : List XPat := [⟨.ret, [(.tup (.cons (.tv YEvent) (.cons (.tv (.int .i64)) (.cons (.tv (.int .i64)) .nil))))], []⟩]
noncomputable def z75t (k : Nat) (d : z75p.D) : Option (XD z75x) := overspillref09_Take k d.1 d.2
noncomputable def z75_e (k : Nat) : UEntry := mkU z75p z75x (z75t k) nilU
theorem z75_n (k : Nat) : UNat (z75_e k) := mkU_nat nilU_nat
theorem z75_fu (k : Nat) : FU P GL 63 (z75_e k) :=
  fn_typed (uorc := uorT (z75U6 k)) hmo (T74_ok k).oo (z75U6_k k) (fd := z75f) (AllU.seq (AllU.no (by kernel_rfl)) (AllU.seq (AllU.no (by kernel_rfl)) (AllU.seq (AllU.no (by kernel_rfl)) (AllU.seq (AllU.seq (AllU.no (by kernel_rfl)) (AllU.block (AllU.unit (uorc := uorT (z75U6 k)) (u := 2) (z75u2_k k)))) (AllU.seq (AllU.no (by kernel_rfl)) (AllU.seq (AllU.no (by kernel_rfl)) (AllU.seq (AllU.seq (AllU.no (by kernel_rfl)) (AllU.cond (AllU.seq (AllU.no (by kernel_rfl)) (AllU.seq (AllU.no (by kernel_rfl)) (AllU.seq (AllU.seq (AllU.no (by kernel_rfl)) (AllU.unit (uorc := uorT (z75U6 k)) (u := 3) (z75u3_k k))) (AllU.no (by kernel_rfl))))) (AllU.no (by kernel_rfl)))) (AllU.seq (AllU.no (by kernel_rfl)) (AllU.seq (AllU.no (by kernel_rfl)) (AllU.seq (AllU.seq (AllU.no (by kernel_rfl)) (AllU.unit (uorc := uorT (z75U6 k)) (u := 4) (z75u4_k k))) (AllU.seq (AllU.seq (AllU.unit (uorc := uorT (z75U6 k)) (u := 5) (z75u5_k k)) (AllU.no (by kernel_rfl))) (AllU.no (by kernel_rfl))))))))))))) (fn := Tryd.f63) (by kernel_rfl) (by kernel_rfl) (fun d => by kernel_rfl) FU_nil
noncomputable def T75 (k : Nat) : List (Nat × Ent) := (63, ⟨z75_e k⟩) :: T74 k
theorem T75_ok (k : Nat) : TabOK P GL (T75 k) := (T74_ok k).cons (z75_fu k) (z75_n k)
/-! ### overspill.overspillref15.Take -/
noncomputable def z76U0 (_ : Nat) : List (Nat × Ent) := []
theorem z76U0_k (k : Nat) : UTab (z76U0 k) := UTab.nil
noncomputable def z76u0d : UDef := ⟨[(12, none)], [33, 34, 35, 36, 37, 38], [(.normal, [(38, none)])], []⟩
noncomputable def z76u0p : XPat := ⟨.normal, [(.tv (.int .i64))], []⟩
noncomputable def z76u0x : List XPat := [⟨.normal, [(.tv .bool)], []⟩]
noncomputable def overspillref15_Takeu0 (k : Nat) (x0 : Int) : Option (Bool) :=
  bif (decide (x0 = 0)) then
    some true
  else
  some (decide (x0 = 128))
noncomputable def z76u0b : AC :=
  (.region [(iO 33 (.mv (.t 12))),
    (iO 34 (.bin .eql (.t 33) (nI 0))),
    (iO 35 (.mv (.t 34))),
    ⟨some 36, some (2, 35, false), (.op (.mv (.t 12))), []⟩,
    ⟨some 37, some (2, 35, false), (.op (.bin .eql (.t 36) (nI 128))), []⟩,
    (iO 38 (.pick (.t 35) (.c (.tv .bool (true : Bool))) (.t 37)))])
noncomputable def z76u0t (k : Nat) (d : z76u0p.D) : Option (XD z76u0x) := overspillref15_Takeu0 k d
theorem z76u0_k (k : Nat) : UOK P GL (mkU z76u0p z76u0x (z76u0t k) nilU) z76u0d false z76u0b :=
  unit_typed (ud := z76u0d) (body := z76u0b) (uorc := uorT (z76U0 k)) hmo (T75_ok k).oo (z76U0_k k) (AllU.no (by kernel_rfl)) (fun d => by kernel_rfl)
noncomputable def z76U1 (k : Nat) : List (Nat × Ent) := (0, ⟨mkU z76u0p z76u0x (z76u0t k) nilU⟩) :: z76U0 k
theorem z76U1_k (k : Nat) : UTab (z76U1 k) := (z76U0_k k).cons (mkU_nat nilU_nat)
noncomputable def z76u1d : UDef := ⟨[(0, none), (1, none), (12, none), (13, none), (20, none)], [8, 9, 10, 11, 12, 13, 21, 22, 23, 24, 25, 26, 27, 28, 29, 30, 31, 32, 33, 34, 35, 36, 37, 38, 39, 40, 41, 42, 43], [(.ret, [(8, none), (9, none), (10, none), (11, none)]), (.normal, [(12, none), (13, none)])], []⟩
noncomputable def z76u1p : XPat := ⟨.normal, [(.tv .str), (.tv (.int .i64)), (.tv (.int .i64)), (.tv (.int .i64)), (.tv .bool)], []⟩
noncomputable def z76u1x : List XPat := [⟨.ret, [(.tv (.int .i64)), (.row 0), (.tv (.int .i64)), (.tv (.int .i64))], [(.row YEvent false)]⟩, ⟨.normal, [(.tv (.int .i64)), (.tv (.int .i64))], []⟩]
noncomputable def overspillref15_Takeu1 (k : Nat) (x0 : List UInt8) (x1 : Int) (x2 : Int) (x3 : Int) (x4 : Bool) : Option ((((Int) × ((Unit) × ((Int) × (Int)))) × (List (DEvent))) ⊕ ((Int) × (Int))) :=
  bif x4 then
    bif (decide ((wr .i64 (((List.length x0 : Nat) : Int) - x1)) < 8)) then
      some (Sum.inl ((0, ((), (x1, 2))), ([] : List (DEvent))))
    else
    bif (decide ((0 : Int) ≤ x1 ∧ x1 ≤ (wr .i64 (x1 + 8)) ∧ (wr .i64 (x1 + 8)) ≤ (((List.length x0) : Nat) : Int))) then
      Option.bind (overspillref02_Number k (List.drop (Int.toNat x1) (List.take (Int.toNat (wr .i64 (x1 + 8))) x0))) fun (v266 : Int) =>
      Option.bind (overspillref15_Takeu0 k v266) fun (v267 : Bool) =>
      bif v267 then
        some (Sum.inl ((0, ((), (x1, 7))), ([] : List (DEvent))))
      else
      bif (decide (v266 = 255)) then
        some (Sum.inr (128, (wr .i64 (x1 + 8))))
      else
      some (Sum.inr (v266, (wr .i64 (x1 + 8))))
    else
      none
  else
  some (Sum.inr (x2, x3))
noncomputable def z76u1b : AC :=
  (.cond (.t 20)
  (.seq (.seq (.region [(iO 21 (.mv (.t 0))),
      (iO 22 (.lens (.t 21))),
      (iO 23 (.mv (.t 1))),
      (iO 24 (.bin .sub (.t 22) (.t 23))),
      (iO 25 (.bin .lss (.t 24) (nI 8)))])
    (.cond (.t 25)
    (.seq (.region [(iO 26 (.mv (.t 1))),
        (iO 8 (.mv (nI 0))),
        (iO 9 (.nrow YEvent)),
        (iO 10 (.mv (.t 26))),
        (iO 11 (.mv (nI 2)))])
      .ret)
    .skip))
    (.seq (.region [(iO 27 (.mv (.t 0))),
      (iO 28 (.mv (.t 1))),
      (iO 29 (.mv (.t 1))),
      (iO 30 (.bin .add (.t 29) (nI 8))),
      (iO 31 (.slis (.t 27) (some (.t 28)) (some (.t 30)))),
      (iC 32 60 [((.t 31), none)]),
      (iO 12 (.mv (.t 32)))])
    (.seq (.seq (.unit 0 z76u0d false z76u0b)
    (.cond (.t 38)
    (.seq (.region [(iO 39 (.mv (.t 1))),
        (iO 8 (.mv (nI 0))),
        (iO 9 (.nrow YEvent)),
        (iO 10 (.mv (.t 39))),
        (iO 11 (.mv (nI 7)))])
      .ret)
    .skip))
    (.seq (.seq (.region [(iO 40 (.mv (.t 12))),
      (iO 41 (.bin .eql (.t 40) (nI 255)))])
    (.cond (.t 41)
    (.region [(iO 12 (.mv (nI 128)))])
    .skip))
    (.region [(iO 42 (.mv (.t 1))),
      (iO 43 (.bin .add (.t 42) (nI 8))),
      (iO 13 (.mv (.t 43)))])))))
  .skip)
noncomputable def z76u1t (k : Nat) (d : z76u1p.D) : Option (XD z76u1x) := overspillref15_Takeu1 k d.1 d.2.1 d.2.2.1 d.2.2.2.1 d.2.2.2.2
theorem z76u1_k (k : Nat) : UOK P GL (mkU z76u1p z76u1x (z76u1t k) nilU) z76u1d false z76u1b :=
  unit_typed (ud := z76u1d) (body := z76u1b) (uorc := uorT (z76U1 k)) hmo (T75_ok k).oo (z76U1_k k) (AllU.cond (AllU.seq (AllU.no (by kernel_rfl)) (AllU.seq (AllU.no (by kernel_rfl)) (AllU.seq (AllU.seq (AllU.unit (uorc := uorT (z76U1 k)) (u := 0) (z76u0_k k)) (AllU.no (by kernel_rfl))) (AllU.no (by kernel_rfl))))) (AllU.no (by kernel_rfl))) (fun d => by kernel_rfl)
noncomputable def z76U2 (k : Nat) : List (Nat × Ent) := (1, ⟨mkU z76u1p z76u1x (z76u1t k) nilU⟩) :: z76U1 k
theorem z76U2_k (k : Nat) : UTab (z76U2 k) := (z76U1_k k).cons (mkU_nat nilU_nat)
noncomputable def z76u2d : UDef := ⟨[(0, none), (1, none), (3, none), (13, none), (14, none), (15, none)], [3, 8, 9, 10, 11, 13, 14, 15, 16, 17, 18, 47, 48, 49, 50, 51, 52, 53, 54, 55, 56, 57, 58, 59, 60, 61, 62, 63, 64, 65, 66, 67, 68, 69, 70, 71, 72, 73, 74], [(.ret, [(8, none), (9, none), (10, none), (11, none), (14, none)]), ((.exit 0), [(13, none), (14, none)])], []⟩
noncomputable def z76u2p : XPat := ⟨.normal, [(.tv .str), (.tv (.int .i64)), (.tv .bool), (.tv (.int .i64)), (.row 0), (.tv (.int .i64))], [(.row YEvent false)]⟩
noncomputable def z76u2x : List XPat := [⟨.ret, [(.tv (.int .i64)), (.row 0), (.tv (.int .i64)), (.tv (.int .i64)), (.row 1)], [(.row YEvent false), (.row YEvent false)]⟩, ⟨(.exit 0), [(.tv (.int .i64)), (.row 0)], [(.row YEvent false)]⟩]
noncomputable def overspillref15_Takeu2 (k : Nat) : Nat → (List UInt8) → (Int) → (Bool) → (Int) → (Int) → (List (DEvent)) → Option ((((Int) × ((Unit) × ((Int) × ((Int) × (Unit))))) × ((List (DEvent)) × (List (DEvent)))) ⊕ (((Int) × (Unit)) × (List (DEvent))))
  | 0, _, _, _, _, _, _ => none
  | n + 1, x0, x1, x2, x3, x4, x5 =>
    bif x2 then
      Option.bind (overspillref09_Take k x0 x3) fun (v298 : (DEvent) × ((Int) × ((Int) × (Unit)))) =>
      bif (!(decide (v298.2.2.1 = 0))) then
        some (Sum.inl ((0, ((), (x1, (v298.2.2.1, ())))), (([] : List (DEvent)), x5)))
      else
      bif (decide ((63 : Int) < (wr .i64 ((wr .i64 (x4 + v298.1.2.1)) + 1)))) then
        some (Sum.inl ((0, ((), (x1, (7, ())))), (([] : List (DEvent)), x5)))
      else
      bif (decide ((List.length x5) + 1 ≤ rowMax)) then
        Option.bind (overspillref15_Takeu2 k n x0 x1 (!v298.1.1) v298.2.1 (wr .i64 ((wr .i64 (x4 + v298.1.2.1)) + 1)) (x5 ++ ([v298.1] : List (DEvent)))) fun r => Sum.elim (fun w => some (Sum.inl w)) (fun w => some (Sum.inr w)) r
      else
        none
    else
    some (Sum.inr ((x3, ()), x5))
noncomputable def z76u2b : AC :=
  (.seq (.seq (.region [(iO 47 (.mv (.t 3)))])
  (.cond (.t 47)
  .skip
  (.exit 0)))
  (.block 1 (.seq (.region [(iO 49 (.mv (.t 0))),
    (iO 50 (.mv (.t 13))),
    (iC 51 63 [((.t 49), none), ((.t 50), none)]),
    (iO 48 (.mv (.t 51))),
    (iO 52 (.ext (.t 48) 0)),
    (iO 53 (.ext (.t 48) 1)),
    (iO 54 (.ext (.t 48) 2)),
    (iO 16 (.alloc 78 (.tv YEvent))),
    (iS (.store 3 none (.t 16) (.t 52))),
    (iO 17 (.mv (.t 53))),
    (iO 18 (.mv (.t 54)))])
  (.seq (.seq (.region [(iO 55 (.mv (.t 18))),
    (iO 56 (.bin .neq (.t 55) (nI 0)))])
  (.cond (.t 56)
  (.seq (.region [(iO 57 (.mv (.t 1))),
      (iO 58 (.mv (.t 18))),
      (iO 8 (.mv (nI 0))),
      (iO 9 (.nrow YEvent)),
      (iO 10 (.mv (.t 57))),
      (iO 11 (.mv (.t 58)))])
    .ret)
  .skip))
  (.seq (.region [(iO 59 (.mv (.t 15))),
    (iO 60 (.fad 1 1 (.t 16))),
    (iO 61 (.load false 1 (.t 60))),
    (iO 62 (.bin .add (.t 59) (.t 61))),
    (iO 63 (.bin .add (.t 62) (nI 1))),
    (iO 15 (.mv (.t 63)))])
  (.seq (.seq (.region [(iO 64 (.mv (.t 15))),
    (iO 65 (.bin .gtr (.t 64) (nI 63)))])
  (.cond (.t 65)
  (.seq (.region [(iO 66 (.mv (.t 1))),
      (iO 8 (.mv (nI 0))),
      (iO 9 (.nrow YEvent)),
      (iO 10 (.mv (.t 66))),
      (iO 11 (.mv (nI 7)))])
    .ret)
  .skip))
  (.seq (.region [(iO 67 (.mv (.t 14))),
    (iO 68 (.load true 3 (.t 16))),
    (iO 69 (.bslice YEvent [(.t 68)])),
    (iO 70 (.app YEvent (.t 67) (.t 69))),
    (iO 14 (.mv (.t 70)))])
  (.seq (.region [(iO 71 (.mv (.t 17))),
    (iO 13 (.mv (.t 71)))])
  (.region [(iO 72 (.fad 0 0 (.t 16))),
    (iO 73 (.load false 1 (.t 72))),
    (iO 74 (.un .not (.t 73))),
    (iO 3 (.mv (.t 74)))])))))))))
noncomputable def z76u2t (k n : Nat) (d : z76u2p.D) : Option (XD z76u2x) := overspillref15_Takeu2 k n d.1.1 d.1.2.1 d.1.2.2.1 d.1.2.2.2.1 d.1.2.2.2.2.2 d.2
theorem z76u2_k (k : Nat) : UOK P GL (mkU z76u2p z76u2x (z76u2t k k) nilU) z76u2d true z76u2b :=
  loop_typed (ud := z76u2d) (body := z76u2b) (uorc := uorT (z76U2 k)) hmo (T75_ok k).oo (z76U2_k k) (AllU.no (by kernel_rfl)) (t := z76u2t k) (fun d => by kernel_rfl) (fun n d => by kernel_rfl) k
noncomputable def z76U3 (k : Nat) : List (Nat × Ent) := (2, ⟨mkU z76u2p z76u2x (z76u2t k k) nilU⟩) :: z76U2 k
theorem z76U3_k (k : Nat) : UTab (z76U3 k) := (z76U2_k k).cons (mkU_nat nilU_nat)
noncomputable def overspillref15_Take (k : Nat) (x0 : List UInt8) (x1 : Int) (x2 : Bool) (x3 : Bool) : Option ((Int) × ((List (DEvent)) × ((Int) × ((Int) × (Unit))))) :=
  Option.bind (overspillref15_Takeu1 k x0 x1 0 x1 x2) fun r =>
  Sum.elim (fun (v268 : ((Int) × ((Unit) × ((Int) × (Int)))) × (List (DEvent))) =>
    some (v268.1.1, (v268.2, (v268.1.2.2.1, (v268.1.2.2.2, ())))))
    (fun (v269 : (Int) × (Int)) =>
    Option.bind (overspillref15_from k x2) fun (v270 : Int) =>
    Option.bind (overspillref15_Takeu2 k k x0 x1 x3 v269.2 (wr .i64 (v270 - 1)) ([] : List (DEvent))) fun r =>
    Sum.elim (fun (v299 : ((Int) × ((Unit) × ((Int) × ((Int) × (Unit))))) × ((List (DEvent)) × (List (DEvent)))) =>
      some (v299.1.1, (v299.2.1, (v299.1.2.2.1, (v299.1.2.2.2.1, ())))))
      (fun (v300 : ((Int) × (Unit)) × (List (DEvent))) =>
      some (v269.1, (v300.2, (v300.1.1, (0, ()))))) r) r
noncomputable def z76b : AC :=
  (.seq (.region [(iO 8 (.mv (nI 0))),
    (iO 9 (.nrow YEvent)),
    (iO 10 (.mv (nI 0))),
    (iO 11 (.mv (nI 0)))])
  (.seq (.region [(iO 12 (.mv (nI 0)))])
  (.seq (.region [(iO 19 (.mv (.t 1))),
    (iO 13 (.mv (.t 19)))])
  (.seq (.seq (.region [(iO 20 (.mv (.t 2)))])
  (.unit 1 z76u1d false z76u1b))
  (.seq (.region [(iO 14 (.nrow YEvent))])
  (.seq (.region [(iO 44 (.mv (.t 2))),
    (iC 45 62 [((.t 44), none)]),
    (iO 46 (.bin .sub (.t 45) (nI 1))),
    (iO 15 (.mv (.t 46)))])
  (.seq (.block 0 (.unit 2 z76u2d true z76u2b))
  (.seq (.region [(iO 75 (.mv (.t 12))),
    (iO 76 (.mv (.t 14))),
    (iO 77 (.mv (.t 13))),
    (iO 8 (.mv (.t 75))),
    (iO 9 (.mv (.t 76))),
    (iO 10 (.mv (.t 77))),
    (iO 11 (.mv (nI 0)))])
  .ret))))))))
noncomputable def z76f : FDef := ⟨4, 78, [.tmp 8 none, .tmp 9 (some (.sl YEvent)), .tmp 10 none, .tmp 11 none], z76b⟩
noncomputable def z76p : XPat := ⟨.normal, [(.tv .str), (.tv (.int .i64)), (.tv .bool), (.tv .bool)], []⟩
noncomputable def z76x : List XPat := [⟨.ret, [(.tup (.cons (.tv (.int .i64)) (.cons (.tv (.sl YEvent)) (.cons (.tv (.int .i64)) (.cons (.tv (.int .i64)) .nil)))))], []⟩]
noncomputable def z76t (k : Nat) (d : z76p.D) : Option (XD z76x) := overspillref15_Take k d.1 d.2.1 d.2.2.1 d.2.2.2
noncomputable def z76_e (k : Nat) : UEntry := mkU z76p z76x (z76t k) nilU
theorem z76_n (k : Nat) : UNat (z76_e k) := mkU_nat nilU_nat
theorem z76_fu (k : Nat) : FU P GL 33 (z76_e k) :=
  fn_typed (uorc := uorT (z76U3 k)) hmo (T75_ok k).oo (z76U3_k k) (fd := z76f) (AllU.seq (AllU.no (by kernel_rfl)) (AllU.seq (AllU.no (by kernel_rfl)) (AllU.seq (AllU.no (by kernel_rfl)) (AllU.seq (AllU.seq (AllU.no (by kernel_rfl)) (AllU.unit (uorc := uorT (z76U3 k)) (u := 1) (z76u1_k k))) (AllU.seq (AllU.no (by kernel_rfl)) (AllU.seq (AllU.no (by kernel_rfl)) (AllU.seq (AllU.block (AllU.unit (uorc := uorT (z76U3 k)) (u := 2) (z76u2_k k))) (AllU.no (by kernel_rfl))))))))) (fn := Tryd.f33) (by kernel_rfl) (by kernel_rfl) (fun d => by kernel_rfl) FU_nil
noncomputable def T76 (k : Nat) : List (Nat × Ent) := (33, ⟨z76_e k⟩) :: T75 k
theorem T76_ok (k : Nat) : TabOK P GL (T76 k) := (T75_ok k).cons (z76_fu k) (z76_n k)
/-! ### overspill.overspillref21.Take -/
noncomputable def z77U0 (_ : Nat) : List (Nat × Ent) := []
theorem z77U0_k (k : Nat) : UTab (z77U0 k) := UTab.nil
noncomputable def z77u0d : UDef := ⟨[(11, none)], [62, 63, 64, 65, 66, 67, 68, 69], [(.normal, [(69, none)])], []⟩
noncomputable def z77u0p : XPat := ⟨.normal, [(.ptr 0 [])], [(.box (.tv YCell))]⟩
noncomputable def z77u0x : List XPat := [⟨.normal, [(.tv .bool)], [(.box (.tv YCell))]⟩]
noncomputable def overspillref21_Takeu0 (k : Nat) (x0 : DCell) : Option ((Bool) × (DCell)) :=
  bif (decide (x0.2.2.1 = 1)) then
    some (true, x0)
  else
  some ((decide (x0.2.2.1 = 4)), x0)
noncomputable def z77u0b : AC :=
  (.region [(iO 62 (.fad 2 2 (.t 11))),
    (iO 63 (.load false 1 (.t 62))),
    (iO 64 (.bin .eql (.t 63) (nI 1))),
    (iO 65 (.mv (.t 64))),
    ⟨some 66, some (3, 65, false), (.op (.fad 2 2 (.t 11))), []⟩,
    ⟨some 67, some (3, 65, false), (.op (.load false 1 (.t 66))), []⟩,
    ⟨some 68, some (3, 65, false), (.op (.bin .eql (.t 67) (nI 4))), []⟩,
    (iO 69 (.pick (.t 65) (.c (.tv .bool (true : Bool))) (.t 68)))])
noncomputable def z77u0t (k : Nat) (d : z77u0p.D) : Option (XD z77u0x) := overspillref21_Takeu0 k d.2
theorem z77u0_k (k : Nat) : UOK P GL (mkU z77u0p z77u0x (z77u0t k) nilU) z77u0d false z77u0b :=
  unit_typed (ud := z77u0d) (body := z77u0b) (uorc := uorT (z77U0 k)) hmo (T76_ok k).oo (z77U0_k k) (AllU.no (by kernel_rfl)) (fun d => by kernel_rfl)
noncomputable def z77U1 (k : Nat) : List (Nat × Ent) := (0, ⟨mkU z77u0p z77u0x (z77u0t k) nilU⟩) :: z77U0 k
theorem z77U1_k (k : Nat) : UTab (z77U1 k) := (z77U0_k k).cons (mkU_nat nilU_nat)
noncomputable def z77u1d : UDef := ⟨[(0, none), (1, none), (8, none), (11, none), (13, none), (69, none)], [9, 10, 13, 16, 17, 18, 70, 71, 72, 73, 74, 75, 76, 77, 78, 79, 80, 81, 82, 83, 84], [(.ret, [(9, none), (10, none)]), (.normal, [(13, none)])], []⟩
noncomputable def z77u1p : XPat := ⟨.normal, [(.tv .str), (.tv (.int .i64)), (.ptr 0 []), (.ptr 1 []), (.tv (.int .i64)), (.tv .bool)], [(.box (.tv YCell)), (.box (.tv YCell))]⟩
noncomputable def z77u1x : List XPat := [⟨.ret, [(.tv (.int .i64)), (.tv (.int .i64))], [(.box (.tv YCell)), (.box (.tv YCell))]⟩, ⟨.normal, [(.tv (.int .i64))], [(.box (.tv YCell)), (.box (.tv YCell))]⟩]
noncomputable def overspillref21_Takeu1 (k : Nat) (x0 : List UInt8) (x1 : Int) (x2 : Int) (x3 : Bool) (x4 : DCell) (x5 : DCell) : Option ((((Int) × (Int)) × ((DCell) × (DCell))) ⊕ ((Int) × ((DCell) × (DCell)))) :=
  bif x3 then
    Option.bind (overspillref20_Take k x0 x2) fun (v244 : (Int) × ((Int) × ((Int) × (Unit)))) =>
    bif (!(decide (v244.2.2.1 = 0))) then
      some (Sum.inl ((x1, v244.2.2.1), ((0, (false, (0, (0, ((Ty.zero (.arr 2 (.int .i64))), ((Ty.zero (.arr 6 (.int .i64))), ((Ty.zero (.arr 6 (.sl YEvent))), ()))))))), x5)))
    else
    some (Sum.inr (v244.2.1, (x4, (x5.1, (x5.2.1, (x5.2.2.1, (v244.1, x5.2.2.2.2)))))))
  else
  some (Sum.inr (x2, (x4, x5)))
noncomputable def z77u1b : AC :=
  (.cond (.t 69)
  (.seq (.region [(iO 71 (.mv (.t 0))),
      (iO 72 (.mv (.t 13))),
      (iC 73 30 [((.t 71), none), ((.t 72), none)]),
      (iO 70 (.mv (.t 73))),
      (iO 74 (.ext (.t 70) 0)),
      (iO 75 (.ext (.t 70) 1)),
      (iO 76 (.ext (.t 70) 2)),
      (iO 16 (.mv (.t 74))),
      (iO 17 (.mv (.t 75))),
      (iO 18 (.mv (.t 76)))])
    (.seq (.seq (.region [(iO 77 (.mv (.t 18))),
      (iO 78 (.bin .neq (.t 77) (nI 0)))])
    (.cond (.t 78)
    (.seq (.region [(iO 79 (.build 34 (.tv YCell) [])),
        (iO 80 (.mv (.t 1))),
        (iO 81 (.mv (.t 18))),
        (iS (.store 18 none (.t 8) (.t 79))),
        (iO 9 (.mv (.t 80))),
        (iO 10 (.mv (.t 81)))])
      .ret)
    .skip))
    (.seq (.region [(iO 82 (.mv (.t 16))),
      (iO 83 (.fad 3 3 (.t 11))),
      (iS (.store 1 none (.t 83) (.t 82)))])
    (.region [(iO 84 (.mv (.t 17))),
      (iO 13 (.mv (.t 84)))]))))
  .skip)
noncomputable def z77u1t (k : Nat) (d : z77u1p.D) : Option (XD z77u1x) := overspillref21_Takeu1 k d.1.1 d.1.2.1 d.1.2.2.2.2.1 d.1.2.2.2.2.2 d.2.1 d.2.2
theorem z77u1_k (k : Nat) : UOK P GL (mkU z77u1p z77u1x (z77u1t k) nilU) z77u1d false z77u1b :=
  unit_typed (ud := z77u1d) (body := z77u1b) (uorc := uorT (z77U1 k)) hmo (T76_ok k).oo (z77U1_k k) (AllU.no (by kernel_rfl)) (fun d => by kernel_rfl)
noncomputable def z77U2 (k : Nat) : List (Nat × Ent) := (1, ⟨mkU z77u1p z77u1x (z77u1t k) nilU⟩) :: z77U1 k
theorem z77U2_k (k : Nat) : UTab (z77U2 k) := (z77U1_k k).cons (mkU_nat nilU_nat)
noncomputable def z77u2d : UDef := ⟨[(11, none), (19, none)], [85, 86, 87, 88, 89, 90, 91], [(.normal, [(91, none)])], []⟩
noncomputable def z77u2p : XPat := ⟨.normal, [(.ptr 0 []), (.tv (.int .i64))], [(.box (.tv YCell))]⟩
noncomputable def z77u2x : List XPat := [⟨.normal, [(.tv .bool)], [(.box (.tv YCell))]⟩]
noncomputable def overspillref21_Takeu2 (k : Nat) (x0 : Int) (x1 : DCell) : Option ((Bool) × (DCell)) :=
  bif (decide (x0 < 2)) then
    some ((decide (x1.2.2.1 < 2)), x1)
  else
  some (false, x1)
noncomputable def z77u2b : AC :=
  (.region [(iO 85 (.mv (.t 19))),
    (iO 86 (.bin .lss (.t 85) (nI 2))),
    (iO 87 (.mv (.t 86))),
    ⟨some 88, some (2, 87, true), (.op (.fad 2 2 (.t 11))), []⟩,
    ⟨some 89, some (2, 87, true), (.op (.load false 1 (.t 88))), []⟩,
    ⟨some 90, some (2, 87, true), (.op (.bin .lss (.t 89) (nI 2))), []⟩,
    (iO 91 (.pick (.t 87) (.t 90) (.c (.tv .bool (false : Bool)))))])
noncomputable def z77u2t (k : Nat) (d : z77u2p.D) : Option (XD z77u2x) := overspillref21_Takeu2 k d.1.2 d.2
theorem z77u2_k (k : Nat) : UOK P GL (mkU z77u2p z77u2x (z77u2t k) nilU) z77u2d false z77u2b :=
  unit_typed (ud := z77u2d) (body := z77u2b) (uorc := uorT (z77U2 k)) hmo (T76_ok k).oo (z77U2_k k) (AllU.no (by kernel_rfl)) (fun d => by kernel_rfl)
noncomputable def z77U3 (k : Nat) : List (Nat × Ent) := (2, ⟨mkU z77u2p z77u2x (z77u2t k) nilU⟩) :: z77U2 k
theorem z77U3_k (k : Nat) : UTab (z77U3 k) := (z77U2_k k).cons (mkU_nat nilU_nat)
noncomputable def z77u3d : UDef := ⟨[(0, none), (1, none), (7, none), (8, none), (11, none), (13, none), (19, none)], [9, 10, 13, 19, 20, 21, 22, 85, 86, 87, 88, 89, 90, 91, 92, 93, 94, 95, 96, 97, 98, 99, 100, 101, 102, 103, 104, 105, 106, 107, 108, 109, 110, 111, 112, 113, 114, 115, 116], [(.ret, [(9, none), (10, none)]), ((.exit 0), [(13, none)])], []⟩
noncomputable def z77u3p : XPat := ⟨.normal, [(.tv .str), (.tv (.int .i64)), (.ptr 0 []), (.ptr 1 []), (.ptr 2 []), (.tv (.int .i64)), (.tv (.int .i64))], [(.box (.tv (.arr 2 (.int .i64)))), (.box (.tv YCell)), (.box (.tv YCell))]⟩
noncomputable def z77u3x : List XPat := [⟨.ret, [(.tv (.int .i64)), (.tv (.int .i64))], [(.box (.tv (.arr 2 (.int .i64)))), (.box (.tv YCell)), (.box (.tv YCell))]⟩, ⟨(.exit 0), [(.tv (.int .i64))], [(.box (.tv (.arr 2 (.int .i64)))), (.box (.tv YCell)), (.box (.tv YCell))]⟩]
noncomputable def overspillref21_Takeu3 (k : Nat) : Nat → (List UInt8) → (Int) → (Int) → (Int) → (List (Int)) → (DCell) → (DCell) → Option ((((Int) × (Int)) × ((List (Int)) × ((DCell) × (DCell)))) ⊕ ((Int) × ((List (Int)) × ((DCell) × (DCell)))))
  | 0, _, _, _, _, _, _, _ => none
  | n + 1, x0, x1, x2, x3, x4, x5, x6 =>
    Option.bind (overspillref21_Takeu2 k x3 x6) fun (v257 : (Bool) × (DCell)) =>
    bif v257.1 then
      Option.bind (overspillref08_Take k x0 x2) fun (v258 : (Int) × ((Int) × ((Int) × (Unit)))) =>
      bif (!(decide (v258.2.2.1 = 0))) then
        some (Sum.inl ((x1, v258.2.2.1), (x4, ((0, (false, (0, (0, ((Ty.zero (.arr 2 (.int .i64))), ((Ty.zero (.arr 6 (.int .i64))), ((Ty.zero (.arr 6 (.sl YEvent))), ()))))))), v257.2))))
      else
      bif (inR x3 2) then
        Option.bind (overspillref01_Wrap k (List.getD x4 (Int.toNat x3) 0)) fun (v259 : Int) =>
        Option.bind (overspillref01_Wrap k (wr .i64 (v259 + v258.1))) fun (v260 : Int) =>
        bif (inR x3 2) then
          Option.bind (overspillref21_Takeu3 k n x0 x1 v258.2.1 (wr .i64 (x3 + 1)) x4 x5 (v257.2.1, (v257.2.2.1, (v257.2.2.2.1, (v257.2.2.2.2.1, ((List.set v257.2.2.2.2.2.1 (Int.toNat x3) v260), v257.2.2.2.2.2.2)))))) fun r => Sum.elim (fun w => some (Sum.inl w)) (fun w => some (Sum.inr w)) r
        else
          none
      else
        none
    else
    some (Sum.inr (x2, (x4, (x5, v257.2))))
noncomputable def z77u3b : AC :=
  (.seq (.seq (.unit 2 z77u2d false z77u2b)
  (.cond (.t 91)
  .skip
  (.exit 0)))
  (.seq (.block 1 (.seq (.region [(iO 95 (.mv (.t 0))),
    (iO 96 (.mv (.t 13))),
    (iC 97 31 [((.t 95), none), ((.t 96), none)]),
    (iO 94 (.mv (.t 97))),
    (iO 98 (.ext (.t 94) 0)),
    (iO 99 (.ext (.t 94) 1)),
    (iO 100 (.ext (.t 94) 2)),
    (iO 20 (.mv (.t 98))),
    (iO 21 (.mv (.t 99))),
    (iO 22 (.mv (.t 100)))])
  (.seq (.seq (.region [(iO 101 (.mv (.t 22))),
    (iO 102 (.bin .neq (.t 101) (nI 0)))])
  (.cond (.t 102)
  (.seq (.region [(iO 103 (.build 34 (.tv YCell) [])),
      (iO 104 (.mv (.t 1))),
      (iO 105 (.mv (.t 22))),
      (iS (.store 18 none (.t 8) (.t 103))),
      (iO 9 (.mv (.t 104))),
      (iO 10 (.mv (.t 105)))])
    .ret)
  .skip))
  (.seq (.region [(iO 106 (.mv (.t 19))),
    (iO 107 (.mv (.t 19))),
    (iO 108 (.iad 2 1 (.t 7) (.t 107))),
    (iO 109 (.load false 1 (.t 108))),
    (iC 110 32 [((.t 109), none)]),
    (iO 111 (.mv (.t 20))),
    (iO 112 (.bin .add (.t 110) (.t 111))),
    (iC 113 32 [((.t 112), none)]),
    (iO 114 (.fad 4 4 (.t 11))),
    (iO 115 (.iad 2 1 (.t 114) (.t 106))),
    (iS (.store 1 none (.t 115) (.t 113)))])
  (.region [(iO 116 (.mv (.t 21))),
    (iO 13 (.mv (.t 116)))])))))
  (.region [(iO 92 (.mv (.t 19))),
    (iO 93 (.bin .add (.t 92) (nI 1))),
    (iO 19 (.mv (.t 93)))])))
noncomputable def z77u3t (k n : Nat) (d : z77u3p.D) : Option (XD z77u3x) := overspillref21_Takeu3 k n d.1.1 d.1.2.1 d.1.2.2.2.2.2.1 d.1.2.2.2.2.2.2 d.2.1 d.2.2.1 d.2.2.2
theorem z77u3_k (k : Nat) : UOK P GL (mkU z77u3p z77u3x (z77u3t k k) nilU) z77u3d true z77u3b :=
  loop_typed (ud := z77u3d) (body := z77u3b) (uorc := uorT (z77U3 k)) hmo (T76_ok k).oo (z77U3_k k) (AllU.seq (AllU.seq (AllU.unit (uorc := uorT (z77U3 k)) (u := 2) (z77u2_k k)) (AllU.no (by kernel_rfl))) (AllU.no (by kernel_rfl))) (t := z77u3t k) (fun d => by kernel_rfl) (fun n d => by kernel_rfl) k
noncomputable def z77U4 (k : Nat) : List (Nat × Ent) := (3, ⟨mkU z77u3p z77u3x (z77u3t k k) nilU⟩) :: z77U3 k
theorem z77U4_k (k : Nat) : UTab (z77U4 k) := (z77U3_k k).cons (mkU_nat nilU_nat)
noncomputable def z77u4d : UDef := ⟨[(0, none), (1, none), (8, none), (11, none), (13, none), (15, none), (23, none), (24, none)], [9, 10, 13, 23, 24, 25, 26, 27, 28, 121, 122, 123, 124, 125, 126, 127, 128, 129, 130, 131, 132, 133, 134, 135, 136, 137, 138, 139, 140, 141, 142, 143, 144, 145, 146, 147, 148, 149, 150, 151, 152, 153, 154, 155, 156], [(.ret, [(9, none), (10, none)]), ((.exit 2), [(13, none)])], []⟩
noncomputable def z77u4p : XPat := ⟨.normal, [(.tv .str), (.tv (.int .i64)), (.ptr 0 []), (.ptr 1 []), (.tv (.int .i64)), (.tv (.int .i64)), (.tv (.int .i64)), (.tv (.int .i64))], [(.box (.tv YCell)), (.box (.tv YCell))]⟩
noncomputable def z77u4x : List XPat := [⟨.ret, [(.tv (.int .i64)), (.tv (.int .i64))], [(.box (.tv YCell)), (.box (.tv YCell))]⟩, ⟨(.exit 2), [(.tv (.int .i64))], [(.box (.tv YCell)), (.box (.tv YCell))]⟩]
noncomputable def overspillref21_Takeu4 (k : Nat) : Nat → (List UInt8) → (Int) → (Int) → (Int) → (Int) → (Int) → (DCell) → (DCell) → Option ((((Int) × (Int)) × ((DCell) × (DCell))) ⊕ ((Int) × ((DCell) × (DCell))))
  | 0, _, _, _, _, _, _, _, _ => none
  | n + 1, x0, x1, x2, x3, x4, x5, x6, x7 =>
    bif (decide (x5 < 6)) then
      Option.bind (overspillref21_Intra k x7.2.2.1) fun (v302 : Bool) =>
      bif (decide (x4 = 0)) then
        none
      else
      Option.bind (overspillref15_Take k x0 x2 v302 (decide ((Int.tmod (wr .i64 (Int.tdiv x3 x4)) 2) = 1))) fun (v303 : (Int) × ((List (DEvent)) × ((Int) × ((Int) × (Unit))))) =>
      bif (!(decide (v303.2.2.2.1 = 0))) then
        some (Sum.inl ((x1, v303.2.2.2.1), ((0, (false, (0, (0, ((Ty.zero (.arr 2 (.int .i64))), ((Ty.zero (.arr 6 (.int .i64))), ((Ty.zero (.arr 6 (.sl YEvent))), ()))))))), x7)))
      else
      bif (inR x5 6) then
        bif (inR x5 6) then
          Option.bind (overspillref21_Takeu4 k n x0 x1 v303.2.2.1 x3 (wr .i64 (Int.tdiv x4 2)) (wr .i64 (x5 + 1)) x6 (x7.1, (x7.2.1, (x7.2.2.1, (x7.2.2.2.1, (x7.2.2.2.2.1, ((List.set x7.2.2.2.2.2.1 (Int.toNat x5) v303.1), ((List.set x7.2.2.2.2.2.2.1 (Int.toNat x5) v303.2.1), x7.2.2.2.2.2.2.2)))))))) fun r => Sum.elim (fun w => some (Sum.inl w)) (fun w => some (Sum.inr w)) r
        else
          none
      else
        none
    else
    some (Sum.inr (x2, (x6, x7)))
noncomputable def z77u4b : AC :=
  (.seq (.seq (.region [(iO 121 (.mv (.t 24))),
    (iO 122 (.bin .lss (.t 121) (nI 6)))])
  (.cond (.t 122)
  .skip
  (.exit 2)))
  (.seq (.block 3 (.seq (.draw [(iO 126 (.mv (.t 0))),
    (iO 127 (.mv (.t 13))),
    (iO 128 (.fad 2 2 (.t 11))),
    (iOa 129 (.load false 1 (.t 128)) [2]),
    (iCa 130 29 [((.t 129), none)] [2, 3]),
    (iO 131 (.mv (.t 15))),
    (iO 132 (.mv (.t 23))),
    (iOa 133 (.bin .quo (.t 131) (.t 132)) [5, 6]),
    (iOa 134 (.bin .rem (.t 133) (nI 2)) [5, 6, 7]),
    (iOa 135 (.bin .eql (.t 134) (nI 1)) (rg [5, 4])),
    (iCa 136 33 [((.t 126), none), ((.t 127), none), ((.t 130), none), ((.t 135), none)] (rg [0, 10])),
    (iOa 125 (.mv (.t 136)) (rg [0, 11])),
    (iOa 137 (.ext (.t 125) 0) (rg [0, 12])),
    (iOa 138 (.ext (.t 125) 1) (rg [0, 12])),
    (iOa 139 (.ext (.t 125) 2) (rg [0, 12])),
    (iOa 140 (.ext (.t 125) 3) (rg [0, 12])),
    (iOa 25 (.mv (.t 137)) (rg [0, 13])),
    (iOa 26 (.mv (.t 138)) (rg [0, 14, 16, 1])),
    (iOa 27 (.mv (.t 139)) (rg [0, 15, 16, 2])),
    (iOa 28 (.mv (.t 140)) (rg [0, 19]))])
  (.seq (.seq (.region [(iO 141 (.mv (.t 28))),
    (iO 142 (.bin .neq (.t 141) (nI 0)))])
  (.cond (.t 142)
  (.seq (.region [(iO 143 (.build 34 (.tv YCell) [])),
      (iO 144 (.mv (.t 1))),
      (iO 145 (.mv (.t 28))),
      (iS (.store 18 none (.t 8) (.t 143))),
      (iO 9 (.mv (.t 144))),
      (iO 10 (.mv (.t 145)))])
    .ret)
  .skip))
  (.seq (.region [(iO 146 (.mv (.t 24))),
    (iO 147 (.mv (.t 25))),
    (iO 148 (.fad 5 6 (.t 11))),
    (iO 149 (.iad 6 1 (.t 148) (.t 146))),
    (iS (.store 1 none (.t 149) (.t 147)))])
  (.seq (.region [(iO 150 (.mv (.t 24))),
    (iO 151 (.mv (.t 26))),
    (iO 152 (.fad 6 12 (.t 11))),
    (iO 153 (.iad 6 1 (.t 152) (.t 150))),
    (iS (.store 1 none (.t 153) (.t 151)))])
  (.seq (.region [(iO 154 (.mv (.t 27))),
    (iO 13 (.mv (.t 154)))])
  (.region [(iO 155 (.mv (.t 23))),
    (iO 156 (.bin .quo (.t 155) (nI 2))),
    (iO 23 (.mv (.t 156)))])))))))
  (.region [(iO 123 (.mv (.t 24))),
    (iO 124 (.bin .add (.t 123) (nI 1))),
    (iO 24 (.mv (.t 124)))])))
noncomputable def z77u4t (k n : Nat) (d : z77u4p.D) : Option (XD z77u4x) := overspillref21_Takeu4 k n d.1.1 d.1.2.1 d.1.2.2.2.2.1 d.1.2.2.2.2.2.1 d.1.2.2.2.2.2.2.1 d.1.2.2.2.2.2.2.2 d.2.1 d.2.2
theorem z77u4_k (k : Nat) : UOK P GL (mkU z77u4p z77u4x (z77u4t k k) nilU) z77u4d true z77u4b :=
  loop_typed (ud := z77u4d) (body := z77u4b) (uorc := uorT (z77U4 k)) hmo (T76_ok k).oo (z77U4_k k) (AllU.no (by kernel_rfl)) (t := z77u4t k) (fun d => by kernel_rfl) (fun n d => by kernel_rfl) k
noncomputable def z77U5 (k : Nat) : List (Nat × Ent) := (4, ⟨mkU z77u4p z77u4x (z77u4t k k) nilU⟩) :: z77U4 k
theorem z77U5_k (k : Nat) : UTab (z77U5 k) := (z77U4_k k).cons (mkU_nat nilU_nat)
noncomputable def overspillref21_Take (k : Nat) (x0 : List UInt8) (x1 : Int) (x2 : Bool) (x3 : List (Int)) : Option ((DCell) × ((Int) × ((Int) × (Unit)))) :=
  Option.bind (overspillref21_begin k x0 x1 x2) fun (v234 : (DCell) × ((Int) × ((Int) × ((Int) × (Unit))))) =>
  bif (!(decide (v234.2.2.2.1 = 0))) then
    some ((0, (false, (0, (0, ((Ty.zero (.arr 2 (.int .i64))), ((Ty.zero (.arr 6 (.int .i64))), ((Ty.zero (.arr 6 (.sl YEvent))), ()))))))), (x1, (v234.2.2.2.1, ())))
  else
  bif v234.1.2.1 then
    some (v234.1, (v234.2.2.1, (0, ())))
  else
  Option.bind (overspillref21_Intra k v234.1.2.2.1) fun (v235 : Bool) =>
  Option.bind (overspillref07_Take k x0 v234.2.2.1 v235) fun (v239 : (Int) × ((Int) × ((Int) × (Unit)))) =>
  bif (!(decide (v239.2.2.1 = 0))) then
    some ((0, (false, (0, (0, ((Ty.zero (.arr 2 (.int .i64))), ((Ty.zero (.arr 6 (.int .i64))), ((Ty.zero (.arr 6 (.sl YEvent))), ()))))))), (x1, (v239.2.2.1, ())))
  else
  Option.bind (overspillref21_Takeu0 k v234.1) fun (v240 : (Bool) × (DCell)) =>
  Option.bind (overspillref21_Takeu1 k x0 x1 v239.2.1 v240.1 (0, (false, (0, (0, ((Ty.zero (.arr 2 (.int .i64))), ((Ty.zero (.arr 6 (.int .i64))), ((Ty.zero (.arr 6 (.sl YEvent))), ()))))))) v240.2) fun r =>
  Sum.elim (fun (v245 : ((Int) × (Int)) × ((DCell) × (DCell))) =>
    some (v245.2.1, (v245.1.1, (v245.1.2, ()))))
    (fun (v246 : (Int) × ((DCell) × (DCell))) =>
    Option.bind (overspillref21_Takeu3 k k x0 x1 v246.1 0 x3 v246.2.1 v246.2.2) fun r =>
    Sum.elim (fun (v261 : ((Int) × (Int)) × ((List (Int)) × ((DCell) × (DCell)))) =>
      some (v261.2.2.1, (v261.1.1, (v261.1.2, ()))))
      (fun (v262 : (Int) × ((List (Int)) × ((DCell) × (DCell)))) =>
      Option.bind (overspillref21_Takeu4 k k x0 x1 v262.1 (wr .i64 ((wr .i64 (4 * v239.1)) + v234.2.1)) 32 0 v262.2.2.1 v262.2.2.2) fun r =>
      Sum.elim (fun (v304 : ((Int) × (Int)) × ((DCell) × (DCell))) =>
        some (v304.2.1, (v304.1.1, (v304.1.2, ()))))
        (fun (v305 : (Int) × ((DCell) × (DCell))) =>
        some (v305.2.2, (v305.1, (0, ())))) r) r) r
noncomputable def z77b : AC :=
  (.seq (.region [(iO 7 (.box (.t 3))),
    (iO 8 (.alloc 34 (.tv YCell))),
    (iO 9 (.mv (nI 0))),
    (iO 10 (.mv (nI 0)))])
  (.seq (.region [(iO 30 (.mv (.t 0))),
    (iO 31 (.mv (.t 1))),
    (iO 32 (.mv (.t 2))),
    (iC 33 27 [((.t 30), none), ((.t 31), none), ((.t 32), none)]),
    (iO 29 (.mv (.t 33))),
    (iO 34 (.ext (.t 29) 0)),
    (iO 35 (.ext (.t 29) 1)),
    (iO 36 (.ext (.t 29) 2)),
    (iO 37 (.ext (.t 29) 3)),
    (iO 11 (.alloc 34 (.tv YCell))),
    (iS (.store 18 none (.t 11) (.t 34))),
    (iO 12 (.mv (.t 35))),
    (iO 13 (.mv (.t 36))),
    (iO 14 (.mv (.t 37)))])
  (.seq (.seq (.region [(iO 38 (.mv (.t 14))),
    (iO 39 (.bin .neq (.t 38) (nI 0)))])
  (.cond (.t 39)
  (.seq (.region [(iO 40 (.build 34 (.tv YCell) [])),
      (iO 41 (.mv (.t 1))),
      (iO 42 (.mv (.t 14))),
      (iS (.store 18 none (.t 8) (.t 40))),
      (iO 9 (.mv (.t 41))),
      (iO 10 (.mv (.t 42)))])
    .ret)
  .skip))
  (.seq (.seq (.region [(iO 43 (.fad 1 1 (.t 11))),
    (iO 44 (.load false 1 (.t 43)))])
  (.cond (.t 44)
  (.seq (.region [(iO 45 (.load true 18 (.t 11))),
      (iO 46 (.mv (.t 13))),
      (iS (.store 18 none (.t 8) (.t 45))),
      (iO 9 (.mv (.t 46))),
      (iO 10 (.mv (nI 0)))])
    .ret)
  .skip))
  (.seq (.region [(iO 48 (.mv (.t 0))),
    (iO 49 (.mv (.t 13))),
    (iO 50 (.fad 2 2 (.t 11))),
    (iO 51 (.load false 1 (.t 50))),
    (iC 52 29 [((.t 51), none)]),
    (iC 53 28 [((.t 48), none), ((.t 49), none), ((.t 52), none)]),
    (iO 47 (.mv (.t 53))),
    (iO 54 (.ext (.t 47) 0)),
    (iO 55 (.ext (.t 47) 1)),
    (iO 56 (.ext (.t 47) 2)),
    (iO 15 (.mv (.t 54))),
    (iO 13 (.mv (.t 55))),
    (iO 14 (.mv (.t 56)))])
  (.seq (.seq (.region [(iO 57 (.mv (.t 14))),
    (iO 58 (.bin .neq (.t 57) (nI 0)))])
  (.cond (.t 58)
  (.seq (.region [(iO 59 (.build 34 (.tv YCell) [])),
      (iO 60 (.mv (.t 1))),
      (iO 61 (.mv (.t 14))),
      (iS (.store 18 none (.t 8) (.t 59))),
      (iO 9 (.mv (.t 60))),
      (iO 10 (.mv (.t 61)))])
    .ret)
  .skip))
  (.seq (.seq (.unit 0 z77u0d false z77u0b)
  (.unit 1 z77u1d false z77u1b))
  (.seq (.seq (.region [(iO 19 (.mv (nI 0)))])
  (.block 0 (.unit 3 z77u3d true z77u3b)))
  (.seq (.region [(iO 117 (.mv (.t 15))),
    (iO 118 (.bin .mul (nI 4) (.t 117))),
    (iO 119 (.mv (.t 12))),
    (iO 120 (.bin .add (.t 118) (.t 119))),
    (iO 15 (.mv (.t 120)))])
  (.seq (.region [(iO 23 (.mv (nI 32)))])
  (.seq (.seq (.region [(iO 24 (.mv (nI 0)))])
  (.block 2 (.unit 4 z77u4d true z77u4b)))
  (.seq (.region [(iO 157 (.load true 18 (.t 11))),
    (iO 158 (.mv (.t 13))),
    (iS (.store 18 none (.t 8) (.t 157))),
    (iO 9 (.mv (.t 158))),
    (iO 10 (.mv (nI 0)))])
  .ret))))))))))))
noncomputable def z77f : FDef := ⟨4, 159, [.cell 8 18 true (some YCell), .tmp 9 none, .tmp 10 none], z77b⟩
noncomputable def z77p : XPat := ⟨.normal, [(.tv .str), (.tv (.int .i64)), (.tv .bool), (.tv (.arr 2 (.int .i64)))], []⟩
noncomputable def z77x : List XPat := [⟨.ret, [(.tup (.cons (.tv YCell) (.cons (.tv (.int .i64)) (.cons (.tv (.int .i64)) .nil))))], []⟩]
noncomputable def z77t (k : Nat) (d : z77p.D) : Option (XD z77x) := overspillref21_Take k d.1 d.2.1 d.2.2.1 d.2.2.2
noncomputable def z77_e (k : Nat) : UEntry := mkU z77p z77x (z77t k) nilU
theorem z77_n (k : Nat) : UNat (z77_e k) := mkU_nat nilU_nat
theorem z77_fu (k : Nat) : FU P GL 11 (z77_e k) :=
  fn_typed (uorc := uorT (z77U5 k)) hmo (T76_ok k).oo (z77U5_k k) (fd := z77f) (AllU.seq (AllU.no (by kernel_rfl)) (AllU.seq (AllU.no (by kernel_rfl)) (AllU.seq (AllU.no (by kernel_rfl)) (AllU.seq (AllU.no (by kernel_rfl)) (AllU.seq (AllU.no (by kernel_rfl)) (AllU.seq (AllU.no (by kernel_rfl)) (AllU.seq (AllU.seq (AllU.unit (uorc := uorT (z77U5 k)) (u := 0) (z77u0_k k)) (AllU.unit (uorc := uorT (z77U5 k)) (u := 1) (z77u1_k k))) (AllU.seq (AllU.seq (AllU.no (by kernel_rfl)) (AllU.block (AllU.unit (uorc := uorT (z77U5 k)) (u := 3) (z77u3_k k)))) (AllU.seq (AllU.no (by kernel_rfl)) (AllU.seq (AllU.no (by kernel_rfl)) (AllU.seq (AllU.seq (AllU.no (by kernel_rfl)) (AllU.block (AllU.unit (uorc := uorT (z77U5 k)) (u := 4) (z77u4_k k)))) (AllU.no (by kernel_rfl))))))))))))) (fn := Tryd.f11) (by kernel_rfl) (by kernel_rfl) (fun d => by kernel_rfl) FU_nil
noncomputable def T77 (k : Nat) : List (Nat × Ent) := (11, ⟨z77_e k⟩) :: T76 k
theorem T77_ok (k : Nat) : TabOK P GL (T77 k) := (T76_ok k).cons (z77_fu k) (z77_n k)
/-! ### overspill.cellin.Take -/
noncomputable def z78U0 (_ : Nat) : List (Nat × Ent) := []
theorem z78U0_k (k : Nat) : UTab (z78U0 k) := UTab.nil
noncomputable def cellin_Take_2 (k : Nat) (x0 : Bool) (x1 : List (Int)) : Option ((DCell) × ((Int) × (Unit))) :=
  some ((0, (false, (0, (0, ((Ty.zero (.arr 2 (.int .i64))), ((Ty.zero (.arr 6 (.int .i64))), ((Ty.zero (.arr 6 (.sl YEvent))), ()))))))), (1, ()))
noncomputable def z78b : AC :=
  (.seq (.region [(iO 5 (.box (.t 2))),
    (iO 6 (.alloc 34 (.tv YCell))),
    (iO 7 (.mv (nI 0)))])
  (.seq (.seq (.region [(iO 14 (.mv (.t 0))),
    (iO 15 (.eqp false (.t 14) (.c .nilp)))])
  (.cond (.t 15)
  (.seq (.region [(iO 16 (.build 34 (.tv YCell) [])),
      (iS (.store 18 none (.t 6) (.t 16))),
      (iO 7 (.mv (nI 1)))])
    .ret)
  .skip))
  (.seq (.region [(iO 17 .bad),
    (iO 18 .bad),
    (iO 8 .bad)])
  (.seq (.region [(iO 19 .bad),
    (iO 20 .bad),
    (iO 21 .bad),
    (iO 9 .bad)])
  (.seq (.region [(iO 10 .bad)])
  (.seq (.seq (.region [(iO 23 .bad),
    (iO 24 .bad),
    (iO 25 .bad),
    (iO 22 .bad),
    (iO 26 .bad),
    (iO 27 .bad),
    (iO 11 .bad),
    (iO 12 .bad)])
  (.seq (.region [(iO 28 .bad)])
  .bad))
  (.seq (.seq (.region [(iO 38 .bad),
    (iO 39 .bad),
    (iO 40 .bad),
    (iO 41 .bad),
    (iO 42 .bad)])
  (.cond (.t 42)
  (.seq (.region [(iO 43 .bad),
      (iO 44 .bad),
      (iO 45 .bad)])
    (.seq (.draw [(iO 46 .bad),
      (iO 47 .bad),
      (iOa 48 .bad [1]),
      (iOa 49 .bad [1, 2]),
      (iOa 50 .bad [1, 2, 3]),
      (iSa .bad [0]),
      (iOa 7 .bad (rg [0, 6]))])
    .ret))
  .skip))
  (.seq (.region [(iO 51 .bad),
    (iS .bad),
    (iO 7 .bad)])
  .ret))))))))
noncomputable def z78f : FDef := ⟨3, 52, [.cell 6 18 true (some YCell), .tmp 7 none], z78b⟩
noncomputable def z78p : XPat := ⟨.normal, [.nilp, (.tv .bool), (.tv (.arr 2 (.int .i64)))], []⟩
noncomputable def z78x : List XPat := [⟨.ret, [(.tup (.cons (.tv YCell) (.cons (.tv (.int .i64)) .nil)))], []⟩]
noncomputable def z78t (k : Nat) (d : z78p.D) : Option (XD z78x) := cellin_Take_2 k d.2.1 d.2.2
noncomputable def z78_e (k : Nat) : UEntry := mkU z78p z78x (z78t k) (z49_e k)
theorem z78_n (k : Nat) : UNat (z78_e k) := mkU_nat (z49_n k)
theorem z78_fu (k : Nat) : FU P GL 10 (z78_e k) :=
  fn_typed (uorc := uorT (z78U0 k)) hmo (T77_ok k).oo (z78U0_k k) (fd := z78f) (AllU.no (by kernel_rfl)) (fn := Tryd.f10) (by kernel_rfl) (by kernel_rfl) (fun d => by kernel_rfl) (z49_fu k)
noncomputable def T78 (k : Nat) : List (Nat × Ent) := (10, ⟨z78_e k⟩) :: T77 k
theorem T78_ok (k : Nat) : TabOK P GL (T78 k) := (T77_ok k).cons (z78_fu k) (z78_n k)
/-! ### overspill.overspillref10.Same -/
noncomputable def z79U0 (_ : Nat) : List (Nat × Ent) := []
theorem z79U0_k (k : Nat) : UTab (z79U0 k) := UTab.nil
noncomputable def z79u0d : UDef := ⟨[(0, none), (1, none), (5, none)], [4, 5, 11, 12, 13, 14, 15, 16, 17, 18, 19, 20, 21, 22, 23, 24, 25], [(.ret, [(4, none)]), ((.exit 0), [])], []⟩
noncomputable def z79u0p : XPat := ⟨.normal, [(.tv (.sl YEvent)), (.tv (.sl YEvent)), (.tv (.int .i64))], []⟩
noncomputable def z79u0x : List XPat := [⟨.ret, [(.tv .bool)], []⟩, ⟨(.exit 0), [], []⟩]
noncomputable def overspillref10_Sameu0 (k : Nat) : Nat → (List (DEvent)) → (List (DEvent)) → (Int) → Option ((Bool) ⊕ (Unit))
  | 0, _, _, _ => none
  | n + 1, x0, x1, x2 =>
    bif (decide (x2 < ((List.length x0 : Nat) : Int))) then
      bif (inR x2 (List.length x0)) then
        bif (inR x2 (List.length x1)) then
          bif (true ^^ Ty.eqB YEvent (List.getD x0 (Int.toNat x2) (false, (0, (0, ())))) (List.getD x1 (Int.toNat x2) (false, (0, (0, ()))))) then
            some (Sum.inl false)
          else
          Option.bind (overspillref10_Sameu0 k n x0 x1 (wr .i64 (x2 + 1))) fun r => Sum.elim (fun w => some (Sum.inl w)) (fun w => some (Sum.inr w)) r
        else
          none
      else
        none
    else
    some (Sum.inr ())
noncomputable def z79u0b : AC :=
  (.seq (.seq (.region [(iO 11 (.mv (.t 5))),
    (iO 12 (.mv (.t 0))),
    (iO 13 (.len (.t 12))),
    (iO 14 (.bin .lss (.t 11) (.t 13)))])
  (.cond (.t 14)
  .skip
  (.exit 0)))
  (.seq (.block 1 (.seq (.draw [(iO 17 (.mv (.t 0))),
    (iO 18 (.mv (.t 5))),
    (iOa 19 (.iads YEvent (.t 17) (.t 18)) [0, 1]),
    (iOa 20 (.load true 3 (.t 19)) [0, 1, 2]),
    (iO 21 (.mv (.t 1))),
    (iO 22 (.mv (.t 5))),
    (iOa 23 (.iads YEvent (.t 21) (.t 22)) [4, 5]),
    (iOa 24 (.load true 3 (.t 23)) [4, 5, 6]),
    (iOa 25 (.eqa true YEvent (.t 20) (.t 24)) (rg [0, 8]))])
  (.cond (.t 25)
  (.seq (.region [(iO 4 (.mv (.c (.tv .bool (false : Bool)))))])
    .ret)
  .skip)))
  (.region [(iO 15 (.mv (.t 5))),
    (iO 16 (.bin .add (.t 15) (nI 1))),
    (iO 5 (.mv (.t 16)))])))
noncomputable def z79u0t (k n : Nat) (d : z79u0p.D) : Option (XD z79u0x) := overspillref10_Sameu0 k n d.1 d.2.1 d.2.2
theorem z79u0_k (k : Nat) : UOK P GL (mkU z79u0p z79u0x (z79u0t k k) nilU) z79u0d true z79u0b :=
  loop_typed (ud := z79u0d) (body := z79u0b) (uorc := uorT (z79U0 k)) hmo (T78_ok k).oo (z79U0_k k) (AllU.no (by kernel_rfl)) (t := z79u0t k) (fun d => by kernel_rfl) (fun n d => by kernel_rfl) k
noncomputable def z79U1 (k : Nat) : List (Nat × Ent) := (0, ⟨mkU z79u0p z79u0x (z79u0t k k) nilU⟩) :: z79U0 k
theorem z79U1_k (k : Nat) : UTab (z79U1 k) := (z79U0_k k).cons (mkU_nat nilU_nat)
noncomputable def overspillref10_Same (k : Nat) (x0 : List (DEvent)) (x1 : List (DEvent)) : Option (Bool) :=
  bif (!(decide (((List.length x0 : Nat) : Int) = ((List.length x1 : Nat) : Int)))) then
    some false
  else
  Option.bind (overspillref10_Sameu0 k k x0 x1 0) fun r =>
  Sum.elim (fun (v309 : Bool) =>
    some v309)
    (fun (v310 : Unit) =>
    some true) r
noncomputable def z79b : AC :=
  (.seq (.region [(iO 4 (.mv (.c (.tv .bool (false : Bool)))))])
  (.seq (.seq (.region [(iO 6 (.mv (.t 0))),
    (iO 7 (.len (.t 6))),
    (iO 8 (.mv (.t 1))),
    (iO 9 (.len (.t 8))),
    (iO 10 (.bin .neq (.t 7) (.t 9)))])
  (.cond (.t 10)
  (.seq (.region [(iO 4 (.mv (.c (.tv .bool (false : Bool)))))])
    .ret)
  .skip))
  (.seq (.seq (.region [(iO 5 (.mv (nI 0)))])
  (.block 0 (.unit 0 z79u0d true z79u0b)))
  (.seq (.region [(iO 4 (.mv (.c (.tv .bool (true : Bool)))))])
  .ret))))
noncomputable def z79f : FDef := ⟨2, 26, [.tmp 4 none], z79b⟩
noncomputable def z79p : XPat := ⟨.normal, [(.tv (.sl YEvent)), (.tv (.sl YEvent))], []⟩
noncomputable def z79x : List XPat := [⟨.ret, [(.tv .bool)], []⟩]
noncomputable def z79t (k : Nat) (d : z79p.D) : Option (XD z79x) := overspillref10_Same k d.1 d.2
noncomputable def z79_e (k : Nat) : UEntry := mkU z79p z79x (z79t k) nilU
theorem z79_n (k : Nat) : UNat (z79_e k) := mkU_nat nilU_nat
theorem z79_fu (k : Nat) : FU P GL 35 (z79_e k) :=
  fn_typed (uorc := uorT (z79U1 k)) hmo (T78_ok k).oo (z79U1_k k) (fd := z79f) (AllU.seq (AllU.no (by kernel_rfl)) (AllU.seq (AllU.no (by kernel_rfl)) (AllU.seq (AllU.seq (AllU.no (by kernel_rfl)) (AllU.block (AllU.unit (uorc := uorT (z79U1 k)) (u := 0) (z79u0_k k)))) (AllU.no (by kernel_rfl))))) (fn := Tryd.f35) (by kernel_rfl) (by kernel_rfl) (fun d => by kernel_rfl) FU_nil
noncomputable def T79 (k : Nat) : List (Nat × Ent) := (35, ⟨z79_e k⟩) :: T78 k
theorem T79_ok (k : Nat) : TabOK P GL (T79 k) := (T78_ok k).cons (z79_fu k) (z79_n k)
/-! ### overspill.overspillref21.Same -/
noncomputable def z80U0 (_ : Nat) : List (Nat × Ent) := []
theorem z80U0_k (k : Nat) : UTab (z80U0 k) := UTab.nil
noncomputable def z80u0d : UDef := ⟨[(2, none), (3, none)], [6, 7, 8, 9, 10, 11, 12, 13, 14, 15, 16, 17, 18, 19, 20, 21, 22, 23, 24, 25, 26, 27, 28, 29, 30, 31, 32, 33, 34, 35, 36, 37, 38, 39, 40, 41, 42, 43, 44, 45], [(.normal, [(45, none)])], []⟩
noncomputable def z80u0p : XPat := ⟨.normal, [(.ptr 0 []), (.ptr 1 [])], [(.box (.tv YCell)), (.box (.tv YCell))]⟩
noncomputable def z80u0x : List XPat := [⟨.normal, [(.tv .bool)], [(.box (.tv YCell)), (.box (.tv YCell))]⟩]
noncomputable def overspillref21_Sameu0 (k : Nat) (x0 : DCell) (x1 : DCell) : Option ((Bool) × ((DCell) × (DCell))) :=
  bif (!(decide (x0.1 = x1.1))) then
    some (true, (x0, x1))
  else
  bif (true ^^ (x0.2.1 == x1.2.1)) then
    some (true, (x0, x1))
  else
  bif (!(decide (x0.2.2.1 = x1.2.2.1))) then
    some (true, (x0, x1))
  else
  bif (!(decide (x0.2.2.2.1 = x1.2.2.2.1))) then
    some (true, (x0, x1))
  else
  bif (true ^^ Ty.eqB (.arr 2 (.int .i64)) x0.2.2.2.2.1 x1.2.2.2.2.1) then
    some (true, (x0, x1))
  else
  some ((true ^^ Ty.eqB (.arr 6 (.int .i64)) x0.2.2.2.2.2.1 x1.2.2.2.2.2.1), (x0, x1))
noncomputable def z80u0b : AC :=
  (.region [(iO 6 (.fad 0 0 (.t 2))),
    (iO 7 (.load false 1 (.t 6))),
    (iO 8 (.fad 0 0 (.t 3))),
    (iO 9 (.load false 1 (.t 8))),
    (iO 10 (.bin .neq (.t 7) (.t 9))),
    (iO 11 (.mv (.t 10))),
    ⟨some 12, some (5, 11, false), (.op (.fad 1 1 (.t 2))), []⟩,
    ⟨some 13, some (5, 11, false), (.op (.load false 1 (.t 12))), []⟩,
    ⟨some 14, some (5, 11, false), (.op (.fad 1 1 (.t 3))), []⟩,
    ⟨some 15, some (5, 11, false), (.op (.load false 1 (.t 14))), []⟩,
    ⟨some 16, some (5, 11, false), (.op (.eqb true (.t 13) (.t 15))), []⟩,
    (iO 17 (.pick (.t 11) (.c (.tv .bool (true : Bool))) (.t 16))),
    (iO 18 (.mv (.t 17))),
    ⟨some 19, some (12, 18, false), (.op (.fad 2 2 (.t 2))), []⟩,
    ⟨some 20, some (12, 18, false), (.op (.load false 1 (.t 19))), []⟩,
    ⟨some 21, some (12, 18, false), (.op (.fad 2 2 (.t 3))), []⟩,
    ⟨some 22, some (12, 18, false), (.op (.load false 1 (.t 21))), []⟩,
    ⟨some 23, some (12, 18, false), (.op (.bin .neq (.t 20) (.t 22))), []⟩,
    (iO 24 (.pick (.t 18) (.c (.tv .bool (true : Bool))) (.t 23))),
    (iO 25 (.mv (.t 24))),
    ⟨some 26, some (19, 25, false), (.op (.fad 3 3 (.t 2))), []⟩,
    ⟨some 27, some (19, 25, false), (.op (.load false 1 (.t 26))), []⟩,
    ⟨some 28, some (19, 25, false), (.op (.fad 3 3 (.t 3))), []⟩,
    ⟨some 29, some (19, 25, false), (.op (.load false 1 (.t 28))), []⟩,
    ⟨some 30, some (19, 25, false), (.op (.bin .neq (.t 27) (.t 29))), []⟩,
    (iO 31 (.pick (.t 25) (.c (.tv .bool (true : Bool))) (.t 30))),
    (iO 32 (.mv (.t 31))),
    ⟨some 33, some (26, 32, false), (.op (.fad 4 4 (.t 2))), []⟩,
    ⟨some 34, some (26, 32, false), (.op (.load true 2 (.t 33))), []⟩,
    ⟨some 35, some (26, 32, false), (.op (.fad 4 4 (.t 3))), []⟩,
    ⟨some 36, some (26, 32, false), (.op (.load true 2 (.t 35))), []⟩,
    ⟨some 37, some (26, 32, false), (.op (.eqa true (.arr 2 (.int .i64)) (.t 34) (.t 36))), []⟩,
    (iO 38 (.pick (.t 32) (.c (.tv .bool (true : Bool))) (.t 37))),
    (iO 39 (.mv (.t 38))),
    ⟨some 40, some (33, 39, false), (.op (.fad 5 6 (.t 2))), []⟩,
    ⟨some 41, some (33, 39, false), (.op (.load true 6 (.t 40))), []⟩,
    ⟨some 42, some (33, 39, false), (.op (.fad 5 6 (.t 3))), []⟩,
    ⟨some 43, some (33, 39, false), (.op (.load true 6 (.t 42))), []⟩,
    ⟨some 44, some (33, 39, false), (.op (.eqa true (.arr 6 (.int .i64)) (.t 41) (.t 43))), []⟩,
    (iO 45 (.pick (.t 39) (.c (.tv .bool (true : Bool))) (.t 44)))])
noncomputable def z80u0t (k : Nat) (d : z80u0p.D) : Option (XD z80u0x) := overspillref21_Sameu0 k d.2.1 d.2.2
theorem z80u0_k (k : Nat) : UOK P GL (mkU z80u0p z80u0x (z80u0t k) nilU) z80u0d false z80u0b :=
  unit_typed (ud := z80u0d) (body := z80u0b) (uorc := uorT (z80U0 k)) hmo (T79_ok k).oo (z80U0_k k) (AllU.no (by kernel_rfl)) (fun d => by kernel_rfl)
noncomputable def z80U1 (k : Nat) : List (Nat × Ent) := (0, ⟨mkU z80u0p z80u0x (z80u0t k) nilU⟩) :: z80U0 k
theorem z80U1_k (k : Nat) : UTab (z80U1 k) := (z80U0_k k).cons (mkU_nat nilU_nat)
noncomputable def z80u1d : UDef := ⟨[(2, none), (3, none), (5, none)], [4, 5, 46, 47, 48, 49, 50, 51, 52, 53, 54, 55, 56, 57, 58, 59], [(.ret, [(4, none)]), ((.exit 0), [])], []⟩
noncomputable def z80u1p : XPat := ⟨.normal, [(.ptr 0 []), (.ptr 1 []), (.tv (.int .i64))], [(.box (.tv YCell)), (.box (.tv YCell))]⟩
noncomputable def z80u1x : List XPat := [⟨.ret, [(.tv .bool)], [(.box (.tv YCell)), (.box (.tv YCell))]⟩, ⟨(.exit 0), [], [(.box (.tv YCell)), (.box (.tv YCell))]⟩]
noncomputable def overspillref21_Sameu1 (k : Nat) : Nat → (Int) → (DCell) → (DCell) → Option (((Bool) × ((DCell) × (DCell))) ⊕ ((Unit) × ((DCell) × (DCell))))
  | 0, _, _, _ => none
  | n + 1, x0, x1, x2 =>
    bif (decide (x0 < 6)) then
      bif (inR x0 6) then
        bif (inR x0 6) then
          Option.bind (overspillref10_Same k (List.getD x1.2.2.2.2.2.2.1 (Int.toNat x0) ([] : List (DEvent))) (List.getD x2.2.2.2.2.2.2.1 (Int.toNat x0) ([] : List (DEvent)))) fun (v312 : Bool) =>
          bif (!v312) then
            some (Sum.inl (false, (x1, x2)))
          else
          Option.bind (overspillref21_Sameu1 k n (wr .i64 (x0 + 1)) x1 x2) fun r => Sum.elim (fun w => some (Sum.inl w)) (fun w => some (Sum.inr w)) r
        else
          none
      else
        none
    else
    some (Sum.inr ((), (x1, x2)))
noncomputable def z80u1b : AC :=
  (.seq (.seq (.region [(iO 46 (.mv (.t 5))),
    (iO 47 (.bin .lss (.t 46) (nI 6)))])
  (.cond (.t 47)
  .skip
  (.exit 0)))
  (.seq (.block 1 (.seq (.draw [(iO 50 (.mv (.t 5))),
    (iO 51 (.fad 6 12 (.t 2))),
    (iOa 52 (.iad 6 1 (.t 51) (.t 50)) [0, 1]),
    (iOa 53 (.load false 1 (.t 52)) [0, 1, 2]),
    (iO 54 (.mv (.t 5))),
    (iO 55 (.fad 6 12 (.t 3))),
    (iOa 56 (.iad 6 1 (.t 55) (.t 54)) [4, 5]),
    (iOa 57 (.load false 1 (.t 56)) [4, 5, 6]),
    (iCa 58 35 [((.t 53), some (.sl YEvent)), ((.t 57), some (.sl YEvent))] (rg [0, 8])),
    (iOa 59 (.un .not (.t 58)) (rg [0, 9]))])
  (.cond (.t 59)
  (.seq (.region [(iO 4 (.mv (.c (.tv .bool (false : Bool)))))])
    .ret)
  .skip)))
  (.region [(iO 48 (.mv (.t 5))),
    (iO 49 (.bin .add (.t 48) (nI 1))),
    (iO 5 (.mv (.t 49)))])))
noncomputable def z80u1t (k n : Nat) (d : z80u1p.D) : Option (XD z80u1x) := overspillref21_Sameu1 k n d.1.2.2 d.2.1 d.2.2
theorem z80u1_k (k : Nat) : UOK P GL (mkU z80u1p z80u1x (z80u1t k k) nilU) z80u1d true z80u1b :=
  loop_typed (ud := z80u1d) (body := z80u1b) (uorc := uorT (z80U1 k)) hmo (T79_ok k).oo (z80U1_k k) (AllU.no (by kernel_rfl)) (t := z80u1t k) (fun d => by kernel_rfl) (fun n d => by kernel_rfl) k
noncomputable def z80U2 (k : Nat) : List (Nat × Ent) := (1, ⟨mkU z80u1p z80u1x (z80u1t k k) nilU⟩) :: z80U1 k
theorem z80U2_k (k : Nat) : UTab (z80U2 k) := (z80U1_k k).cons (mkU_nat nilU_nat)
noncomputable def overspillref21_Same (k : Nat) (x0 : DCell) (x1 : DCell) : Option (Bool) :=
  Option.bind (overspillref21_Sameu0 k x0 x1) fun (v308 : (Bool) × ((DCell) × (DCell))) =>
  bif v308.1 then
    some false
  else
  Option.bind (overspillref21_Sameu1 k k 0 v308.2.1 v308.2.2) fun r =>
  Sum.elim (fun (v313 : (Bool) × ((DCell) × (DCell))) =>
    some v313.1)
    (fun (v314 : (Unit) × ((DCell) × (DCell))) =>
    some true) r
noncomputable def z80b : AC :=
  (.seq (.region [(iO 2 (.box (.t 0))),
    (iO 3 (.box (.t 1))),
    (iO 4 (.mv (.c (.tv .bool (false : Bool)))))])
  (.seq (.seq (.unit 0 z80u0d false z80u0b)
  (.cond (.t 45)
  (.seq (.region [(iO 4 (.mv (.c (.tv .bool (false : Bool)))))])
    .ret)
  .skip))
  (.seq (.seq (.region [(iO 5 (.mv (nI 0)))])
  (.block 0 (.unit 1 z80u1d true z80u1b)))
  (.seq (.region [(iO 4 (.mv (.c (.tv .bool (true : Bool)))))])
  .ret))))
noncomputable def z80f : FDef := ⟨2, 60, [.tmp 4 none], z80b⟩
noncomputable def z80p : XPat := ⟨.normal, [(.tv YCell), (.tv YCell)], []⟩
noncomputable def z80x : List XPat := [⟨.ret, [(.tv .bool)], []⟩]
noncomputable def z80t (k : Nat) (d : z80p.D) : Option (XD z80x) := overspillref21_Same k d.1 d.2
noncomputable def z80_e (k : Nat) : UEntry := mkU z80p z80x (z80t k) nilU
theorem z80_n (k : Nat) : UNat (z80_e k) := mkU_nat nilU_nat
theorem z80_fu (k : Nat) : FU P GL 13 (z80_e k) :=
  fn_typed (uorc := uorT (z80U2 k)) hmo (T79_ok k).oo (z80U2_k k) (fd := z80f) (AllU.seq (AllU.no (by kernel_rfl)) (AllU.seq (AllU.seq (AllU.unit (uorc := uorT (z80U2 k)) (u := 0) (z80u0_k k)) (AllU.no (by kernel_rfl))) (AllU.seq (AllU.seq (AllU.no (by kernel_rfl)) (AllU.block (AllU.unit (uorc := uorT (z80U2 k)) (u := 1) (z80u1_k k)))) (AllU.no (by kernel_rfl))))) (fn := Tryd.f13) (by kernel_rfl) (by kernel_rfl) (fun d => by kernel_rfl) FU_nil
noncomputable def T80 (k : Nat) : List (Nat × Ent) := (13, ⟨z80_e k⟩) :: T79 k
theorem T80_ok (k : Nat) : TabOK P GL (T80 k) := (T79_ok k).cons (z80_fu k) (z80_n k)
abbrev DHow : Type := Int × Bool × Unit
abbrev YHow : Ty := (.pr (.int .i64) (.pr .bool .nil))
/-! ### overspill.overspilllaw21.CellinTakes -/
noncomputable def z81U0 (_ : Nat) : List (Nat × Ent) := []
theorem z81U0_k (k : Nat) : UTab (z81U0 k) := UTab.nil
noncomputable def z81u0d : UDef := ⟨[(0, none), (4, none), (7, none)], [17, 18, 19, 20, 21, 22, 23, 24, 25, 26], [(.normal, [(26, none)])], []⟩
noncomputable def z81u0p : XPat := ⟨.normal, [(.tv .str), (.ptr 0 []), (.ptr 1 [])], [(.box (.tv YHow)), (.box (.tv YReader))]⟩
noncomputable def z81u0x : List XPat := [⟨.normal, [(.tv .bool)], [(.box (.tv YHow)), (.box (.tv YReader))]⟩]
noncomputable def overspilllaw21_CellinTakesu0 (k : Nat) (x0 : List UInt8) (x1 : DHow) (x2 : DReader) : Option ((Bool) × ((DHow) × (DReader))) :=
  bif (decide ((500 : Int) < ((List.length x0 : Nat) : Int))) then
    some (true, (x1, x2))
  else
  Option.bind (inbits_Reader_Seek k x1.1 x2) fun (v3 : (Int) × (DReader)) =>
  some ((!(decide (v3.1 = 0))), (x1, v3.2))
noncomputable def z81u0b : AC :=
  (.region [(iO 17 (.mv (.t 0))),
    (iO 18 (.lens (.t 17))),
    (iO 19 (.bin .gtr (.t 18) (nI 500))),
    (iO 20 (.mv (.t 19))),
    ⟨some 21, some (3, 20, false), (.op (.mv (.t 7))), []⟩,
    ⟨some 22, some (3, 20, false), (.op (.fad 0 0 (.t 4))), []⟩,
    ⟨some 23, some (3, 20, false), (.op (.load false 1 (.t 22))), []⟩,
    ⟨some 24, some (3, 20, false), (.call (.c (.fn 8 .nil .nil)) [((.t 21), none), ((.t 23), none)]), []⟩,
    ⟨some 25, some (3, 20, false), (.op (.bin .neq (.t 24) (nI 0))), []⟩,
    (iO 26 (.pick (.t 20) (.c (.tv .bool (true : Bool))) (.t 25)))])
noncomputable def z81u0t (k : Nat) (d : z81u0p.D) : Option (XD z81u0x) := overspilllaw21_CellinTakesu0 k d.1.1 d.2.1 d.2.2
theorem z81u0_k (k : Nat) : UOK P GL (mkU z81u0p z81u0x (z81u0t k) nilU) z81u0d false z81u0b :=
  unit_typed (ud := z81u0d) (body := z81u0b) (uorc := uorT (z81U0 k)) hmo (T80_ok k).oo (z81U0_k k) (AllU.no (by kernel_rfl)) (fun d => by kernel_rfl)
noncomputable def z81U1 (k : Nat) : List (Nat × Ent) := (0, ⟨mkU z81u0p z81u0x (z81u0t k) nilU⟩) :: z81U0 k
theorem z81U1_k (k : Nat) : UTab (z81U1 k) := (z81U0_k k).cons (mkU_nat nilU_nat)
noncomputable def overspilllaw21_CellinTakes (k : Nat) (x0 : List UInt8) (x1 : DHow) (x2 : List (Int)) : Option (Bool) :=
  Option.bind (inbits_New k x0) fun (v1 : (Unit) × (DReader)) =>
  Option.bind (overspilllaw21_CellinTakesu0 k x0 x1 v1.2) fun (v4 : (Bool) × ((DHow) × (DReader))) =>
  bif v4.1 then
    Option.bind (overspilllaw21_lives k) fun (v208 : Bool) =>
    some v208
  else
  Option.bind (cellin_Take k v4.2.1.2.1 x2 v4.2.2) fun (v209 : ((DCell) × ((Int) × (Unit))) × (DReader)) =>
  Option.bind (overspillref02_Show k x0) fun (v214 : List UInt8) =>
  Option.bind (overspillref21_Take k v214 v4.2.1.1 v4.2.1.2.1 x2) fun (v306 : (DCell) × ((Int) × ((Int) × (Unit)))) =>
  Option.bind (cellin_Take_2 k v4.2.1.2.1 x2) fun (v307 : (DCell) × ((Int) × (Unit))) =>
  Option.bind (overspillref21_Same k v209.1.1 v306.1) fun (v315 : Bool) =>
  bif v315 then
    bif (decide (v209.1.2.1 = v306.2.2.1)) then
      Option.bind (inbits_Reader_At k v209.2) fun (v316 : (Int) × (DReader)) =>
      bif (decide (v316.1 = v306.2.1)) then
        bif (decide (v307.2.1 = 1)) then
          Option.bind (overspilllaw21_lives k) fun (v317 : Bool) =>
          some v317
        else
        some false
      else
      some false
    else
    some false
  else
  some false
noncomputable def z81b : AC :=
  (.seq (.region [(iO 4 (.box (.t 1))),
    (iO 5 (.box (.t 2))),
    (iO 6 (.mv (.c (.tv .bool (false : Bool)))))])
  (.seq (.region [(iO 15 (.mv (.t 0))),
    (iC 16 7 [((.t 15), none)]),
    (iO 7 (.mv (.t 16)))])
  (.seq (.seq (.unit 0 z81u0d false z81u0b)
  (.cond (.t 26)
  (.seq (.region [(iC 27 9 []),
      (iO 6 (.mv (.t 27)))])
    .ret)
  .skip))
  (.seq (.region [(iO 29 (.mv (.t 7))),
    (iO 30 (.fad 1 1 (.t 4))),
    (iO 31 (.load false 1 (.t 30))),
    (iO 32 (.load true 2 (.t 5))),
    (iC 33 10 [((.t 29), none), ((.t 31), none), ((.t 32), some (.arr 2 (.int .i64)))]),
    (iO 28 (.mv (.t 33))),
    (iO 34 (.ext (.t 28) 0)),
    (iO 35 (.ext (.t 28) 1)),
    (iO 8 (.alloc 34 (.tv YCell))),
    (iS (.store 18 none (.t 8) (.t 34))),
    (iO 9 (.mv (.t 35)))])
  (.seq (.draw [(iO 37 (.mv (.t 0))),
    (iCa 38 12 [((.t 37), none)] [0]),
    (iO 39 (.fad 0 0 (.t 4))),
    (iOa 40 (.load false 1 (.t 39)) [2]),
    (iO 41 (.fad 1 1 (.t 4))),
    (iOa 42 (.load false 1 (.t 41)) [4]),
    (iO 43 (.load true 2 (.t 5))),
    (iCa 44 11 [((.t 38), none), ((.t 40), none), ((.t 42), none), ((.t 43), some (.arr 2 (.int .i64)))] (rg [0, 7])),
    (iOa 36 (.mv (.t 44)) (rg [0, 8])),
    (iOa 45 (.ext (.t 36) 0) (rg [0, 9])),
    (iOa 46 (.ext (.t 36) 1) (rg [0, 9])),
    (iOa 47 (.ext (.t 36) 2) (rg [0, 9])),
    (iO 10 (.alloc 34 (.tv YCell))),
    (iSa (.store 18 none (.t 10) (.t 45)) (rg [0, 10, 12, 1])),
    (iOa 11 (.mv (.t 46)) (rg [0, 11, 12, 2])),
    (iOa 12 (.mv (.t 47)) (rg [0, 15]))])
  (.seq (.region [(iO 49 (.fad 1 1 (.t 4))),
    (iO 50 (.load false 1 (.t 49))),
    (iO 51 (.load true 2 (.t 5))),
    (iC 52 10 [((.c .nilp), none), ((.t 50), none), ((.t 51), some (.arr 2 (.int .i64)))]),
    (iO 48 (.mv (.t 52))),
    (iO 53 (.ext (.t 48) 0)),
    (iO 54 (.ext (.t 48) 1)),
    (iO 13 (.alloc 34 (.tv YCell))),
    (iS (.store 18 none (.t 13) (.t 53))),
    (iO 14 (.mv (.t 54)))])
  (.seq (.region [(iO 55 (.load true 18 (.t 8))),
    (iO 56 (.load true 18 (.t 10))),
    (iC 57 13 [((.t 55), some YCell), ((.t 56), some YCell)]),
    (iO 58 (.mv (.t 57))),
    ⟨some 59, some (3, 58, true), (.op (.mv (.t 9))), []⟩,
    ⟨some 60, some (3, 58, true), (.op (.mv (.t 12))), []⟩,
    ⟨some 61, some (3, 58, true), (.op (.bin .eql (.t 59) (.t 60))), []⟩,
    (iO 62 (.pick (.t 58) (.t 61) (.c (.tv .bool (false : Bool))))),
    (iO 63 (.mv (.t 62))),
    ⟨some 64, some (8, 63, true), (.op (.mv (.t 7))), []⟩,
    ⟨some 65, some (8, 63, true), (.call (.c (.fn 14 .nil .nil)) [((.t 64), none)]), []⟩,
    ⟨some 66, some (8, 63, true), (.op (.mv (.t 11))), []⟩,
    ⟨some 67, some (8, 63, true), (.op (.bin .eql (.t 65) (.t 66))), []⟩,
    (iO 68 (.pick (.t 63) (.t 67) (.c (.tv .bool (false : Bool))))),
    (iO 69 (.mv (.t 68))),
    ⟨some 70, some (14, 69, true), (.op (.mv (.t 14))), []⟩,
    ⟨some 71, some (14, 69, true), (.op (.bin .eql (.t 70) (nI 1))), []⟩,
    (iO 72 (.pick (.t 69) (.t 71) (.c (.tv .bool (false : Bool))))),
    (iO 73 (.mv (.t 72))),
    ⟨some 74, some (18, 73, true), (.call (.c (.fn 9 .nil .nil)) []), []⟩,
    (iO 75 (.pick (.t 73) (.t 74) (.c (.tv .bool (false : Bool))))),
    (iO 6 (.mv (.t 75)))])
  .ret)))))))
noncomputable def z81f : FDef := ⟨3, 76, [.tmp 6 none], z81b⟩
noncomputable def z81p : XPat := ⟨.normal, [(.tv .str), (.tv YHow), (.tv (.arr 2 (.int .i64)))], []⟩
noncomputable def z81x : List XPat := [⟨.ret, [(.tv .bool)], []⟩]
noncomputable def z81t (k : Nat) (d : z81p.D) : Option (XD z81x) := overspilllaw21_CellinTakes k d.1 d.2.1 d.2.2
noncomputable def z81_e (k : Nat) : UEntry := mkU z81p z81x (z81t k) nilU
theorem z81_n (k : Nat) : UNat (z81_e k) := mkU_nat nilU_nat
theorem z81_fu (k : Nat) : FU P GL 3 (z81_e k) :=
  fn_typed (uorc := uorT (z81U1 k)) hmo (T80_ok k).oo (z81U1_k k) (fd := z81f) (AllU.seq (AllU.no (by kernel_rfl)) (AllU.seq (AllU.no (by kernel_rfl)) (AllU.seq (AllU.seq (AllU.unit (uorc := uorT (z81U1 k)) (u := 0) (z81u0_k k)) (AllU.no (by kernel_rfl))) (AllU.no (by kernel_rfl))))) (fn := Tryd.f3) (by kernel_rfl) (by kernel_rfl) (fun d => by kernel_rfl) FU_nil
noncomputable def T81 (k : Nat) : List (Nat × Ent) := (3, ⟨z81_e k⟩) :: T80 k
theorem T81_ok (k : Nat) : TabOK P GL (T81 k) := (T80_ok k).cons (z81_fu k) (z81_n k)
end Go.Proofs.YtlemoepklgfjoaaDoor
