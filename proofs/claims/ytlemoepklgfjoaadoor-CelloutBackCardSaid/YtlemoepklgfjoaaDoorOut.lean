/-
  The functions of the program as typed functions, further on. Printed by a program of mine.
-/
import Derived.Test.YtlemoepklgfjoaaDoorOut2
set_option maxRecDepth 100000
namespace Go.Proofs.YtlemoepklgfjoaaDoor
open Go Go.Av
/-! ### overspill.overspillref09.Take -/
noncomputable def z94U0 (_ : Nat) : List (Nat × Ent) := []
theorem z94U0_k (k : Nat) : UTab (z94U0 k) := UTab.nil
noncomputable def z94u0d : UDef := ⟨[(7, none), (8, none), (9, none), (10, none), (11, none), (12, none)], [7, 8, 12, 33, 34, 35, 36, 37, 38, 39, 40, 41, 42, 43, 44, 45, 46, 47, 48, 49, 50, 51, 52, 53, 54], [((.exit 4), [(7, none), (8, none)])], []⟩
noncomputable def z94u0p : XPat := ⟨.normal, [(.row 0), (.row 1), (.tv (.int .i64)), (.tv (.int .i64)), (.tv (.sl .str)), (.tv (.int .i64))], [(.row .str false), (.row YEvent false)]⟩
noncomputable def z94u0x : List XPat := [⟨(.exit 4), [(.row 0), (.row 1)], [(.row .str false), (.row YEvent false)]⟩]
noncomputable def overspillref09_Takeu0 (k : Nat) : Nat → (Int) → (Int) → (List (List UInt8)) → (Int) → (List (List UInt8)) → (List (DEvent)) → Option (((Unit) × (Unit)) × ((List (List UInt8)) × (List (DEvent))))
  | 0, _, _, _, _, _, _ => none
  | n + 1, x0, x1, x2, x3, x4, x5 =>
    bif (decide (x3 < ((List.length x2 : Nat) : Int))) then
      bif (inR x3 (List.length x2)) then
        bif (decide ((List.length x4) + 1 ≤ rowMax)) then
          bif (decide ((List.length x5) + 1 ≤ rowMax)) then
            Option.bind (overspillref09_Takeu0 k n x0 x1 x2 (wr .i64 (x3 + 1)) (x4 ++ ([(List.getD x2 (Int.toNat x3) ([] : List UInt8))] : List (List UInt8))) (x5 ++ ([((decide (x1 = 1)), (x0, ((wr .i64 (x3 + 1)), ())))] : List (DEvent)))) fun r => some r
          else
            none
        else
          none
      else
        none
    else
    some (((), ()), (x4, x5))
noncomputable def z94u0b : AC :=
  (.seq (.seq (.region [(iO 33 (.mv (.t 12))),
    (iO 34 (.mv (.t 11))),
    (iO 35 (.len (.t 34))),
    (iO 36 (.bin .lss (.t 33) (.t 35)))])
  (.cond (.t 36)
  .skip
  (.exit 4)))
  (.seq (.block 5 (.seq (.region [(iO 39 (.mv (.t 7))),
    (iO 40 (.mv (.t 11))),
    (iO 41 (.mv (.t 12))),
    (iO 42 (.iads .str (.t 40) (.t 41))),
    (iO 43 (.load false 1 (.t 42))),
    (iO 44 (.bslice .str [(.t 43)])),
    (iO 45 (.app .str (.t 39) (.t 44))),
    (iO 7 (.mv (.t 45)))])
  (.region [(iO 46 (.mv (.t 8))),
    (iO 47 (.mv (.t 10))),
    (iO 48 (.bin .eql (.t 47) (nI 1))),
    (iO 49 (.mv (.t 9))),
    (iO 50 (.mv (.t 12))),
    (iO 51 (.bin .add (.t 50) (nI 1))),
    (iO 52 (.build 78 (.tv YEvent) [(0, (.fld 0 0), 1, (.t 48)), (1, (.fld 1 1), 1, (.t 49)), (2, (.fld 2 2), 1, (.t 51))])),
    (iO 53 (.bslice YEvent [(.t 52)])),
    (iO 54 (.app YEvent (.t 46) (.t 53))),
    (iO 8 (.mv (.t 54)))])))
  (.region [(iO 37 (.mv (.t 12))),
    (iO 38 (.bin .add (.t 37) (nI 1))),
    (iO 12 (.mv (.t 38)))])))
noncomputable def z94u0t (k n : Nat) (d : z94u0p.D) : Option (XD z94u0x) := overspillref09_Takeu0 k n d.1.2.2.1 d.1.2.2.2.1 d.1.2.2.2.2.1 d.1.2.2.2.2.2 d.2.1 d.2.2
theorem z94u0_k (k : Nat) : UOK P GL (mkU z94u0p z94u0x (z94u0t k k) nilU) z94u0d true z94u0b :=
  loop_typed (ud := z94u0d) (body := z94u0b) (uorc := uorT (z94U0 k)) hmo (T93_ok k).oo (z94U0_k k) (AllU.no (by kernel_rfl)) (t := z94u0t k) (fun d => by kernel_rfl) (fun n d => by kernel_rfl) k
noncomputable def z94U1 (k : Nat) : List (Nat × Ent) := (0, ⟨mkU z94u0p z94u0x (z94u0t k k) nilU⟩) :: z94U0 k
theorem z94U1_k (k : Nat) : UTab (z94U1 k) := (z94U0_k k).cons (mkU_nat nilU_nat)
noncomputable def z94u1d : UDef := ⟨[(7, none), (8, none), (9, none), (10, none)], [7, 8, 10, 11, 12, 25, 26, 27, 28, 29, 30, 31, 32, 33, 34, 35, 36, 37, 38, 39, 40, 41, 42, 43, 44, 45, 46, 47, 48, 49, 50, 51, 52, 53, 54], [((.exit 2), [(7, none), (8, none)])], []⟩
noncomputable def z94u1p : XPat := ⟨.normal, [(.row 0), (.row 1), (.tv (.int .i64)), (.tv (.int .i64))], [(.row .str false), (.row YEvent false)]⟩
noncomputable def z94u1x : List XPat := [⟨(.exit 2), [(.row 0), (.row 1)], [(.row .str false), (.row YEvent false)]⟩]
noncomputable def overspillref09_Takeu1 (k : Nat) : Nat → (Int) → (Int) → (List (List UInt8)) → (List (DEvent)) → Option (((Unit) × (Unit)) × ((List (List UInt8)) × (List (DEvent))))
  | 0, _, _, _, _ => none
  | n + 1, x0, x1, x2, x3 =>
    bif (decide (x1 < 2)) then
      Option.bind (overspillref09_rows k (decide (x1 = 1)) x0) fun (v392 : List (List UInt8)) =>
      Option.bind (overspillref09_Takeu0 k k x0 x1 v392 0 x2 x3) fun (v393 : ((Unit) × (Unit)) × ((List (List UInt8)) × (List (DEvent)))) =>
      Option.bind (overspillref09_Takeu1 k n x0 (wr .i64 (x1 + 1)) v393.2.1 v393.2.2) fun r => some r
    else
    some (((), ()), (x2, x3))
noncomputable def z94u1b : AC :=
  (.seq (.seq (.region [(iO 25 (.mv (.t 10))),
    (iO 26 (.bin .lss (.t 25) (nI 2)))])
  (.cond (.t 26)
  .skip
  (.exit 2)))
  (.seq (.block 3 (.seq (.region [(iO 29 (.mv (.t 10))),
    (iO 30 (.bin .eql (.t 29) (nI 1))),
    (iO 31 (.mv (.t 9))),
    (iC 32 84 [((.t 30), none), ((.t 31), none)]),
    (iO 11 (.mv (.t 32)))])
  (.seq (.region [(iO 12 (.mv (nI 0)))])
  (.block 4 (.unit 0 z94u0d true z94u0b)))))
  (.region [(iO 27 (.mv (.t 10))),
    (iO 28 (.bin .add (.t 27) (nI 1))),
    (iO 10 (.mv (.t 28)))])))
noncomputable def z94u1t (k n : Nat) (d : z94u1p.D) : Option (XD z94u1x) := overspillref09_Takeu1 k n d.1.2.2.1 d.1.2.2.2 d.2.1 d.2.2
theorem z94u1_k (k : Nat) : UOK P GL (mkU z94u1p z94u1x (z94u1t k k) nilU) z94u1d true z94u1b :=
  loop_typed (ud := z94u1d) (body := z94u1b) (uorc := uorT (z94U1 k)) hmo (T93_ok k).oo (z94U1_k k) (AllU.seq (AllU.no (by kernel_rfl)) (AllU.seq (AllU.block (AllU.seq (AllU.no (by kernel_rfl)) (AllU.seq (AllU.no (by kernel_rfl)) (AllU.block (AllU.unit (uorc := uorT (z94U1 k)) (u := 0) (z94u0_k k)))))) (AllU.no (by kernel_rfl)))) (t := z94u1t k) (fun d => by kernel_rfl) (fun n d => by kernel_rfl) k
noncomputable def z94U2 (k : Nat) : List (Nat × Ent) := (1, ⟨mkU z94u1p z94u1x (z94u1t k k) nilU⟩) :: z94U1 k
theorem z94U2_k (k : Nat) : UTab (z94U2 k) := (z94U1_k k).cons (mkU_nat nilU_nat)
noncomputable def z94u2d : UDef := ⟨[(7, none), (8, none), (9, none)], [7, 8, 9, 10, 11, 12, 21, 22, 23, 24, 25, 26, 27, 28, 29, 30, 31, 32, 33, 34, 35, 36, 37, 38, 39, 40, 41, 42, 43, 44, 45, 46, 47, 48, 49, 50, 51, 52, 53, 54], [((.exit 0), [(7, none), (8, none)])], []⟩
noncomputable def z94u2p : XPat := ⟨.normal, [(.row 0), (.row 1), (.tv (.int .i64))], [(.row .str false), (.row YEvent false)]⟩
noncomputable def z94u2x : List XPat := [⟨(.exit 0), [(.row 0), (.row 1)], [(.row .str false), (.row YEvent false)]⟩]
noncomputable def overspillref09_Takeu2 (k : Nat) : Nat → (Int) → (List (List UInt8)) → (List (DEvent)) → Option (((Unit) × (Unit)) × ((List (List UInt8)) × (List (DEvent))))
  | 0, _, _, _ => none
  | n + 1, x0, x1, x2 =>
    bif (decide (x0 ≤ 63)) then
      Option.bind (overspillref09_Takeu1 k k x0 0 x1 x2) fun (v395 : ((Unit) × (Unit)) × ((List (List UInt8)) × (List (DEvent)))) =>
      Option.bind (overspillref09_Takeu2 k n (wr .i64 (x0 + 1)) v395.2.1 v395.2.2) fun r => some r
    else
    some (((), ()), (x1, x2))
noncomputable def z94u2b : AC :=
  (.seq (.seq (.region [(iO 21 (.mv (.t 9))),
    (iO 22 (.bin .leq (.t 21) (nI 63)))])
  (.cond (.t 22)
  .skip
  (.exit 0)))
  (.seq (.block 1 (.seq (.region [(iO 10 (.mv (nI 0)))])
  (.block 2 (.unit 1 z94u1d true z94u1b))))
  (.region [(iO 23 (.mv (.t 9))),
    (iO 24 (.bin .add (.t 23) (nI 1))),
    (iO 9 (.mv (.t 24)))])))
noncomputable def z94u2t (k n : Nat) (d : z94u2p.D) : Option (XD z94u2x) := overspillref09_Takeu2 k n d.1.2.2 d.2.1 d.2.2
theorem z94u2_k (k : Nat) : UOK P GL (mkU z94u2p z94u2x (z94u2t k k) nilU) z94u2d true z94u2b :=
  loop_typed (ud := z94u2d) (body := z94u2b) (uorc := uorT (z94U2 k)) hmo (T93_ok k).oo (z94U2_k k) (AllU.seq (AllU.no (by kernel_rfl)) (AllU.seq (AllU.block (AllU.seq (AllU.no (by kernel_rfl)) (AllU.block (AllU.unit (uorc := uorT (z94U2 k)) (u := 1) (z94u1_k k))))) (AllU.no (by kernel_rfl)))) (t := z94u2t k) (fun d => by kernel_rfl) (fun n d => by kernel_rfl) k
noncomputable def z94U3 (k : Nat) : List (Nat × Ent) := (2, ⟨mkU z94u2p z94u2x (z94u2t k k) nilU⟩) :: z94U2 k
theorem z94U3_k (k : Nat) : UTab (z94U3 k) := (z94U2_k k).cons (mkU_nat nilU_nat)
noncomputable def z94u3d : UDef := ⟨[(16, none), (83, none)], [84, 85, 86, 87], [(.normal, [])], []⟩
noncomputable def z94u3p : XPat := ⟨.normal, [(.ptr 0 []), (.tv .bool)], [(.box (.tv YEvent))]⟩
noncomputable def z94u3x : List XPat := [⟨.normal, [], [(.box (.tv YEvent))]⟩]
noncomputable def overspillref09_Takeu3 (k : Nat) (x0 : Bool) (x1 : DEvent) : Option ((Unit) × (DEvent)) :=
  bif x0 then
    some ((), (x1.1, (x1.2.1, ((wr .i64 (0 - x1.2.2.1)), x1.2.2.2))))
  else
  some ((), x1)
noncomputable def z94u3b : AC :=
  (.cond (.t 83)
  (.region [(iO 84 (.fad 2 2 (.t 16))),
      (iO 85 (.load false 1 (.t 84))),
      (iO 86 (.un .neg (.t 85))),
      (iO 87 (.fad 2 2 (.t 16))),
      (iS (.store 1 none (.t 87) (.t 86)))])
  .skip)
noncomputable def z94u3t (k : Nat) (d : z94u3p.D) : Option (XD z94u3x) := overspillref09_Takeu3 k d.1.2 d.2
theorem z94u3_k (k : Nat) : UOK P GL (mkU z94u3p z94u3x (z94u3t k) nilU) z94u3d false z94u3b :=
  unit_typed (ud := z94u3d) (body := z94u3b) (uorc := uorT (z94U3 k)) hmo (T93_ok k).oo (z94U3_k k) (AllU.no (by kernel_rfl)) (fun d => by kernel_rfl)
noncomputable def z94U4 (k : Nat) : List (Nat × Ent) := (3, ⟨mkU z94u3p z94u3x (z94u3t k) nilU⟩) :: z94U3 k
theorem z94U4_k (k : Nat) : UTab (z94U4 k) := (z94U3_k k).cons (mkU_nat nilU_nat)
noncomputable def z94u4d : UDef := ⟨[(17, none), (119, none)], [120, 121, 122, 123], [(.normal, [])], []⟩
noncomputable def z94u4p : XPat := ⟨.normal, [(.ptr 0 []), (.tv .bool)], [(.box (.tv YEvent))]⟩
noncomputable def z94u4x : List XPat := [⟨.normal, [], [(.box (.tv YEvent))]⟩]
noncomputable def overspillref09_Takeu4 (k : Nat) (x0 : Bool) (x1 : DEvent) : Option ((Unit) × (DEvent)) :=
  bif x0 then
    some ((), (x1.1, (x1.2.1, ((wr .i64 (x1.2.2.1 - 256)), x1.2.2.2))))
  else
  some ((), x1)
noncomputable def z94u4b : AC :=
  (.cond (.t 119)
  (.region [(iO 120 (.fad 2 2 (.t 17))),
      (iO 121 (.load false 1 (.t 120))),
      (iO 122 (.bin .sub (.t 121) (nI 256))),
      (iO 123 (.fad 2 2 (.t 17))),
      (iS (.store 1 none (.t 123) (.t 122)))])
  .skip)
noncomputable def z94u4t (k : Nat) (d : z94u4p.D) : Option (XD z94u4x) := overspillref09_Takeu4 k d.1.2 d.2
theorem z94u4_k (k : Nat) : UOK P GL (mkU z94u4p z94u4x (z94u4t k) nilU) z94u4d false z94u4b :=
  unit_typed (ud := z94u4d) (body := z94u4b) (uorc := uorT (z94U4 k)) hmo (T93_ok k).oo (z94U4_k k) (AllU.no (by kernel_rfl)) (fun d => by kernel_rfl)
noncomputable def z94U5 (k : Nat) : List (Nat × Ent) := (4, ⟨mkU z94u4p z94u4x (z94u4t k) nilU⟩) :: z94U4 k
theorem z94U5_k (k : Nat) : UTab (z94U5 k) := (z94U4_k k).cons (mkU_nat nilU_nat)
noncomputable def z94u5d : UDef := ⟨[(17, none)], [124, 125, 126, 127, 128, 129, 130, 131, 132, 133, 134, 135, 136, 137], [(.normal, [(137, none)])], []⟩
noncomputable def z94u5p : XPat := ⟨.normal, [(.ptr 0 [])], [(.box (.tv YEvent))]⟩
noncomputable def z94u5x : List XPat := [⟨.normal, [(.tv .bool)], [(.box (.tv YEvent))]⟩]
noncomputable def overspillref09_Takeu5 (k : Nat) (x0 : DEvent) : Option ((Bool) × (DEvent)) :=
  Option.bind (overspillref09_Right k x0) fun (v415 : Bool) =>
  bif (!v415) then
    some (true, x0)
  else
  Option.bind (overspillref09_amount k x0.2.2.1) fun (v416 : Int) =>
  Option.bind (overspillref09_has k x0.1 x0.2.1 v416) fun (v417 : List UInt8) =>
  some ((!(decide (v417 = ([] : List UInt8)))), x0)
noncomputable def z94u5b : AC :=
  (.draw [(iO 124 (.load true 3 (.t 17))),
    (iCa 125 85 [((.t 124), some YEvent)] [0]),
    (iOa 126 (.un .not (.t 125)) [0, 1]),
    (iOa 127 (.mv (.t 126)) [0, 1, 2]),
    ⟨some 128, some (3, 127, false), (.op (.fad 0 0 (.t 17))), (rg [0, 4])⟩,
    ⟨some 129, some (3, 127, false), (.op (.load false 1 (.t 128))), (rg [0, 5])⟩,
    ⟨some 130, some (3, 127, false), (.op (.fad 1 1 (.t 17))), (rg [0, 4])⟩,
    ⟨some 131, some (3, 127, false), (.op (.load false 1 (.t 130))), [0, 1, 2, 3, 6]⟩,
    ⟨some 132, some (3, 127, false), (.op (.fad 2 2 (.t 17))), (rg [0, 4])⟩,
    ⟨some 133, some (3, 127, false), (.op (.load false 1 (.t 132))), [0, 1, 2, 3, 8]⟩,
    ⟨some 134, some (3, 127, false), (.call (.c (.fn 87 .nil .nil)) [((.t 133), none)]), (rg [0, 4, 8, 2])⟩,
    ⟨some 135, some (3, 127, false), (.call (.c (.fn 86 .nil .nil)) [((.t 129), none), ((.t 131), none), ((.t 134), none)]), (rg [0, 11])⟩,
    ⟨some 136, some (3, 127, false), (.op (.bin .neq (.t 135) (.c (.tv .str (([] : List UInt8) : List UInt8))))), (rg [0, 12])⟩,
    (iOa 137 (.pick (.t 127) (.c (.tv .bool (true : Bool))) (.t 136)) (rg [0, 13]))])
noncomputable def z94u5t (k : Nat) (d : z94u5p.D) : Option (XD z94u5x) := overspillref09_Takeu5 k d.2
theorem z94u5_k (k : Nat) : UOK P GL (mkU z94u5p z94u5x (z94u5t k) nilU) z94u5d false z94u5b :=
  unit_typed (ud := z94u5d) (body := z94u5b) (uorc := uorT (z94U5 k)) hmo (T93_ok k).oo (z94U5_k k) (AllU.no (by kernel_rfl)) (fun d => by kernel_rfl)
noncomputable def z94U6 (k : Nat) : List (Nat × Ent) := (5, ⟨mkU z94u5p z94u5x (z94u5t k) nilU⟩) :: z94U5 k
theorem z94U6_k (k : Nat) : UTab (z94U6 k) := (z94U5_k k).cons (mkU_nat nilU_nat)
noncomputable def overspillref09_Take (k : Nat) (x0 : List UInt8) (x1 : Int) : Option ((DEvent) × ((Int) × ((Int) × (Unit)))) :=
  Option.bind (overspillref09_Takeu2 k k 0 ([([48, 48, 48, 48, 48, 49, 49] : List UInt8)] : List (List UInt8)) ([(false, (0, (0, ())))] : List (DEvent))) fun (v396 : ((Unit) × (Unit)) × ((List (List UInt8)) × (List (DEvent)))) =>
  Option.bind (overspillref05_Take k v396.2.1 x0 x1) fun (v405 : (Int) × ((Int) × ((Int) × (Unit)))) =>
  bif (!(decide (v405.2.2.1 = 0))) then
    some ((false, (0, (0, ()))), (x1, (v405.2.2.1, ())))
  else
  bif (decide ((0 : Int) < v405.1)) then
    bif (decide (v405.2.1 = ((List.length x0 : Nat) : Int))) then
      some ((false, (0, (0, ()))), (x1, (2, ())))
    else
    bif (inR v405.1 (List.length v396.2.2)) then
      bif (inR v405.2.1 (List.length x0)) then
        Option.bind (overspillref09_Takeu3 k (decide (((UInt8.toNat (List.getD x0 (Int.toNat v405.2.1) 0) : Nat) : Int) = 49)) (List.getD v396.2.2 (Int.toNat v405.1) (false, (0, (0, ()))))) fun (v406 : (Unit) × (DEvent)) =>
        some (v406.2, ((wr .i64 (v405.2.1 + 1)), (0, ())))
      else
        none
    else
      none
  else
  bif (decide ((wr .i64 (((List.length x0 : Nat) : Int) - v405.2.1)) < 15)) then
    some ((false, (0, (0, ()))), (x1, (2, ())))
  else
  bif (inR v405.2.1 (List.length x0)) then
    bif (decide ((0 : Int) ≤ (wr .i64 (v405.2.1 + 1)) ∧ (wr .i64 (v405.2.1 + 1)) ≤ (wr .i64 (v405.2.1 + 7)) ∧ (wr .i64 (v405.2.1 + 7)) ≤ (((List.length x0) : Nat) : Int))) then
      Option.bind (overspillref02_Number k (List.drop (Int.toNat (wr .i64 (v405.2.1 + 1))) (List.take (Int.toNat (wr .i64 (v405.2.1 + 7))) x0))) fun (v408 : Int) =>
      bif (decide ((0 : Int) ≤ (wr .i64 (v405.2.1 + 7)) ∧ (wr .i64 (v405.2.1 + 7)) ≤ (wr .i64 (v405.2.1 + 15)) ∧ (wr .i64 (v405.2.1 + 15)) ≤ (((List.length x0) : Nat) : Int))) then
        Option.bind (overspillref02_Number k (List.drop (Int.toNat (wr .i64 (v405.2.1 + 7))) (List.take (Int.toNat (wr .i64 (v405.2.1 + 15))) x0))) fun (v409 : Int) =>
        Option.bind (overspillref09_Takeu4 k (decide ((127 : Int) < v409)) ((decide (((UInt8.toNat (List.getD x0 (Int.toNat v405.2.1) 0) : Nat) : Int) = 49)), (v408, (v409, ())))) fun (v410 : (Unit) × (DEvent)) =>
        Option.bind (overspillref09_Takeu5 k v410.2) fun (v418 : (Bool) × (DEvent)) =>
        bif v418.1 then
          some ((false, (0, (0, ()))), (x1, (7, ())))
        else
        some (v418.2, ((wr .i64 (v405.2.1 + 15)), (0, ())))
      else
        none
    else
      none
  else
    none
noncomputable def z94b : AC :=
  (.seq (.region [(iO 4 (.alloc 78 (.tv YEvent))),
    (iO 5 (.mv (nI 0))),
    (iO 6 (.mv (nI 0)))])
  (.seq (.region [(iO 18 (.bslice .str [(.c (.tv .str (([48, 48, 48, 48, 48, 49, 49] : List UInt8) : List UInt8)))])),
    (iO 7 (.mv (.t 18)))])
  (.seq (.region [(iO 19 (.build 78 (.tv YEvent) [])),
    (iO 20 (.bslice YEvent [(.t 19)])),
    (iO 8 (.mv (.t 20)))])
  (.seq (.seq (.region [(iO 9 (.mv (nI 0)))])
  (.block 0 (.unit 2 z94u2d true z94u2b)))
  (.seq (.region [(iO 56 (.mv (.t 7))),
    (iO 57 (.mv (.t 0))),
    (iO 58 (.mv (.t 1))),
    (iC 59 58 [((.t 56), some (.sl .str)), ((.t 57), none), ((.t 58), none)]),
    (iO 55 (.mv (.t 59))),
    (iO 60 (.ext (.t 55) 0)),
    (iO 61 (.ext (.t 55) 1)),
    (iO 62 (.ext (.t 55) 2)),
    (iO 13 (.mv (.t 60))),
    (iO 14 (.mv (.t 61))),
    (iO 15 (.mv (.t 62)))])
  (.seq (.seq (.region [(iO 63 (.mv (.t 15))),
    (iO 64 (.bin .neq (.t 63) (nI 0)))])
  (.cond (.t 64)
  (.seq (.region [(iO 65 (.build 78 (.tv YEvent) [])),
      (iO 66 (.mv (.t 1))),
      (iO 67 (.mv (.t 15))),
      (iS (.store 3 none (.t 4) (.t 65))),
      (iO 5 (.mv (.t 66))),
      (iO 6 (.mv (.t 67)))])
    .ret)
  .skip))
  (.seq (.seq (.region [(iO 68 (.mv (.t 13))),
    (iO 69 (.bin .gtr (.t 68) (nI 0)))])
  (.cond (.t 69)
  (.seq (.seq (.region [(iO 70 (.mv (.t 14))),
      (iO 71 (.mv (.t 0))),
      (iO 72 (.lens (.t 71))),
      (iO 73 (.bin .eql (.t 70) (.t 72)))])
    (.cond (.t 73)
    (.seq (.region [(iO 74 (.build 78 (.tv YEvent) [])),
        (iO 75 (.mv (.t 1))),
        (iS (.store 3 none (.t 4) (.t 74))),
        (iO 5 (.mv (.t 75))),
        (iO 6 (.mv (nI 2)))])
      .ret)
    .skip))
    (.seq (.region [(iO 76 (.mv (.t 8))),
      (iO 77 (.mv (.t 13))),
      (iO 78 (.iads YEvent (.t 76) (.t 77))),
      (iO 79 (.load true 3 (.t 78))),
      (iO 16 (.alloc 78 (.tv YEvent))),
      (iS (.store 3 none (.t 16) (.t 79)))])
    (.seq (.seq (.region [(iO 80 (.mv (.t 0))),
      (iO 81 (.mv (.t 14))),
      (iO 82 (.ixs (.t 80) (.t 81))),
      (iO 83 (.bin .eql (.t 82) (.c (.tv (.int .u8) (49 : Int)))))])
    (.unit 3 z94u3d false z94u3b))
    (.seq (.region [(iO 88 (.load true 3 (.t 16))),
      (iO 89 (.mv (.t 14))),
      (iO 90 (.bin .add (.t 89) (nI 1))),
      (iS (.store 3 none (.t 4) (.t 88))),
      (iO 5 (.mv (.t 90))),
      (iO 6 (.mv (nI 0)))])
    .ret))))
  .skip))
  (.seq (.seq (.region [(iO 91 (.mv (.t 0))),
    (iO 92 (.lens (.t 91))),
    (iO 93 (.mv (.t 14))),
    (iO 94 (.bin .sub (.t 92) (.t 93))),
    (iO 95 (.bin .lss (.t 94) (nI 15)))])
  (.cond (.t 95)
  (.seq (.region [(iO 96 (.build 78 (.tv YEvent) [])),
      (iO 97 (.mv (.t 1))),
      (iS (.store 3 none (.t 4) (.t 96))),
      (iO 5 (.mv (.t 97))),
      (iO 6 (.mv (nI 2)))])
    .ret)
  .skip))
  (.seq (.draw [(iO 98 (.mv (.t 0))),
    (iO 99 (.mv (.t 14))),
    (iOa 100 (.ixs (.t 98) (.t 99)) [0, 1]),
    (iOa 101 (.bin .eql (.t 100) (.c (.tv (.int .u8) (49 : Int)))) [0, 1, 2]),
    (iO 102 (.mv (.t 0))),
    (iO 103 (.mv (.t 14))),
    (iOa 104 (.bin .add (.t 103) (nI 1)) [5]),
    (iO 105 (.mv (.t 14))),
    (iOa 106 (.bin .add (.t 105) (nI 7)) [7]),
    (iOa 107 (.slis (.t 102) (some (.t 104)) (some (.t 106))) (rg [4, 5])),
    (iCa 108 60 [((.t 107), none)] (rg [4, 6])),
    (iO 109 (.mv (.t 0))),
    (iO 110 (.mv (.t 14))),
    (iOa 111 (.bin .add (.t 110) (nI 7)) [12]),
    (iO 112 (.mv (.t 14))),
    (iOa 113 (.bin .add (.t 112) (nI 15)) [14]),
    (iOa 114 (.slis (.t 109) (some (.t 111)) (some (.t 113))) (rg [11, 5])),
    (iCa 115 60 [((.t 114), none)] (rg [4, 13])),
    (iOa 116 (.build 78 (.tv YEvent) [(0, (.fld 0 0), 1, (.t 101)), (1, (.fld 1 1), 1, (.t 108)), (2, (.fld 2 2), 1, (.t 115))]) (rg [0, 18])),
    (iO 17 (.alloc 78 (.tv YEvent))),
    (iSa (.store 3 none (.t 17) (.t 116)) (rg [0, 20]))])
  (.seq (.seq (.region [(iO 117 (.fad 2 2 (.t 17))),
    (iO 118 (.load false 1 (.t 117))),
    (iO 119 (.bin .gtr (.t 118) (nI 127)))])
  (.unit 4 z94u4d false z94u4b))
  (.seq (.seq (.unit 5 z94u5d false z94u5b)
  (.cond (.t 137)
  (.seq (.region [(iO 138 (.build 78 (.tv YEvent) [])),
      (iO 139 (.mv (.t 1))),
      (iS (.store 3 none (.t 4) (.t 138))),
      (iO 5 (.mv (.t 139))),
      (iO 6 (.mv (nI 7)))])
    .ret)
  .skip))
  (.seq (.region [(iO 140 (.load true 3 (.t 17))),
    (iO 141 (.mv (.t 14))),
    (iO 142 (.bin .add (.t 141) (nI 15))),
    (iS (.store 3 none (.t 4) (.t 140))),
    (iO 5 (.mv (.t 142))),
    (iO 6 (.mv (nI 0)))])
  .ret))))))))))))
noncomputable def z94f : FDef := ⟨2, 143, [.cell 4 3 true (some YEvent), .tmp 5 none, .tmp 6 none], z94b⟩
noncomputable def z94p : XPat := ⟨.normal, [(.tv .str), (.tv (.int .i64))], []⟩
noncomputable def z94x : List XPat := [⟨.ret, [(.tup (.cons (.tv YEvent) (.cons (.tv (.int .i64)) (.cons (.tv (.int .i64)) .nil))))], []⟩]
noncomputable def z94t (k : Nat) (d : z94p.D) : Option (XD z94x) := overspillref09_Take k d.1 d.2
noncomputable def z94_e (k : Nat) : UEntry := mkU z94p z94x (z94t k) nilU
theorem z94_n (k : Nat) : UNat (z94_e k) := mkU_nat nilU_nat
theorem z94_fu (k : Nat) : FU P GL 63 (z94_e k) :=
  fn_typed (uorc := uorT (z94U6 k)) hmo (T93_ok k).oo (z94U6_k k) (fd := z94f) (AllU.seq (AllU.no (by kernel_rfl)) (AllU.seq (AllU.no (by kernel_rfl)) (AllU.seq (AllU.no (by kernel_rfl)) (AllU.seq (AllU.seq (AllU.no (by kernel_rfl)) (AllU.block (AllU.unit (uorc := uorT (z94U6 k)) (u := 2) (z94u2_k k)))) (AllU.seq (AllU.no (by kernel_rfl)) (AllU.seq (AllU.no (by kernel_rfl)) (AllU.seq (AllU.seq (AllU.no (by kernel_rfl)) (AllU.cond (AllU.seq (AllU.no (by kernel_rfl)) (AllU.seq (AllU.no (by kernel_rfl)) (AllU.seq (AllU.seq (AllU.no (by kernel_rfl)) (AllU.unit (uorc := uorT (z94U6 k)) (u := 3) (z94u3_k k))) (AllU.no (by kernel_rfl))))) (AllU.no (by kernel_rfl)))) (AllU.seq (AllU.no (by kernel_rfl)) (AllU.seq (AllU.no (by kernel_rfl)) (AllU.seq (AllU.seq (AllU.no (by kernel_rfl)) (AllU.unit (uorc := uorT (z94U6 k)) (u := 4) (z94u4_k k))) (AllU.seq (AllU.seq (AllU.unit (uorc := uorT (z94U6 k)) (u := 5) (z94u5_k k)) (AllU.no (by kernel_rfl))) (AllU.no (by kernel_rfl))))))))))))) (fn := Tryd.f63) (by kernel_rfl) (by kernel_rfl) (fun d => by kernel_rfl) FU_nil
noncomputable def T94 (k : Nat) : List (Nat × Ent) := (63, ⟨z94_e k⟩) :: T93 k
theorem T94_ok (k : Nat) : TabOK P GL (T94 k) := (T93_ok k).cons (z94_fu k) (z94_n k)
/-! ### overspill.overspillref08.amounts -/
noncomputable def z95U0 (_ : Nat) : List (Nat × Ent) := []
theorem z95U0_k (k : Nat) : UTab (z95U0 k) := UTab.nil
noncomputable def overspillref08_amounts (k : Nat) : Option (List (List UInt8)) :=
  some ([([49] : List UInt8), ([48, 49] : List UInt8), ([48, 48, 49] : List UInt8), ([48, 48, 48, 49] : List UInt8), ([48, 48, 48, 48, 49, 49] : List UInt8), ([48, 48, 48, 48, 49, 48, 49] : List UInt8), ([48, 48, 48, 48, 49, 48, 48] : List UInt8), ([48, 48, 48, 48, 48, 49, 49] : List UInt8), ([48, 48, 48, 48, 48, 49, 48, 49, 49] : List UInt8), ([48, 48, 48, 48, 48, 49, 48, 49, 48] : List UInt8), ([48, 48, 48, 48, 48, 49, 48, 48, 49] : List UInt8), ([48, 48, 48, 48, 48, 49, 48, 48, 48, 49] : List UInt8), ([48, 48, 48, 48, 48, 49, 48, 48, 48, 48] : List UInt8), ([48, 48, 48, 48, 48, 48, 49, 49, 49, 49] : List UInt8), ([48, 48, 48, 48, 48, 48, 49, 49, 49, 48] : List UInt8), ([48, 48, 48, 48, 48, 48, 49, 49, 48, 49] : List UInt8), ([48, 48, 48, 48, 48, 48, 49, 49, 48, 48] : List UInt8), ([48, 48, 48, 48, 48, 48, 49, 48, 49, 49] : List UInt8), ([48, 48, 48, 48, 48, 48, 49, 48, 49, 48] : List UInt8), ([48, 48, 48, 48, 48, 48, 49, 48, 48, 49] : List UInt8), ([48, 48, 48, 48, 48, 48, 49, 48, 48, 48] : List UInt8), ([48, 48, 48, 48, 48, 48, 48, 49, 49, 49] : List UInt8), ([48, 48, 48, 48, 48, 48, 48, 49, 49, 48] : List UInt8), ([48, 48, 48, 48, 48, 48, 48, 49, 48, 49] : List UInt8), ([48, 48, 48, 48, 48, 48, 48, 49, 48, 48] : List UInt8), ([48, 48, 48, 48, 48, 48, 48, 48, 49, 49, 49] : List UInt8), ([48, 48, 48, 48, 48, 48, 48, 48, 49, 49, 48] : List UInt8), ([48, 48, 48, 48, 48, 48, 48, 48, 49, 48, 49] : List UInt8), ([48, 48, 48, 48, 48, 48, 48, 48, 49, 48, 48] : List UInt8), ([48, 48, 48, 48, 48, 48, 48, 48, 48, 49, 49] : List UInt8), ([48, 48, 48, 48, 48, 48, 48, 48, 48, 49, 48] : List UInt8), ([48, 48, 48, 48, 48, 48, 48, 48, 48, 48, 49, 49] : List UInt8), ([48, 48, 48, 48, 48, 48, 48, 48, 48, 48, 49, 48] : List UInt8)] : List (List UInt8))
noncomputable def z95b : AC :=
  (.seq (.region [(iO 0 (.nrow .str))])
  (.seq (.region [(iO 1 (.bslice .str [(.c (.tv .str (([49] : List UInt8) : List UInt8))), (.c (.tv .str (([48, 49] : List UInt8) : List UInt8))), (.c (.tv .str (([48, 48, 49] : List UInt8) : List UInt8))), (.c (.tv .str (([48, 48, 48, 49] : List UInt8) : List UInt8))), (.c (.tv .str (([48, 48, 48, 48, 49, 49] : List UInt8) : List UInt8))), (.c (.tv .str (([48, 48, 48, 48, 49, 48, 49] : List UInt8) : List UInt8))), (.c (.tv .str (([48, 48, 48, 48, 49, 48, 48] : List UInt8) : List UInt8))), (.c (.tv .str (([48, 48, 48, 48, 48, 49, 49] : List UInt8) : List UInt8))), (.c (.tv .str (([48, 48, 48, 48, 48, 49, 48, 49, 49] : List UInt8) : List UInt8))), (.c (.tv .str (([48, 48, 48, 48, 48, 49, 48, 49, 48] : List UInt8) : List UInt8))), (.c (.tv .str (([48, 48, 48, 48, 48, 49, 48, 48, 49] : List UInt8) : List UInt8))), (.c (.tv .str (([48, 48, 48, 48, 48, 49, 48, 48, 48, 49] : List UInt8) : List UInt8))), (.c (.tv .str (([48, 48, 48, 48, 48, 49, 48, 48, 48, 48] : List UInt8) : List UInt8))), (.c (.tv .str (([48, 48, 48, 48, 48, 48, 49, 49, 49, 49] : List UInt8) : List UInt8))), (.c (.tv .str (([48, 48, 48, 48, 48, 48, 49, 49, 49, 48] : List UInt8) : List UInt8))), (.c (.tv .str (([48, 48, 48, 48, 48, 48, 49, 49, 48, 49] : List UInt8) : List UInt8))), (.c (.tv .str (([48, 48, 48, 48, 48, 48, 49, 49, 48, 48] : List UInt8) : List UInt8))), (.c (.tv .str (([48, 48, 48, 48, 48, 48, 49, 48, 49, 49] : List UInt8) : List UInt8))), (.c (.tv .str (([48, 48, 48, 48, 48, 48, 49, 48, 49, 48] : List UInt8) : List UInt8))), (.c (.tv .str (([48, 48, 48, 48, 48, 48, 49, 48, 48, 49] : List UInt8) : List UInt8))), (.c (.tv .str (([48, 48, 48, 48, 48, 48, 49, 48, 48, 48] : List UInt8) : List UInt8))), (.c (.tv .str (([48, 48, 48, 48, 48, 48, 48, 49, 49, 49] : List UInt8) : List UInt8))), (.c (.tv .str (([48, 48, 48, 48, 48, 48, 48, 49, 49, 48] : List UInt8) : List UInt8))), (.c (.tv .str (([48, 48, 48, 48, 48, 48, 48, 49, 48, 49] : List UInt8) : List UInt8))), (.c (.tv .str (([48, 48, 48, 48, 48, 48, 48, 49, 48, 48] : List UInt8) : List UInt8))), (.c (.tv .str (([48, 48, 48, 48, 48, 48, 48, 48, 49, 49, 49] : List UInt8) : List UInt8))), (.c (.tv .str (([48, 48, 48, 48, 48, 48, 48, 48, 49, 49, 48] : List UInt8) : List UInt8))), (.c (.tv .str (([48, 48, 48, 48, 48, 48, 48, 48, 49, 48, 49] : List UInt8) : List UInt8))), (.c (.tv .str (([48, 48, 48, 48, 48, 48, 48, 48, 49, 48, 48] : List UInt8) : List UInt8))), (.c (.tv .str (([48, 48, 48, 48, 48, 48, 48, 48, 48, 49, 49] : List UInt8) : List UInt8))), (.c (.tv .str (([48, 48, 48, 48, 48, 48, 48, 48, 48, 49, 48] : List UInt8) : List UInt8))), (.c (.tv .str (([48, 48, 48, 48, 48, 48, 48, 48, 48, 48, 49, 49] : List UInt8) : List UInt8))), (.c (.tv .str (([48, 48, 48, 48, 48, 48, 48, 48, 48, 48, 49, 48] : List UInt8) : List UInt8)))])),
    (iO 0 (.mv (.t 1)))])
  .ret))
noncomputable def z95f : FDef := ⟨0, 2, [.tmp 0 (some (.sl .str))], z95b⟩
noncomputable def z95p : XPat := ⟨.normal, [], []⟩
noncomputable def z95x : List XPat := [⟨.ret, [(.tv (.sl .str))], []⟩]
noncomputable def z95t (k : Nat) (d : z95p.D) : Option (XD z95x) := overspillref08_amounts k
noncomputable def z95_e (k : Nat) : UEntry := mkU z95p z95x (z95t k) nilU
theorem z95_n (k : Nat) : UNat (z95_e k) := mkU_nat nilU_nat
theorem z95_fu (k : Nat) : FU P GL 83 (z95_e k) :=
  fn_typed (uorc := uorT (z95U0 k)) hmo (T94_ok k).oo (z95U0_k k) (fd := z95f) (AllU.no (by kernel_rfl)) (fn := Tryd.f83) (by kernel_rfl) (by kernel_rfl) (fun d => by kernel_rfl) FU_nil
noncomputable def T95 (k : Nat) : List (Nat × Ent) := (83, ⟨z95_e k⟩) :: T94 k
theorem T95_ok (k : Nat) : TabOK P GL (T95 k) := (T94_ok k).cons (z95_fu k) (z95_n k)
/-! ### overspill.overspillref08.Row -/
noncomputable def z96U0 (_ : Nat) : List (Nat × Ent) := []
theorem z96U0_k (k : Nat) : UTab (z96U0 k) := UTab.nil
noncomputable def z96u0d : UDef := ⟨[(0, none)], [4, 5, 6, 7, 8, 9], [(.normal, [(9, none)])], []⟩
noncomputable def z96u0p : XPat := ⟨.normal, [(.tv (.int .i64))], []⟩
noncomputable def z96u0x : List XPat := [⟨.normal, [(.tv .bool)], []⟩]
noncomputable def overspillref08_Rowu0 (k : Nat) (x0 : Int) : Option (Bool) :=
  bif (decide (x0 < (-32))) then
    some true
  else
  some (decide ((31 : Int) < x0))
noncomputable def z96u0b : AC :=
  (.region [(iO 4 (.mv (.t 0))),
    (iO 5 (.bin .lss (.t 4) (nI (-32)))),
    (iO 6 (.mv (.t 5))),
    ⟨some 7, some (2, 6, false), (.op (.mv (.t 0))), []⟩,
    ⟨some 8, some (2, 6, false), (.op (.bin .gtr (.t 7) (nI 31))), []⟩,
    (iO 9 (.pick (.t 6) (.c (.tv .bool (true : Bool))) (.t 8)))])
noncomputable def z96u0t (k : Nat) (d : z96u0p.D) : Option (XD z96u0x) := overspillref08_Rowu0 k d
theorem z96u0_k (k : Nat) : UOK P GL (mkU z96u0p z96u0x (z96u0t k) nilU) z96u0d false z96u0b :=
  unit_typed (ud := z96u0d) (body := z96u0b) (uorc := uorT (z96U0 k)) hmo (T95_ok k).oo (z96U0_k k) (AllU.no (by kernel_rfl)) (fun d => by kernel_rfl)
noncomputable def z96U1 (k : Nat) : List (Nat × Ent) := (0, ⟨mkU z96u0p z96u0x (z96u0t k) nilU⟩) :: z96U0 k
theorem z96U1_k (k : Nat) : UTab (z96U1 k) := (z96U0_k k).cons (mkU_nat nilU_nat)
noncomputable def overspillref08_Row (k : Nat) (x0 : Int) : Option (List UInt8) :=
  Option.bind (overspillref08_Rowu0 k x0) fun (v419 : Bool) =>
  bif v419 then
    some ([] : List UInt8)
  else
  Option.bind (overspillref08_amounts k) fun (v420 : List (List UInt8)) =>
  bif (decide (x0 < 0)) then
    bif (inR (wr .i64 (0 - x0)) (List.length v420)) then
      bif (decide ((List.length (List.getD v420 (Int.toNat (wr .i64 (0 - x0))) ([] : List UInt8))) + 1 ≤ strMax)) then
        some ((List.getD v420 (Int.toNat (wr .i64 (0 - x0))) ([] : List UInt8)) ++ ([49] : List UInt8))
      else
        none
    else
      none
  else
  bif (decide ((0 : Int) < x0)) then
    bif (inR x0 (List.length v420)) then
      bif (decide ((List.length (List.getD v420 (Int.toNat x0) ([] : List UInt8))) + 1 ≤ strMax)) then
        some ((List.getD v420 (Int.toNat x0) ([] : List UInt8)) ++ ([48] : List UInt8))
      else
        none
    else
      none
  else
  bif (inR 0 (List.length v420)) then
    some (List.getD v420 0 ([] : List UInt8))
  else
    none
noncomputable def z96b : AC :=
  (.seq (.region [(iO 2 (.mv (.c (.tv .str (([] : List UInt8) : List UInt8)))))])
  (.seq (.seq (.unit 0 z96u0d false z96u0b)
  (.cond (.t 9)
  (.seq (.region [(iO 2 (.mv (.c (.tv .str (([] : List UInt8) : List UInt8)))))])
    .ret)
  .skip))
  (.seq (.region [(iC 10 83 []),
    (iO 3 (.mv (.t 10)))])
  (.seq (.seq (.region [(iO 11 (.mv (.t 0))),
    (iO 12 (.bin .lss (.t 11) (nI 0)))])
  (.cond (.t 12)
  (.seq (.region [(iO 13 (.mv (.t 3))),
      (iO 14 (.mv (.t 0))),
      (iO 15 (.un .neg (.t 14))),
      (iO 16 (.iads .str (.t 13) (.t 15))),
      (iO 17 (.load false 1 (.t 16))),
      (iO 18 (.bin .add (.t 17) (.c (.tv .str (([49] : List UInt8) : List UInt8))))),
      (iO 2 (.mv (.t 18)))])
    .ret)
  .skip))
  (.seq (.seq (.region [(iO 19 (.mv (.t 0))),
    (iO 20 (.bin .gtr (.t 19) (nI 0)))])
  (.cond (.t 20)
  (.seq (.region [(iO 21 (.mv (.t 3))),
      (iO 22 (.mv (.t 0))),
      (iO 23 (.iads .str (.t 21) (.t 22))),
      (iO 24 (.load false 1 (.t 23))),
      (iO 25 (.bin .add (.t 24) (.c (.tv .str (([48] : List UInt8) : List UInt8))))),
      (iO 2 (.mv (.t 25)))])
    .ret)
  .skip))
  (.seq (.region [(iO 26 (.mv (.t 3))),
    (iO 27 (.iads .str (.t 26) (nI 0))),
    (iO 28 (.load false 1 (.t 27))),
    (iO 2 (.mv (.t 28)))])
  .ret))))))
noncomputable def z96f : FDef := ⟨1, 29, [.tmp 2 none], z96b⟩
noncomputable def z96p : XPat := ⟨.normal, [(.tv (.int .i64))], []⟩
noncomputable def z96x : List XPat := [⟨.ret, [(.tv .str)], []⟩]
noncomputable def z96t (k : Nat) (d : z96p.D) : Option (XD z96x) := overspillref08_Row k d
noncomputable def z96_e (k : Nat) : UEntry := mkU z96p z96x (z96t k) nilU
theorem z96_n (k : Nat) : UNat (z96_e k) := mkU_nat nilU_nat
theorem z96_fu (k : Nat) : FU P GL 61 (z96_e k) :=
  fn_typed (uorc := uorT (z96U1 k)) hmo (T95_ok k).oo (z96U1_k k) (fd := z96f) (AllU.seq (AllU.no (by kernel_rfl)) (AllU.seq (AllU.seq (AllU.unit (uorc := uorT (z96U1 k)) (u := 0) (z96u0_k k)) (AllU.no (by kernel_rfl))) (AllU.no (by kernel_rfl)))) (fn := Tryd.f61) (by kernel_rfl) (by kernel_rfl) (fun d => by kernel_rfl) FU_nil
noncomputable def T96 (k : Nat) : List (Nat × Ent) := (61, ⟨z96_e k⟩) :: T95 k
theorem T96_ok (k : Nat) : TabOK P GL (T96 k) := (T95_ok k).cons (z96_fu k) (z96_n k)
/-! ### overspill.overspillref08.Take -/
noncomputable def z97U0 (_ : Nat) : List (Nat × Ent) := []
theorem z97U0_k (k : Nat) : UTab (z97U0 k) := UTab.nil
noncomputable def z97u0d : UDef := ⟨[(7, none), (8, none)], [7, 8, 12, 13, 14, 15, 16, 17, 18, 19, 20], [((.exit 0), [(7, none)])], []⟩
noncomputable def z97u0p : XPat := ⟨.normal, [(.row 0), (.tv (.int .i64))], [(.row .str false)]⟩
noncomputable def z97u0x : List XPat := [⟨(.exit 0), [(.row 0)], [(.row .str false)]⟩]
noncomputable def overspillref08_Takeu0 (k : Nat) : Nat → (Int) → (List (List UInt8)) → Option ((Unit) × (List (List UInt8)))
  | 0, _, _ => none
  | n + 1, x0, x1 =>
    bif (decide (x0 ≤ 31)) then
      Option.bind (overspillref08_Row k x0) fun (v422 : List UInt8) =>
      bif (decide ((List.length x1) + 1 ≤ rowMax)) then
        Option.bind (overspillref08_Takeu0 k n (wr .i64 (x0 + 1)) (x1 ++ ([v422] : List (List UInt8)))) fun r => some r
      else
        none
    else
    some ((), x1)
noncomputable def z97u0b : AC :=
  (.seq (.seq (.region [(iO 12 (.mv (.t 8))),
    (iO 13 (.bin .leq (.t 12) (nI 31)))])
  (.cond (.t 13)
  .skip
  (.exit 0)))
  (.seq (.block 1 (.region [(iO 16 (.mv (.t 7))),
    (iO 17 (.mv (.t 8))),
    (iC 18 61 [((.t 17), none)]),
    (iO 19 (.bslice .str [(.t 18)])),
    (iO 20 (.app .str (.t 16) (.t 19))),
    (iO 7 (.mv (.t 20)))]))
  (.region [(iO 14 (.mv (.t 8))),
    (iO 15 (.bin .add (.t 14) (nI 1))),
    (iO 8 (.mv (.t 15)))])))
noncomputable def z97u0t (k n : Nat) (d : z97u0p.D) : Option (XD z97u0x) := overspillref08_Takeu0 k n d.1.2 d.2
theorem z97u0_k (k : Nat) : UOK P GL (mkU z97u0p z97u0x (z97u0t k k) nilU) z97u0d true z97u0b :=
  loop_typed (ud := z97u0d) (body := z97u0b) (uorc := uorT (z97U0 k)) hmo (T96_ok k).oo (z97U0_k k) (AllU.no (by kernel_rfl)) (t := z97u0t k) (fun d => by kernel_rfl) (fun n d => by kernel_rfl) k
noncomputable def z97U1 (k : Nat) : List (Nat × Ent) := (0, ⟨mkU z97u0p z97u0x (z97u0t k k) nilU⟩) :: z97U0 k
theorem z97U1_k (k : Nat) : UTab (z97U1 k) := (z97U0_k k).cons (mkU_nat nilU_nat)
noncomputable def overspillref08_Take (k : Nat) (x0 : List UInt8) (x1 : Int) : Option ((Int) × ((Int) × ((Int) × (Unit)))) :=
  Option.bind (overspillref08_Takeu0 k k (-32) ([] : List (List UInt8))) fun (v423 : (Unit) × (List (List UInt8))) =>
  Option.bind (overspillref05_Take k v423.2 x0 x1) fun (v424 : (Int) × ((Int) × ((Int) × (Unit)))) =>
  bif (!(decide (v424.2.2.1 = 0))) then
    some (0, (x1, (v424.2.2.1, ())))
  else
  some ((wr .i64 (v424.1 - 32)), (v424.2.1, (0, ())))
noncomputable def z97b : AC :=
  (.seq (.region [(iO 4 (.mv (nI 0))),
    (iO 5 (.mv (nI 0))),
    (iO 6 (.mv (nI 0)))])
  (.seq (.region [(iO 7 (.nrow .str))])
  (.seq (.seq (.region [(iO 8 (.mv (nI (-32))))])
  (.block 0 (.unit 0 z97u0d true z97u0b)))
  (.seq (.region [(iO 22 (.mv (.t 7))),
    (iO 23 (.mv (.t 0))),
    (iO 24 (.mv (.t 1))),
    (iC 25 58 [((.t 22), some (.sl .str)), ((.t 23), none), ((.t 24), none)]),
    (iO 21 (.mv (.t 25))),
    (iO 26 (.ext (.t 21) 0)),
    (iO 27 (.ext (.t 21) 1)),
    (iO 28 (.ext (.t 21) 2)),
    (iO 9 (.mv (.t 26))),
    (iO 10 (.mv (.t 27))),
    (iO 11 (.mv (.t 28)))])
  (.seq (.seq (.region [(iO 29 (.mv (.t 11))),
    (iO 30 (.bin .neq (.t 29) (nI 0)))])
  (.cond (.t 30)
  (.seq (.region [(iO 31 (.mv (.t 1))),
      (iO 32 (.mv (.t 11))),
      (iO 4 (.mv (nI 0))),
      (iO 5 (.mv (.t 31))),
      (iO 6 (.mv (.t 32)))])
    .ret)
  .skip))
  (.seq (.region [(iO 33 (.mv (.t 9))),
    (iO 34 (.bin .sub (.t 33) (nI 32))),
    (iO 35 (.mv (.t 10))),
    (iO 4 (.mv (.t 34))),
    (iO 5 (.mv (.t 35))),
    (iO 6 (.mv (nI 0)))])
  .ret))))))
noncomputable def z97f : FDef := ⟨2, 36, [.tmp 4 none, .tmp 5 none, .tmp 6 none], z97b⟩
noncomputable def z97p : XPat := ⟨.normal, [(.tv .str), (.tv (.int .i64))], []⟩
noncomputable def z97x : List XPat := [⟨.ret, [(.tup (.cons (.tv (.int .i64)) (.cons (.tv (.int .i64)) (.cons (.tv (.int .i64)) .nil))))], []⟩]
noncomputable def z97t (k : Nat) (d : z97p.D) : Option (XD z97x) := overspillref08_Take k d.1 d.2
noncomputable def z97_e (k : Nat) : UEntry := mkU z97p z97x (z97t k) nilU
theorem z97_n (k : Nat) : UNat (z97_e k) := mkU_nat nilU_nat
theorem z97_fu (k : Nat) : FU P GL 31 (z97_e k) :=
  fn_typed (uorc := uorT (z97U1 k)) hmo (T96_ok k).oo (z97U1_k k) (fd := z97f) (AllU.seq (AllU.no (by kernel_rfl)) (AllU.seq (AllU.no (by kernel_rfl)) (AllU.seq (AllU.seq (AllU.no (by kernel_rfl)) (AllU.block (AllU.unit (uorc := uorT (z97U1 k)) (u := 0) (z97u0_k k)))) (AllU.no (by kernel_rfl))))) (fn := Tryd.f31) (by kernel_rfl) (by kernel_rfl) (fun d => by kernel_rfl) FU_nil
noncomputable def T97 (k : Nat) : List (Nat × Ent) := (31, ⟨z97_e k⟩) :: T96 k
theorem T97_ok (k : Nat) : TabOK P GL (T97 k) := (T96_ok k).cons (z97_fu k) (z97_n k)
/-! ### overspill.overspillref07.rows -/
noncomputable def z98U0 (_ : Nat) : List (Nat × Ent) := []
theorem z98U0_k (k : Nat) : UTab (z98U0 k) := UTab.nil
noncomputable def overspillref07_rows (k : Nat) : Option (List (List UInt8)) :=
  some ([([49, 49] : List UInt8), ([48, 49, 49, 48] : List UInt8), ([49, 48, 48, 48] : List UInt8), ([48, 49, 48, 48] : List UInt8), ([49, 48, 49, 48] : List UInt8), ([48, 49, 48, 49] : List UInt8), ([48, 48, 48, 48, 49, 49] : List UInt8), ([48, 48, 48, 49, 48] : List UInt8), ([49, 48, 49, 49] : List UInt8), ([48, 48, 48, 48, 49, 48] : List UInt8), ([48, 49, 49, 49] : List UInt8), ([48, 48, 48, 49, 49] : List UInt8), ([49, 48, 48, 49] : List UInt8), ([48, 48, 49, 48, 48] : List UInt8), ([48, 48, 49, 48, 49] : List UInt8), ([48, 48, 49, 49] : List UInt8)] : List (List UInt8))
noncomputable def z98b : AC :=
  (.seq (.region [(iO 0 (.nrow .str))])
  (.seq (.region [(iO 1 (.bslice .str [(.c (.tv .str (([49, 49] : List UInt8) : List UInt8))), (.c (.tv .str (([48, 49, 49, 48] : List UInt8) : List UInt8))), (.c (.tv .str (([49, 48, 48, 48] : List UInt8) : List UInt8))), (.c (.tv .str (([48, 49, 48, 48] : List UInt8) : List UInt8))), (.c (.tv .str (([49, 48, 49, 48] : List UInt8) : List UInt8))), (.c (.tv .str (([48, 49, 48, 49] : List UInt8) : List UInt8))), (.c (.tv .str (([48, 48, 48, 48, 49, 49] : List UInt8) : List UInt8))), (.c (.tv .str (([48, 48, 48, 49, 48] : List UInt8) : List UInt8))), (.c (.tv .str (([49, 48, 49, 49] : List UInt8) : List UInt8))), (.c (.tv .str (([48, 48, 48, 48, 49, 48] : List UInt8) : List UInt8))), (.c (.tv .str (([48, 49, 49, 49] : List UInt8) : List UInt8))), (.c (.tv .str (([48, 48, 48, 49, 49] : List UInt8) : List UInt8))), (.c (.tv .str (([49, 48, 48, 49] : List UInt8) : List UInt8))), (.c (.tv .str (([48, 48, 49, 48, 48] : List UInt8) : List UInt8))), (.c (.tv .str (([48, 48, 49, 48, 49] : List UInt8) : List UInt8))), (.c (.tv .str (([48, 48, 49, 49] : List UInt8) : List UInt8)))])),
    (iO 0 (.mv (.t 1)))])
  .ret))
noncomputable def z98f : FDef := ⟨0, 2, [.tmp 0 (some (.sl .str))], z98b⟩
noncomputable def z98p : XPat := ⟨.normal, [], []⟩
noncomputable def z98x : List XPat := [⟨.ret, [(.tv (.sl .str))], []⟩]
noncomputable def z98t (k : Nat) (d : z98p.D) : Option (XD z98x) := overspillref07_rows k
noncomputable def z98_e (k : Nat) : UEntry := mkU z98p z98x (z98t k) nilU
theorem z98_n (k : Nat) : UNat (z98_e k) := mkU_nat nilU_nat
theorem z98_fu (k : Nat) : FU P GL 59 (z98_e k) :=
  fn_typed (uorc := uorT (z98U0 k)) hmo (T97_ok k).oo (z98U0_k k) (fd := z98f) (AllU.no (by kernel_rfl)) (fn := Tryd.f59) (by kernel_rfl) (by kernel_rfl) (fun d => by kernel_rfl) FU_nil
noncomputable def T98 (k : Nat) : List (Nat × Ent) := (59, ⟨z98_e k⟩) :: T97 k
theorem T98_ok (k : Nat) : TabOK P GL (T98 k) := (T97_ok k).cons (z98_fu k) (z98_n k)
/-! ### overspill.overspillref07.Take -/
noncomputable def z99U0 (_ : Nat) : List (Nat × Ent) := []
theorem z99U0_k (k : Nat) : UTab (z99U0 k) := UTab.nil
noncomputable def z99u0d : UDef := ⟨[(2, none), (11, none)], [20, 21, 22, 23, 24], [(.normal, [(24, none)])], []⟩
noncomputable def z99u0p : XPat := ⟨.normal, [(.tv .bool), (.tv (.int .i64))], []⟩
noncomputable def z99u0x : List XPat := [⟨.normal, [(.tv .bool)], []⟩]
noncomputable def overspillref07_Takeu0 (k : Nat) (x0 : Bool) (x1 : Int) : Option (Bool) :=
  bif (decide (x1 = 0)) then
    some x0
  else
  some false
noncomputable def z99u0b : AC :=
  (.region [(iO 20 (.mv (.t 11))),
    (iO 21 (.bin .eql (.t 20) (nI 0))),
    (iO 22 (.mv (.t 21))),
    ⟨some 23, some (2, 22, true), (.op (.mv (.t 2))), []⟩,
    (iO 24 (.pick (.t 22) (.t 23) (.c (.tv .bool (false : Bool)))))])
noncomputable def z99u0t (k : Nat) (d : z99u0p.D) : Option (XD z99u0x) := overspillref07_Takeu0 k d.1 d.2
theorem z99u0_k (k : Nat) : UOK P GL (mkU z99u0p z99u0x (z99u0t k) nilU) z99u0d false z99u0b :=
  unit_typed (ud := z99u0d) (body := z99u0b) (uorc := uorT (z99U0 k)) hmo (T98_ok k).oo (z99U0_k k) (AllU.no (by kernel_rfl)) (fun d => by kernel_rfl)
noncomputable def z99U1 (k : Nat) : List (Nat × Ent) := (0, ⟨mkU z99u0p z99u0x (z99u0t k) nilU⟩) :: z99U0 k
theorem z99U1_k (k : Nat) : UTab (z99U1 k) := (z99U0_k k).cons (mkU_nat nilU_nat)
noncomputable def overspillref07_Take (k : Nat) (x0 : List UInt8) (x1 : Int) (x2 : Bool) : Option ((Int) × ((Int) × ((Int) × (Unit)))) :=
  Option.bind (overspillref07_rows k) fun (v425 : List (List UInt8)) =>
  Option.bind (overspillref05_Take k v425 x0 x1) fun (v426 : (Int) × ((Int) × ((Int) × (Unit)))) =>
  Option.bind (overspillref07_Takeu0 k x2 v426.2.2.1) fun (v427 : Bool) =>
  bif v427 then
    some ((wr .i64 (15 - v426.1)), (v426.2.1, (v426.2.2.1, ())))
  else
  some (v426.1, (v426.2.1, (v426.2.2.1, ())))
noncomputable def z99b : AC :=
  (.seq (.region [(iO 6 (.mv (nI 0))),
    (iO 7 (.mv (nI 0))),
    (iO 8 (.mv (nI 0)))])
  (.seq (.region [(iC 13 59 []),
    (iO 14 (.mv (.t 0))),
    (iO 15 (.mv (.t 1))),
    (iC 16 58 [((.t 13), some (.sl .str)), ((.t 14), none), ((.t 15), none)]),
    (iO 12 (.mv (.t 16))),
    (iO 17 (.ext (.t 12) 0)),
    (iO 18 (.ext (.t 12) 1)),
    (iO 19 (.ext (.t 12) 2)),
    (iO 9 (.mv (.t 17))),
    (iO 10 (.mv (.t 18))),
    (iO 11 (.mv (.t 19)))])
  (.seq (.seq (.unit 0 z99u0d false z99u0b)
  (.cond (.t 24)
  (.region [(iO 25 (.mv (.t 9))),
      (iO 26 (.bin .sub (nI 15) (.t 25))),
      (iO 9 (.mv (.t 26)))])
  .skip))
  (.seq (.region [(iO 27 (.mv (.t 9))),
    (iO 28 (.mv (.t 10))),
    (iO 29 (.mv (.t 11))),
    (iO 6 (.mv (.t 27))),
    (iO 7 (.mv (.t 28))),
    (iO 8 (.mv (.t 29)))])
  .ret))))
noncomputable def z99f : FDef := ⟨3, 30, [.tmp 6 none, .tmp 7 none, .tmp 8 none], z99b⟩
noncomputable def z99p : XPat := ⟨.normal, [(.tv .str), (.tv (.int .i64)), (.tv .bool)], []⟩
noncomputable def z99x : List XPat := [⟨.ret, [(.tup (.cons (.tv (.int .i64)) (.cons (.tv (.int .i64)) (.cons (.tv (.int .i64)) .nil))))], []⟩]
noncomputable def z99t (k : Nat) (d : z99p.D) : Option (XD z99x) := overspillref07_Take k d.1 d.2.1 d.2.2
noncomputable def z99_e (k : Nat) : UEntry := mkU z99p z99x (z99t k) nilU
theorem z99_n (k : Nat) : UNat (z99_e k) := mkU_nat nilU_nat
theorem z99_fu (k : Nat) : FU P GL 28 (z99_e k) :=
  fn_typed (uorc := uorT (z99U1 k)) hmo (T98_ok k).oo (z99U1_k k) (fd := z99f) (AllU.seq (AllU.no (by kernel_rfl)) (AllU.seq (AllU.no (by kernel_rfl)) (AllU.seq (AllU.seq (AllU.unit (uorc := uorT (z99U1 k)) (u := 0) (z99u0_k k)) (AllU.no (by kernel_rfl))) (AllU.no (by kernel_rfl))))) (fn := Tryd.f28) (by kernel_rfl) (by kernel_rfl) (fun d => by kernel_rfl) FU_nil
noncomputable def T99 (k : Nat) : List (Nat × Ent) := (28, ⟨z99_e k⟩) :: T98 k
theorem T99_ok (k : Nat) : TabOK P GL (T99 k) := (T98_ok k).cons (z99_fu k) (z99_n k)
/-! ### overspill.overspillref06.rows -/
noncomputable def z100U0 (_ : Nat) : List (Nat × Ent) := []
theorem z100U0_k (k : Nat) : UTab (z100U0 k) := UTab.nil
noncomputable def overspillref06_rows (k : Nat) (x0 : Bool) : Option (List (List UInt8)) :=
  bif x0 then
    some ([([49] : List UInt8), ([48, 48, 49, 49] : List UInt8), ([48, 48, 49, 48] : List UInt8), ([48, 48, 48, 49, 48, 49] : List UInt8), ([48, 49, 49] : List UInt8), ([48, 48, 48, 48, 49, 49, 49] : List UInt8), ([48, 48, 48, 48, 49, 49, 48] : List UInt8), ([48, 48, 48, 48, 48, 48, 49, 48, 49] : List UInt8), ([48, 49, 48] : List UInt8), ([48, 48, 48, 48, 49, 48, 49] : List UInt8), ([48, 48, 48, 48, 49, 48, 48] : List UInt8), ([48, 48, 48, 48, 48, 49, 48, 49] : List UInt8), ([48, 48, 48, 49, 49] : List UInt8), ([48, 48, 48, 48, 48, 49, 48, 48] : List UInt8), ([48, 48, 48, 48, 48, 48, 49, 49] : List UInt8), ([48, 48, 48, 48, 48, 49, 49] : List UInt8), ([48, 48, 48, 49, 48, 48] : List UInt8), ([48, 48, 48, 48, 48, 48, 49, 48, 48] : List UInt8), ([48, 48, 48, 48, 48, 48, 48, 49, 49] : List UInt8), ([48, 48, 48, 48, 48, 48, 48, 49, 48] : List UInt8), ([48, 48, 48, 48, 48, 48, 48, 48, 49] : List UInt8)] : List (List UInt8))
  else
  some ([([] : List UInt8), ([] : List UInt8), ([] : List UInt8), ([] : List UInt8), ([] : List UInt8), ([] : List UInt8), ([] : List UInt8), ([] : List UInt8), ([] : List UInt8), ([] : List UInt8), ([] : List UInt8), ([] : List UInt8), ([49] : List UInt8), ([48, 48, 49] : List UInt8), ([48, 49, 48] : List UInt8), ([48, 49, 49] : List UInt8), ([48, 48, 48, 49] : List UInt8), ([48, 48, 48, 48, 48, 49] : List UInt8), ([48, 48, 48, 48, 49, 48] : List UInt8), ([48, 48, 48, 48, 49, 49] : List UInt8), ([48, 48, 48, 48, 48, 48, 48, 48, 49] : List UInt8)] : List (List UInt8))
noncomputable def z100b : AC :=
  (.seq (.region [(iO 2 (.nrow .str))])
  (.seq (.seq (.region [(iO 3 (.mv (.t 0)))])
  (.cond (.t 3)
  (.seq (.region [(iO 4 (.bslice .str [(.c (.tv .str (([49] : List UInt8) : List UInt8))), (.c (.tv .str (([48, 48, 49, 49] : List UInt8) : List UInt8))), (.c (.tv .str (([48, 48, 49, 48] : List UInt8) : List UInt8))), (.c (.tv .str (([48, 48, 48, 49, 48, 49] : List UInt8) : List UInt8))), (.c (.tv .str (([48, 49, 49] : List UInt8) : List UInt8))), (.c (.tv .str (([48, 48, 48, 48, 49, 49, 49] : List UInt8) : List UInt8))), (.c (.tv .str (([48, 48, 48, 48, 49, 49, 48] : List UInt8) : List UInt8))), (.c (.tv .str (([48, 48, 48, 48, 48, 48, 49, 48, 49] : List UInt8) : List UInt8))), (.c (.tv .str (([48, 49, 48] : List UInt8) : List UInt8))), (.c (.tv .str (([48, 48, 48, 48, 49, 48, 49] : List UInt8) : List UInt8))), (.c (.tv .str (([48, 48, 48, 48, 49, 48, 48] : List UInt8) : List UInt8))), (.c (.tv .str (([48, 48, 48, 48, 48, 49, 48, 49] : List UInt8) : List UInt8))), (.c (.tv .str (([48, 48, 48, 49, 49] : List UInt8) : List UInt8))), (.c (.tv .str (([48, 48, 48, 48, 48, 49, 48, 48] : List UInt8) : List UInt8))), (.c (.tv .str (([48, 48, 48, 48, 48, 48, 49, 49] : List UInt8) : List UInt8))), (.c (.tv .str (([48, 48, 48, 48, 48, 49, 49] : List UInt8) : List UInt8))), (.c (.tv .str (([48, 48, 48, 49, 48, 48] : List UInt8) : List UInt8))), (.c (.tv .str (([48, 48, 48, 48, 48, 48, 49, 48, 48] : List UInt8) : List UInt8))), (.c (.tv .str (([48, 48, 48, 48, 48, 48, 48, 49, 49] : List UInt8) : List UInt8))), (.c (.tv .str (([48, 48, 48, 48, 48, 48, 48, 49, 48] : List UInt8) : List UInt8))), (.c (.tv .str (([48, 48, 48, 48, 48, 48, 48, 48, 49] : List UInt8) : List UInt8)))])),
      (iO 2 (.mv (.t 4)))])
    .ret)
  .skip))
  (.seq (.region [(iO 5 (.bslice .str [(.c (.tv .str (([] : List UInt8) : List UInt8))), (.c (.tv .str (([] : List UInt8) : List UInt8))), (.c (.tv .str (([] : List UInt8) : List UInt8))), (.c (.tv .str (([] : List UInt8) : List UInt8))), (.c (.tv .str (([] : List UInt8) : List UInt8))), (.c (.tv .str (([] : List UInt8) : List UInt8))), (.c (.tv .str (([] : List UInt8) : List UInt8))), (.c (.tv .str (([] : List UInt8) : List UInt8))), (.c (.tv .str (([] : List UInt8) : List UInt8))), (.c (.tv .str (([] : List UInt8) : List UInt8))), (.c (.tv .str (([] : List UInt8) : List UInt8))), (.c (.tv .str (([] : List UInt8) : List UInt8))), (.c (.tv .str (([49] : List UInt8) : List UInt8))), (.c (.tv .str (([48, 48, 49] : List UInt8) : List UInt8))), (.c (.tv .str (([48, 49, 48] : List UInt8) : List UInt8))), (.c (.tv .str (([48, 49, 49] : List UInt8) : List UInt8))), (.c (.tv .str (([48, 48, 48, 49] : List UInt8) : List UInt8))), (.c (.tv .str (([48, 48, 48, 48, 48, 49] : List UInt8) : List UInt8))), (.c (.tv .str (([48, 48, 48, 48, 49, 48] : List UInt8) : List UInt8))), (.c (.tv .str (([48, 48, 48, 48, 49, 49] : List UInt8) : List UInt8))), (.c (.tv .str (([48, 48, 48, 48, 48, 48, 48, 48, 49] : List UInt8) : List UInt8)))])),
    (iO 2 (.mv (.t 5)))])
  .ret)))
noncomputable def z100f : FDef := ⟨1, 6, [.tmp 2 (some (.sl .str))], z100b⟩
noncomputable def z100p : XPat := ⟨.normal, [(.tv .bool)], []⟩
noncomputable def z100x : List XPat := [⟨.ret, [(.tv (.sl .str))], []⟩]
noncomputable def z100t (k : Nat) (d : z100p.D) : Option (XD z100x) := overspillref06_rows k d
noncomputable def z100_e (k : Nat) : UEntry := mkU z100p z100x (z100t k) nilU
theorem z100_n (k : Nat) : UNat (z100_e k) := mkU_nat nilU_nat
theorem z100_fu (k : Nat) : FU P GL 81 (z100_e k) :=
  fn_typed (uorc := uorT (z100U0 k)) hmo (T99_ok k).oo (z100U0_k k) (fd := z100f) (AllU.no (by kernel_rfl)) (fn := Tryd.f81) (by kernel_rfl) (by kernel_rfl) (fun d => by kernel_rfl) FU_nil
noncomputable def T100 (k : Nat) : List (Nat × Ent) := (81, ⟨z100_e k⟩) :: T99 k
theorem T100_ok (k : Nat) : TabOK P GL (T100 k) := (T99_ok k).cons (z100_fu k) (z100_n k)
/-! ### overspill.overspillref06.Take -/
noncomputable def z101U0 (_ : Nat) : List (Nat × Ent) := []
theorem z101U0_k (k : Nat) : UTab (z101U0 k) := UTab.nil
noncomputable def z101u0d : UDef := ⟨[(10, none), (11, none), (12, none)], [11, 12, 18, 19, 20, 21, 22, 23, 24, 25, 26, 27, 28, 29, 30, 31, 32, 33, 34, 35], [((.exit 0), [(11, none)])], []⟩
noncomputable def z101u0p : XPat := ⟨.normal, [(.tv (.sl .str)), (.row 0), (.tv (.int .i64))], [(.row .str false)]⟩
noncomputable def z101u0x : List XPat := [⟨(.exit 0), [(.row 0)], [(.row .str false)]⟩]
noncomputable def overspillref06_Takeu0 (k : Nat) : Nat → (List (List UInt8)) → (Int) → (List (List UInt8)) → Option ((Unit) × (List (List UInt8)))
  | 0, _, _, _ => none
  | n + 1, x0, x1, x2 =>
    bif (decide (x1 < ((List.length x0 : Nat) : Int))) then
      bif (inR x1 (List.length x0)) then
        bif (!(decide ((List.getD x0 (Int.toNat x1) ([] : List UInt8)) = ([] : List UInt8)))) then
          bif (inR x1 (List.length x0)) then
            bif (decide ((List.length x2) + 1 ≤ rowMax)) then
              Option.bind (overspillref06_Takeu0 k n x0 (wr .i64 (x1 + 1)) (x2 ++ ([(List.getD x0 (Int.toNat x1) ([] : List UInt8))] : List (List UInt8)))) fun r => some r
            else
              none
          else
            none
        else
        Option.bind (overspillref06_Takeu0 k n x0 (wr .i64 (x1 + 1)) x2) fun r => some r
      else
        none
    else
    some ((), x2)
noncomputable def z101u0b : AC :=
  (.seq (.seq (.region [(iO 18 (.mv (.t 12))),
    (iO 19 (.mv (.t 10))),
    (iO 20 (.len (.t 19))),
    (iO 21 (.bin .lss (.t 18) (.t 20)))])
  (.cond (.t 21)
  .skip
  (.exit 0)))
  (.seq (.block 1 (.seq (.region [(iO 24 (.mv (.t 10))),
    (iO 25 (.mv (.t 12))),
    (iO 26 (.iads .str (.t 24) (.t 25))),
    (iO 27 (.load false 1 (.t 26))),
    (iO 28 (.bin .neq (.t 27) (.c (.tv .str (([] : List UInt8) : List UInt8)))))])
  (.cond (.t 28)
  (.region [(iO 29 (.mv (.t 11))),
      (iO 30 (.mv (.t 10))),
      (iO 31 (.mv (.t 12))),
      (iO 32 (.iads .str (.t 30) (.t 31))),
      (iO 33 (.load false 1 (.t 32))),
      (iO 34 (.bslice .str [(.t 33)])),
      (iO 35 (.app .str (.t 29) (.t 34))),
      (iO 11 (.mv (.t 35)))])
  .skip)))
  (.region [(iO 22 (.mv (.t 12))),
    (iO 23 (.bin .add (.t 22) (nI 1))),
    (iO 12 (.mv (.t 23)))])))
noncomputable def z101u0t (k n : Nat) (d : z101u0p.D) : Option (XD z101u0x) := overspillref06_Takeu0 k n d.1.1 d.1.2.2 d.2
theorem z101u0_k (k : Nat) : UOK P GL (mkU z101u0p z101u0x (z101u0t k k) nilU) z101u0d true z101u0b :=
  loop_typed (ud := z101u0d) (body := z101u0b) (uorc := uorT (z101U0 k)) hmo (T100_ok k).oo (z101U0_k k) (AllU.no (by kernel_rfl)) (t := z101u0t k) (fun d => by kernel_rfl) (fun n d => by kernel_rfl) k
noncomputable def z101U1 (k : Nat) : List (Nat × Ent) := (0, ⟨mkU z101u0p z101u0x (z101u0t k k) nilU⟩) :: z101U0 k
theorem z101U1_k (k : Nat) : UTab (z101U1 k) := (z101U0_k k).cons (mkU_nat nilU_nat)
noncomputable def z101u1d : UDef := ⟨[(13, none), (49, none)], [13, 50, 51], [(.normal, [(13, none)])], []⟩
noncomputable def z101u1p : XPat := ⟨.normal, [(.tv (.int .i64)), (.tv .bool)], []⟩
noncomputable def z101u1x : List XPat := [⟨.normal, [(.tv (.int .i64))], []⟩]
noncomputable def overspillref06_Takeu1 (k : Nat) (x0 : Int) (x1 : Bool) : Option (Int) :=
  bif x1 then
    some (wr .i64 (x0 + 12))
  else
  some x0
noncomputable def z101u1b : AC :=
  (.cond (.t 49)
  (.region [(iO 50 (.mv (.t 13))),
      (iO 51 (.bin .add (.t 50) (nI 12))),
      (iO 13 (.mv (.t 51)))])
  .skip)
noncomputable def z101u1t (k : Nat) (d : z101u1p.D) : Option (XD z101u1x) := overspillref06_Takeu1 k d.1 d.2
theorem z101u1_k (k : Nat) : UOK P GL (mkU z101u1p z101u1x (z101u1t k) nilU) z101u1d false z101u1b :=
  unit_typed (ud := z101u1d) (body := z101u1b) (uorc := uorT (z101U1 k)) hmo (T100_ok k).oo (z101U1_k k) (AllU.no (by kernel_rfl)) (fun d => by kernel_rfl)
noncomputable def z101U2 (k : Nat) : List (Nat × Ent) := (1, ⟨mkU z101u1p z101u1x (z101u1t k) nilU⟩) :: z101U1 k
theorem z101U2_k (k : Nat) : UTab (z101U2 k) := (z101U1_k k).cons (mkU_nat nilU_nat)
noncomputable def overspillref06_Take (k : Nat) (x0 : List UInt8) (x1 : Int) (x2 : Bool) : Option ((Int) × ((Int) × ((Int) × ((Int) × (Unit))))) :=
  Option.bind (overspillref06_rows k x2) fun (v428 : List (List UInt8)) =>
  Option.bind (overspillref06_Takeu0 k k v428 0 ([] : List (List UInt8))) fun (v429 : (Unit) × (List (List UInt8))) =>
  Option.bind (overspillref05_Take k v429.2 x0 x1) fun (v430 : (Int) × ((Int) × ((Int) × (Unit)))) =>
  bif (!(decide (v430.2.2.1 = 0))) then
    some (0, (0, (x1, (v430.2.2.1, ()))))
  else
  Option.bind (overspillref06_Takeu1 k v430.1 (!x2)) fun (v431 : Int) =>
  bif (decide ((wr .i64 (Int.tdiv v431 4)) = 2)) then
    some (0, (0, (x1, (6, ()))))
  else
  some ((wr .i64 (Int.tdiv v431 4)), ((Int.tmod v431 4), (v430.2.1, (0, ()))))
noncomputable def z101b : AC :=
  (.seq (.region [(iO 6 (.mv (nI 0))),
    (iO 7 (.mv (nI 0))),
    (iO 8 (.mv (nI 0))),
    (iO 9 (.mv (nI 0)))])
  (.seq (.region [(iO 16 (.mv (.t 2))),
    (iC 17 81 [((.t 16), none)]),
    (iO 10 (.mv (.t 17)))])
  (.seq (.region [(iO 11 (.nrow .str))])
  (.seq (.seq (.region [(iO 12 (.mv (nI 0)))])
  (.block 0 (.unit 0 z101u0d true z101u0b)))
  (.seq (.region [(iO 37 (.mv (.t 11))),
    (iO 38 (.mv (.t 0))),
    (iO 39 (.mv (.t 1))),
    (iC 40 58 [((.t 37), some (.sl .str)), ((.t 38), none), ((.t 39), none)]),
    (iO 36 (.mv (.t 40))),
    (iO 41 (.ext (.t 36) 0)),
    (iO 42 (.ext (.t 36) 1)),
    (iO 43 (.ext (.t 36) 2)),
    (iO 13 (.mv (.t 41))),
    (iO 14 (.mv (.t 42))),
    (iO 15 (.mv (.t 43)))])
  (.seq (.seq (.region [(iO 44 (.mv (.t 15))),
    (iO 45 (.bin .neq (.t 44) (nI 0)))])
  (.cond (.t 45)
  (.seq (.region [(iO 46 (.mv (.t 1))),
      (iO 47 (.mv (.t 15))),
      (iO 6 (.mv (nI 0))),
      (iO 7 (.mv (nI 0))),
      (iO 8 (.mv (.t 46))),
      (iO 9 (.mv (.t 47)))])
    .ret)
  .skip))
  (.seq (.seq (.region [(iO 48 (.mv (.t 2))),
    (iO 49 (.un .not (.t 48)))])
  (.unit 1 z101u1d false z101u1b))
  (.seq (.seq (.region [(iO 52 (.mv (.t 13))),
    (iO 53 (.bin .quo (.t 52) (nI 4))),
    (iO 54 (.bin .eql (.t 53) (nI 2)))])
  (.cond (.t 54)
  (.seq (.region [(iO 55 (.mv (.t 1))),
      (iO 6 (.mv (nI 0))),
      (iO 7 (.mv (nI 0))),
      (iO 8 (.mv (.t 55))),
      (iO 9 (.mv (nI 6)))])
    .ret)
  .skip))
  (.seq (.region [(iO 56 (.mv (.t 13))),
    (iO 57 (.bin .quo (.t 56) (nI 4))),
    (iO 58 (.mv (.t 13))),
    (iO 59 (.bin .rem (.t 58) (nI 4))),
    (iO 60 (.mv (.t 14))),
    (iO 6 (.mv (.t 57))),
    (iO 7 (.mv (.t 59))),
    (iO 8 (.mv (.t 60))),
    (iO 9 (.mv (nI 0)))])
  .ret)))))))))
noncomputable def z101f : FDef := ⟨3, 61, [.tmp 6 none, .tmp 7 none, .tmp 8 none, .tmp 9 none], z101b⟩
noncomputable def z101p : XPat := ⟨.normal, [(.tv .str), (.tv (.int .i64)), (.tv .bool)], []⟩
noncomputable def z101x : List XPat := [⟨.ret, [(.tup (.cons (.tv (.int .i64)) (.cons (.tv (.int .i64)) (.cons (.tv (.int .i64)) (.cons (.tv (.int .i64)) .nil)))))], []⟩]
noncomputable def z101t (k : Nat) (d : z101p.D) : Option (XD z101x) := overspillref06_Take k d.1 d.2.1 d.2.2
noncomputable def z101_e (k : Nat) : UEntry := mkU z101p z101x (z101t k) nilU
theorem z101_n (k : Nat) : UNat (z101_e k) := mkU_nat nilU_nat
theorem z101_fu (k : Nat) : FU P GL 57 (z101_e k) :=
  fn_typed (uorc := uorT (z101U2 k)) hmo (T100_ok k).oo (z101U2_k k) (fd := z101f) (AllU.seq (AllU.no (by kernel_rfl)) (AllU.seq (AllU.no (by kernel_rfl)) (AllU.seq (AllU.no (by kernel_rfl)) (AllU.seq (AllU.seq (AllU.no (by kernel_rfl)) (AllU.block (AllU.unit (uorc := uorT (z101U2 k)) (u := 0) (z101u0_k k)))) (AllU.seq (AllU.no (by kernel_rfl)) (AllU.seq (AllU.no (by kernel_rfl)) (AllU.seq (AllU.seq (AllU.no (by kernel_rfl)) (AllU.unit (uorc := uorT (z101U2 k)) (u := 1) (z101u1_k k))) (AllU.no (by kernel_rfl))))))))) (fn := Tryd.f57) (by kernel_rfl) (by kernel_rfl) (fun d => by kernel_rfl) FU_nil
noncomputable def T101 (k : Nat) : List (Nat × Ent) := (57, ⟨z101_e k⟩) :: T100 k
theorem T101_ok (k : Nat) : TabOK P GL (T101 k) := (T100_ok k).cons (z101_fu k) (z101_n k)
end Go.Proofs.YtlemoepklgfjoaaDoor
