/-
  The functions of the program as typed functions, further on. Printed by a program of mine.
-/
import Derived.Test.YtlmajdbchmnhdaaGreatDoorOut2
set_option maxRecDepth 100000
namespace Go.Proofs.YtlmajdbchmnhdaaGreatDoor
open Go Go.Av
/-! ### overspill.overspillref09.words -/
noncomputable def z100U0 (_ : Nat) : List (Nat × Ent) := []
theorem z100U0_k (k : Nat) : UTab (z100U0 k) := UTab.nil
noncomputable def z100u0d : UDef := ⟨[(0, none), (3, none), (4, none)], [3, 4, 6, 7, 8, 9, 10, 11, 12, 13, 14, 15, 16, 17, 18, 19, 20, 21, 22, 23, 24, 25, 26, 27, 28, 29, 30, 31, 32, 33, 34, 35], [((.exit 0), [(3, none)])], []⟩
noncomputable def z100u0p : XPat := ⟨.normal, [(.tv .str), (.row 0), (.tv (.int .i64))], [(.row .str false)]⟩
noncomputable def z100u0x : List XPat := [⟨(.exit 0), [(.row 0)], [(.row .str false)]⟩]
noncomputable def overspillref09_wordsu0 (k : Nat) : Nat → (List UInt8) → (Int) → (List (List UInt8)) → Option ((Unit) × (List (List UInt8)))
  | 0, _, _, _ => none
  | n + 1, x0, x1, x2 =>
    bif (decide (x1 < ((List.length x0 : Nat) : Int))) then
      bif (inR x1 (List.length x0)) then
        bif (decide (((UInt8.toNat (List.getD x0 (Int.toNat x1) 0) : Nat) : Int) = 32)) then
          bif (decide ((List.length x2) + 1 ≤ rowMax)) then
            Option.bind (overspillref09_wordsu0 k n x0 (wr .i64 (x1 + 1)) (x2 ++ ([([] : List UInt8)] : List (List UInt8)))) fun r => some r
          else
            none
        else
        bif (inR (wr .i64 (((List.length x2 : Nat) : Int) - 1)) (List.length x2)) then
          bif (decide ((0 : Int) ≤ x1 ∧ x1 ≤ (wr .i64 (x1 + 1)) ∧ (wr .i64 (x1 + 1)) ≤ (((List.length x0) : Nat) : Int))) then
            bif (decide ((List.length (List.getD x2 (Int.toNat (wr .i64 (((List.length x2 : Nat) : Int) - 1))) ([] : List UInt8))) + (List.length (List.drop (Int.toNat x1) (List.take (Int.toNat (wr .i64 (x1 + 1))) x0))) ≤ strMax)) then
              bif (inR (wr .i64 (((List.length x2 : Nat) : Int) - 1)) (List.length x2)) then
                Option.bind (overspillref09_wordsu0 k n x0 (wr .i64 (x1 + 1)) (List.set x2 (Int.toNat (wr .i64 (((List.length x2 : Nat) : Int) - 1))) ((List.getD x2 (Int.toNat (wr .i64 (((List.length x2 : Nat) : Int) - 1))) ([] : List UInt8)) ++ (List.drop (Int.toNat x1) (List.take (Int.toNat (wr .i64 (x1 + 1))) x0))))) fun r => some r
              else
                none
            else
              none
          else
            none
        else
          none
      else
        none
    else
    some ((), x2)
noncomputable def z100u0b : AC :=
  (.seq (.seq (.region [(iO 6 (.mv (.t 4))),
    (iO 7 (.mv (.t 0))),
    (iO 8 (.lens (.t 7))),
    (iO 9 (.bin .lss (.t 6) (.t 8)))])
  (.cond (.t 9)
  .skip
  (.exit 0)))
  (.seq (.block 1 (.seq (.region [(iO 12 (.mv (.t 0))),
    (iO 13 (.mv (.t 4))),
    (iO 14 (.ixs (.t 12) (.t 13))),
    (iO 15 (.bin .eql (.t 14) (.c (.tv (.int .u8) (32 : Int)))))])
  (.cond (.t 15)
  (.region [(iO 16 (.mv (.t 3))),
      (iO 17 (.bslice .str [(.c (.tv .str (([] : List UInt8) : List UInt8)))])),
      (iO 18 (.app .str (.t 16) (.t 17))),
      (iO 3 (.mv (.t 18)))])
  (.draw [(iO 19 (.mv (.t 3))),
      (iO 20 (.mv (.t 3))),
      (iOa 21 (.len (.t 20)) [1]),
      (iOa 22 (.bin .sub (.t 21) (nI 1)) [1, 2]),
      (iO 23 (.mv (.t 3))),
      (iO 24 (.mv (.t 3))),
      (iOa 25 (.len (.t 24)) [5]),
      (iOa 26 (.bin .sub (.t 25) (nI 1)) [5, 6]),
      (iOa 27 (.iads .str (.t 23) (.t 26)) (rg [4, 4])),
      (iOa 28 (.load false 1 (.t 27)) (rg [4, 5])),
      (iO 29 (.mv (.t 0))),
      (iO 30 (.mv (.t 4))),
      (iO 31 (.mv (.t 4))),
      (iOa 32 (.bin .add (.t 31) (nI 1)) [12]),
      (iOa 33 (.slis (.t 29) (some (.t 30)) (some (.t 32))) (rg [10, 4])),
      (iOa 34 (.bin .add (.t 28) (.t 33)) (rg [4, 11])),
      (iOa 35 (.iads .str (.t 19) (.t 22)) (rg [0, 16])),
      (iSa (.store 1 none (.t 35) (.t 34)) (rg [0, 17]))]))))
  (.region [(iO 10 (.mv (.t 4))),
    (iO 11 (.bin .add (.t 10) (nI 1))),
    (iO 4 (.mv (.t 11)))])))
noncomputable def z100u0t (k n : Nat) (d : z100u0p.D) : Option (XD z100u0x) := overspillref09_wordsu0 k n d.1.1 d.1.2.2 d.2
theorem z100u0_k (k : Nat) : UOK P GL (mkU z100u0p z100u0x (z100u0t k k) nilU) z100u0d true z100u0b :=
  loop_typed (ud := z100u0d) (body := z100u0b) (uorc := uorT (z100U0 k)) hmo (T97_ok k).oo (z100U0_k k) (AllU.no (by kernel_rfl)) (t := z100u0t k) (fun d => by kernel_rfl) (fun n d => by kernel_rfl) k
noncomputable def z100U1 (k : Nat) : List (Nat × Ent) := (0, ⟨mkU z100u0p z100u0x (z100u0t k k) nilU⟩) :: z100U0 k
theorem z100U1_k (k : Nat) : UTab (z100U1 k) := (z100U0_k k).cons (mkU_nat nilU_nat)
noncomputable def overspillref09_words (k : Nat) (x0 : List UInt8) : Option (List (List UInt8)) :=
  Option.bind (overspillref09_wordsu0 k k x0 0 ([([] : List UInt8)] : List (List UInt8))) fun (v444 : (Unit) × (List (List UInt8))) =>
  some v444.2
noncomputable def z100b : AC :=
  (.seq (.region [(iO 2 (.nrow .str))])
  (.seq (.region [(iO 5 (.bslice .str [(.c (.tv .str (([] : List UInt8) : List UInt8)))])),
    (iO 3 (.mv (.t 5)))])
  (.seq (.seq (.region [(iO 4 (.mv (nI 0)))])
  (.block 0 (.unit 0 z100u0d true z100u0b)))
  (.seq (.region [(iO 36 (.mv (.t 3))),
    (iO 2 (.mv (.t 36)))])
  .ret))))
noncomputable def z100f : FDef := ⟨1, 37, [.tmp 2 (some (.sl .str))], z100b⟩
noncomputable def z100p : XPat := ⟨.normal, [(.tv .str)], []⟩
noncomputable def z100x : List XPat := [⟨.ret, [(.tv (.sl .str))], []⟩]
noncomputable def z100t (k : Nat) (d : z100p.D) : Option (XD z100x) := overspillref09_words k d
noncomputable def z100_e (k : Nat) : UEntry := mkU z100p z100x (z100t k) nilU
theorem z100_n (k : Nat) : UNat (z100_e k) := mkU_nat nilU_nat
theorem z100_fu (k : Nat) : FU P GL 113 (z100_e k) :=
  fn_typed (uorc := uorT (z100U1 k)) hmo (T97_ok k).oo (z100U1_k k) (fd := z100f) (AllU.seq (AllU.no (by kernel_rfl)) (AllU.seq (AllU.no (by kernel_rfl)) (AllU.seq (AllU.seq (AllU.no (by kernel_rfl)) (AllU.block (AllU.unit (uorc := uorT (z100U1 k)) (u := 0) (z100u0_k k)))) (AllU.no (by kernel_rfl))))) (fn := Tryz.f113) (by kernel_rfl) (by kernel_rfl) (fun d => by kernel_rfl) FU_nil
noncomputable def T98 (k : Nat) : List (Nat × Ent) := (113, ⟨z100_e k⟩) :: T97 k
theorem T98_ok (k : Nat) : TabOK P GL (T98 k) := (T97_ok k).cons (z100_fu k) (z100_n k)
/-! ### overspill.overspillref09.rows -/
noncomputable def z101U0 (_ : Nat) : List (Nat × Ent) := []
theorem z101U0_k (k : Nat) : UTab (z101U0 k) := UTab.nil
noncomputable def z101u0d : UDef := ⟨[(5, none), (7, none)], [5, 8], [(.normal, [(5, none)])], []⟩
noncomputable def z101u0p : XPat := ⟨.normal, [(.tv (.sl .str)), (.tv .bool)], []⟩
noncomputable def z101u0x : List XPat := [⟨.normal, [(.tv (.sl .str))], []⟩]
noncomputable def overspillref09_rowsu0 (k : Nat) (x0 : List (List UInt8)) (x1 : Bool) : Option (List (List UInt8)) :=
  bif x1 then
    Option.bind (overspillref09_ends k) fun (v442 : List (List UInt8)) =>
    some v442
  else
  some x0
noncomputable def z101u0b : AC :=
  (.cond (.t 7)
  (.region [(iC 8 112 []),
      (iO 5 (.mv (.t 8)))])
  .skip)
noncomputable def z101u0t (k : Nat) (d : z101u0p.D) : Option (XD z101u0x) := overspillref09_rowsu0 k d.1 d.2
theorem z101u0_k (k : Nat) : UOK P GL (mkU z101u0p z101u0x (z101u0t k) nilU) z101u0d false z101u0b :=
  unit_typed (ud := z101u0d) (body := z101u0b) (uorc := uorT (z101U0 k)) hmo (T98_ok k).oo (z101U0_k k) (AllU.no (by kernel_rfl)) (fun d => by kernel_rfl)
noncomputable def z101U1 (k : Nat) : List (Nat × Ent) := (0, ⟨mkU z101u0p z101u0x (z101u0t k) nilU⟩) :: z101U0 k
theorem z101U1_k (k : Nat) : UTab (z101U1 k) := (z101U0_k k).cons (mkU_nat nilU_nat)
noncomputable def overspillref09_rows (k : Nat) (x0 : Bool) (x1 : Int) : Option (List (List UInt8)) :=
  Option.bind (overspillref09_table k) fun (v440 : List (List UInt8)) =>
  Option.bind (overspillref09_rowsu0 k v440 x0) fun (v443 : List (List UInt8)) =>
  bif (decide (((List.length v443 : Nat) : Int) ≤ x1)) then
    some ([] : List (List UInt8))
  else
  bif (inR x1 (List.length v443)) then
    Option.bind (overspillref09_words k (List.getD v443 (Int.toNat x1) ([] : List UInt8))) fun (v445 : List (List UInt8)) =>
    some v445
  else
    none
noncomputable def z101b : AC :=
  (.seq (.region [(iO 4 (.mv (.c (.tv (.sl .str) (([] : List (List UInt8)) : List (List UInt8))))))])
  (.seq (.region [(iC 6 111 []),
    (iO 5 (.mv (.t 6)))])
  (.seq (.seq (.region [(iO 7 (.mv (.t 0)))])
  (.unit 0 z101u0d false z101u0b))
  (.seq (.seq (.region [(iO 9 (.mv (.t 1))),
    (iO 10 (.mv (.t 5))),
    (iO 11 (.len (.t 10))),
    (iO 12 (.bin .geq (.t 9) (.t 11)))])
  (.cond (.t 12)
  (.seq (.region [(iO 4 (.mv (.c (.tv (.sl .str) (([] : List (List UInt8)) : List (List UInt8))))))])
    .ret)
  .skip))
  (.seq (.region [(iO 13 (.mv (.t 5))),
    (iO 14 (.mv (.t 1))),
    (iO 15 (.iads .str (.t 13) (.t 14))),
    (iO 16 (.load false 1 (.t 15))),
    (iC 17 113 [((.t 16), none)]),
    (iO 4 (.mv (.t 17)))])
  .ret)))))
noncomputable def z101f : FDef := ⟨2, 18, [.tmp 4 (some (.sl .str))], z101b⟩
noncomputable def z101p : XPat := ⟨.normal, [(.tv .bool), (.tv (.int .i64))], []⟩
noncomputable def z101x : List XPat := [⟨.ret, [(.tv (.sl .str))], []⟩]
noncomputable def z101t (k : Nat) (d : z101p.D) : Option (XD z101x) := overspillref09_rows k d.1 d.2
noncomputable def z101_e (k : Nat) : UEntry := mkU z101p z101x (z101t k) nilU
theorem z101_n (k : Nat) : UNat (z101_e k) := mkU_nat nilU_nat
theorem z101_fu (k : Nat) : FU P GL 109 (z101_e k) :=
  fn_typed (uorc := uorT (z101U1 k)) hmo (T98_ok k).oo (z101U1_k k) (fd := z101f) (AllU.seq (AllU.no (by kernel_rfl)) (AllU.seq (AllU.no (by kernel_rfl)) (AllU.seq (AllU.seq (AllU.no (by kernel_rfl)) (AllU.unit (uorc := uorT (z101U1 k)) (u := 0) (z101u0_k k))) (AllU.no (by kernel_rfl))))) (fn := Tryz.f109) (by kernel_rfl) (by kernel_rfl) (fun d => by kernel_rfl) FU_nil
noncomputable def T99 (k : Nat) : List (Nat × Ent) := (109, ⟨z101_e k⟩) :: T98 k
theorem T99_ok (k : Nat) : TabOK P GL (T99 k) := (T98_ok k).cons (z101_fu k) (z101_n k)
/-! ### overspill.overspillref09.has -/
noncomputable def z102U0 (_ : Nat) : List (Nat × Ent) := []
theorem z102U0_k (k : Nat) : UTab (z102U0 k) := UTab.nil
noncomputable def overspillref09_has (k : Nat) (x0 : Bool) (x1 : Int) (x2 : Int) : Option (List UInt8) :=
  Option.bind (overspillref09_rows k x0 x1) fun (v446 : List (List UInt8)) =>
  bif (decide (((List.length v446 : Nat) : Int) < x2)) then
    some ([] : List UInt8)
  else
  bif (inR (wr .i64 (x2 - 1)) (List.length v446)) then
    some (List.getD v446 (Int.toNat (wr .i64 (x2 - 1))) ([] : List UInt8))
  else
    none
noncomputable def z102b : AC :=
  (.seq (.region [(iO 6 (.mv (.c (.tv .str (([] : List UInt8) : List UInt8)))))])
  (.seq (.region [(iO 8 (.mv (.t 0))),
    (iO 9 (.mv (.t 1))),
    (iC 10 109 [((.t 8), none), ((.t 9), none)]),
    (iO 7 (.mv (.t 10)))])
  (.seq (.seq (.region [(iO 11 (.mv (.t 2))),
    (iO 12 (.mv (.t 7))),
    (iO 13 (.len (.t 12))),
    (iO 14 (.bin .gtr (.t 11) (.t 13)))])
  (.cond (.t 14)
  (.seq (.region [(iO 6 (.mv (.c (.tv .str (([] : List UInt8) : List UInt8)))))])
    .ret)
  .skip))
  (.seq (.region [(iO 15 (.mv (.t 7))),
    (iO 16 (.mv (.t 2))),
    (iO 17 (.bin .sub (.t 16) (nI 1))),
    (iO 18 (.iads .str (.t 15) (.t 17))),
    (iO 19 (.load false 1 (.t 18))),
    (iO 6 (.mv (.t 19)))])
  .ret))))
noncomputable def z102f : FDef := ⟨3, 20, [.tmp 6 none], z102b⟩
noncomputable def z102p : XPat := ⟨.normal, [(.tv .bool), (.tv (.int .i64)), (.tv (.int .i64))], []⟩
noncomputable def z102x : List XPat := [⟨.ret, [(.tv .str)], []⟩]
noncomputable def z102t (k : Nat) (d : z102p.D) : Option (XD z102x) := overspillref09_has k d.1 d.2.1 d.2.2
noncomputable def z102_e (k : Nat) : UEntry := mkU z102p z102x (z102t k) nilU
theorem z102_n (k : Nat) : UNat (z102_e k) := mkU_nat nilU_nat
theorem z102_fu (k : Nat) : FU P GL 103 (z102_e k) :=
  fn_typed (uorc := uorT (z102U0 k)) hmo (T99_ok k).oo (z102U0_k k) (fd := z102f) (AllU.no (by kernel_rfl)) (fn := Tryz.f103) (by kernel_rfl) (by kernel_rfl) (fun d => by kernel_rfl) FU_nil
noncomputable def T100 (k : Nat) : List (Nat × Ent) := (103, ⟨z102_e k⟩) :: T99 k
theorem T100_ok (k : Nat) : TabOK P GL (T100 k) := (T99_ok k).cons (z102_fu k) (z102_n k)
/-! ### overspill.overspillref09.sign -/
noncomputable def z103U0 (_ : Nat) : List (Nat × Ent) := []
theorem z103U0_k (k : Nat) : UTab (z103U0 k) := UTab.nil
noncomputable def overspillref09_sign (k : Nat) (x0 : Int) : Option (List UInt8) :=
  bif (decide (x0 < 0)) then
    some ([49] : List UInt8)
  else
  some ([48] : List UInt8)
noncomputable def z103b : AC :=
  (.seq (.region [(iO 2 (.mv (.c (.tv .str (([] : List UInt8) : List UInt8)))))])
  (.seq (.seq (.region [(iO 3 (.mv (.t 0))),
    (iO 4 (.bin .lss (.t 3) (nI 0)))])
  (.cond (.t 4)
  (.seq (.region [(iO 2 (.mv (.c (.tv .str (([49] : List UInt8) : List UInt8)))))])
    .ret)
  .skip))
  (.seq (.region [(iO 2 (.mv (.c (.tv .str (([48] : List UInt8) : List UInt8)))))])
  .ret)))
noncomputable def z103f : FDef := ⟨1, 5, [.tmp 2 none], z103b⟩
noncomputable def z103p : XPat := ⟨.normal, [(.tv (.int .i64))], []⟩
noncomputable def z103x : List XPat := [⟨.ret, [(.tv .str)], []⟩]
noncomputable def z103t (k : Nat) (d : z103p.D) : Option (XD z103x) := overspillref09_sign k d
noncomputable def z103_e (k : Nat) : UEntry := mkU z103p z103x (z103t k) nilU
theorem z103_n (k : Nat) : UNat (z103_e k) := mkU_nat nilU_nat
theorem z103_fu (k : Nat) : FU P GL 105 (z103_e k) :=
  fn_typed (uorc := uorT (z103U0 k)) hmo (T100_ok k).oo (z103U0_k k) (fd := z103f) (AllU.no (by kernel_rfl)) (fn := Tryz.f105) (by kernel_rfl) (by kernel_rfl) (fun d => by kernel_rfl) FU_nil
noncomputable def T101 (k : Nat) : List (Nat × Ent) := (105, ⟨z103_e k⟩) :: T100 k
theorem T101_ok (k : Nat) : TabOK P GL (T101 k) := (T100_ok k).cons (z103_fu k) (z103_n k)
/-! ### overspill.overspillref09.Row -/
noncomputable def z104U0 (_ : Nat) : List (Nat × Ent) := []
theorem z104U0_k (k : Nat) : UTab (z104U0 k) := UTab.nil
noncomputable def z104u0d : UDef := ⟨[(4, none), (25, none)], [4], [(.normal, [(4, none)])], []⟩
noncomputable def z104u0p : XPat := ⟨.normal, [(.tv .str), (.tv .bool)], []⟩
noncomputable def z104u0x : List XPat := [⟨.normal, [(.tv .str)], []⟩]
noncomputable def overspillref09_Rowu0 (k : Nat) (x0 : List UInt8) (x1 : Bool) : Option (List UInt8) :=
  bif x1 then
    some ([49] : List UInt8)
  else
  some x0
noncomputable def z104u0b : AC :=
  (.cond (.t 25)
  (.region [(iO 4 (.mv (.c (.tv .str (([49] : List UInt8) : List UInt8)))))])
  .skip)
noncomputable def z104u0t (k : Nat) (d : z104u0p.D) : Option (XD z104u0x) := overspillref09_Rowu0 k d.1 d.2
theorem z104u0_k (k : Nat) : UOK P GL (mkU z104u0p z104u0x (z104u0t k) nilU) z104u0d false z104u0b :=
  unit_typed (ud := z104u0d) (body := z104u0b) (uorc := uorT (z104U0 k)) hmo (T101_ok k).oo (z104U0_k k) (AllU.no (by kernel_rfl)) (fun d => by kernel_rfl)
noncomputable def z104U1 (k : Nat) : List (Nat × Ent) := (0, ⟨mkU z104u0p z104u0x (z104u0t k) nilU⟩) :: z104U0 k
theorem z104U1_k (k : Nat) : UTab (z104U1 k) := (z104U0_k k).cons (mkU_nat nilU_nat)
noncomputable def z104u1d : UDef := ⟨[(5, none), (29, none)], [5, 30, 31], [(.normal, [(5, none)])], []⟩
noncomputable def z104u1p : XPat := ⟨.normal, [(.tv (.int .i64)), (.tv .bool)], []⟩
noncomputable def z104u1x : List XPat := [⟨.normal, [(.tv (.int .i64))], []⟩]
noncomputable def overspillref09_Rowu1 (k : Nat) (x0 : Int) (x1 : Bool) : Option (Int) :=
  bif x1 then
    some (wr .i64 (256 + x0))
  else
  some x0
noncomputable def z104u1b : AC :=
  (.cond (.t 29)
  (.region [(iO 30 (.mv (.t 5))),
      (iO 31 (.bin .add (nI 256) (.t 30))),
      (iO 5 (.mv (.t 31)))])
  .skip)
noncomputable def z104u1t (k : Nat) (d : z104u1p.D) : Option (XD z104u1x) := overspillref09_Rowu1 k d.1 d.2
theorem z104u1_k (k : Nat) : UOK P GL (mkU z104u1p z104u1x (z104u1t k) nilU) z104u1d false z104u1b :=
  unit_typed (ud := z104u1d) (body := z104u1b) (uorc := uorT (z104U1 k)) hmo (T101_ok k).oo (z104U1_k k) (AllU.no (by kernel_rfl)) (fun d => by kernel_rfl)
noncomputable def z104U2 (k : Nat) : List (Nat × Ent) := (1, ⟨mkU z104u1p z104u1x (z104u1t k) nilU⟩) :: z104U1 k
theorem z104U2_k (k : Nat) : UTab (z104U2 k) := (z104U1_k k).cons (mkU_nat nilU_nat)
noncomputable def overspillref09_Row (k : Nat) (x0 : DEvent) : Option (List UInt8) :=
  Option.bind (overspillref09_Right k x0) fun (v438 : Bool) =>
  bif (!v438) then
    some ([] : List UInt8)
  else
  Option.bind (overspillref09_amount k x0.2.2.1) fun (v439 : Int) =>
  Option.bind (overspillref09_has k x0.1 x0.2.1 v439) fun (v447 : List UInt8) =>
  bif (!(decide (v447 = ([] : List UInt8)))) then
    Option.bind (overspillref09_sign k x0.2.2.1) fun (v448 : List UInt8) =>
    bif (decide ((List.length v447) + (List.length v448) ≤ strMax)) then
      some (v447 ++ v448)
    else
      none
  else
  Option.bind (overspillref09_Rowu0 k ([48] : List UInt8) x0.1) fun (v449 : List UInt8) =>
  Option.bind (overspillref09_Rowu1 k x0.2.2.1 (decide (x0.2.2.1 < 0))) fun (v450 : Int) =>
  bif (decide (7 + (List.length v449) ≤ strMax)) then
    Option.bind (overspillref02_Row k x0.2.1 6) fun (v451 : List UInt8) =>
    bif (decide ((List.length (([48, 48, 48, 48, 48, 49, 49] : List UInt8) ++ v449)) + (List.length v451) ≤ strMax)) then
      Option.bind (overspillref02_Row k v450 8) fun (v452 : List UInt8) =>
      bif (decide ((List.length ((([48, 48, 48, 48, 48, 49, 49] : List UInt8) ++ v449) ++ v451)) + (List.length v452) ≤ strMax)) then
        some (((([48, 48, 48, 48, 48, 49, 49] : List UInt8) ++ v449) ++ v451) ++ v452)
      else
        none
    else
      none
  else
    none
noncomputable def z104b : AC :=
  (.seq (.region [(iO 1 (.box (.t 0))),
    (iO 2 (.mv (.c (.tv .str (([] : List UInt8) : List UInt8)))))])
  (.seq (.seq (.region [(iO 6 (.load true 3 (.t 1))),
    (iC 7 102 [((.t 6), some YEvent)]),
    (iO 8 (.un .not (.t 7)))])
  (.cond (.t 8)
  (.seq (.region [(iO 2 (.mv (.c (.tv .str (([] : List UInt8) : List UInt8)))))])
    .ret)
  .skip))
  (.seq (.draw [(iO 9 (.fad 0 0 (.t 1))),
    (iOa 10 (.load false 1 (.t 9)) [0]),
    (iO 11 (.fad 1 1 (.t 1))),
    (iOa 12 (.load false 1 (.t 11)) [2]),
    (iO 13 (.fad 2 2 (.t 1))),
    (iOa 14 (.load false 1 (.t 13)) [4]),
    (iCa 15 104 [((.t 14), none)] [4, 5]),
    (iCa 16 103 [((.t 10), none), ((.t 12), none), ((.t 15), none)] (rg [0, 7])),
    (iOa 3 (.mv (.t 16)) (rg [0, 8]))])
  (.seq (.seq (.region [(iO 17 (.mv (.t 3))),
    (iO 18 (.bin .neq (.t 17) (.c (.tv .str (([] : List UInt8) : List UInt8)))))])
  (.cond (.t 18)
  (.seq (.region [(iO 19 (.mv (.t 3))),
      (iO 20 (.fad 2 2 (.t 1))),
      (iO 21 (.load false 1 (.t 20))),
      (iC 22 105 [((.t 21), none)]),
      (iO 23 (.bin .add (.t 19) (.t 22))),
      (iO 2 (.mv (.t 23)))])
    .ret)
  .skip))
  (.seq (.region [(iO 4 (.mv (.c (.tv .str (([48] : List UInt8) : List UInt8)))))])
  (.seq (.seq (.region [(iO 24 (.fad 0 0 (.t 1))),
    (iO 25 (.load false 1 (.t 24)))])
  (.unit 0 z104u0d false z104u0b))
  (.seq (.region [(iO 26 (.fad 2 2 (.t 1))),
    (iO 27 (.load false 1 (.t 26))),
    (iO 5 (.mv (.t 27)))])
  (.seq (.seq (.region [(iO 28 (.mv (.t 5))),
    (iO 29 (.bin .lss (.t 28) (nI 0)))])
  (.unit 1 z104u1d false z104u1b))
  (.seq (.region [(iO 32 (.mv (.t 4))),
    (iO 33 (.bin .add (.c (.tv .str (([48, 48, 48, 48, 48, 49, 49] : List UInt8) : List UInt8))) (.t 32))),
    (iO 34 (.fad 1 1 (.t 1))),
    (iO 35 (.load false 1 (.t 34))),
    (iC 36 66 [((.t 35), none), ((nI 6), none)]),
    (iO 37 (.bin .add (.t 33) (.t 36))),
    (iO 38 (.mv (.t 5))),
    (iC 39 66 [((.t 38), none), ((nI 8), none)]),
    (iO 40 (.bin .add (.t 37) (.t 39))),
    (iO 2 (.mv (.t 40)))])
  .ret)))))))))
noncomputable def z104f : FDef := ⟨1, 41, [.tmp 2 none], z104b⟩
noncomputable def z104p : XPat := ⟨.normal, [(.tv YEvent)], []⟩
noncomputable def z104x : List XPat := [⟨.ret, [(.tv .str)], []⟩]
noncomputable def z104t (k : Nat) (d : z104p.D) : Option (XD z104x) := overspillref09_Row k d
noncomputable def z104_e (k : Nat) : UEntry := mkU z104p z104x (z104t k) nilU
theorem z104_n (k : Nat) : UNat (z104_e k) := mkU_nat nilU_nat
theorem z104_fu (k : Nat) : FU P GL 91 (z104_e k) :=
  fn_typed (uorc := uorT (z104U2 k)) hmo (T101_ok k).oo (z104U2_k k) (fd := z104f) (AllU.seq (AllU.no (by kernel_rfl)) (AllU.seq (AllU.no (by kernel_rfl)) (AllU.seq (AllU.no (by kernel_rfl)) (AllU.seq (AllU.no (by kernel_rfl)) (AllU.seq (AllU.no (by kernel_rfl)) (AllU.seq (AllU.seq (AllU.no (by kernel_rfl)) (AllU.unit (uorc := uorT (z104U2 k)) (u := 0) (z104u0_k k))) (AllU.seq (AllU.no (by kernel_rfl)) (AllU.seq (AllU.seq (AllU.no (by kernel_rfl)) (AllU.unit (uorc := uorT (z104U2 k)) (u := 1) (z104u1_k k))) (AllU.no (by kernel_rfl)))))))))) (fn := Tryz.f91) (by kernel_rfl) (by kernel_rfl) (fun d => by kernel_rfl) FU_nil
noncomputable def T102 (k : Nat) : List (Nat × Ent) := (91, ⟨z104_e k⟩) :: T101 k
theorem T102_ok (k : Nat) : TabOK P GL (T102 k) := (T101_ok k).cons (z104_fu k) (z104_n k)
/-! ### overspill.overspillref15.Row -/
noncomputable def z105U0 (_ : Nat) : List (Nat × Ent) := []
theorem z105U0_k (k : Nat) : UTab (z105U0 k) := UTab.nil
noncomputable def z105u0d : UDef := ⟨[(1, none), (11, none)], [1], [(.normal, [(1, none)])], []⟩
noncomputable def z105u0p : XPat := ⟨.normal, [(.tv (.int .i64)), (.tv .bool)], []⟩
noncomputable def z105u0x : List XPat := [⟨.normal, [(.tv (.int .i64))], []⟩]
noncomputable def overspillref15_Rowu0 (k : Nat) (x0 : Int) (x1 : Bool) : Option (Int) :=
  bif x1 then
    some 255
  else
  some x0
noncomputable def z105u0b : AC :=
  (.cond (.t 11)
  (.region [(iO 1 (.mv (nI 255)))])
  .skip)
noncomputable def z105u0t (k : Nat) (d : z105u0p.D) : Option (XD z105u0x) := overspillref15_Rowu0 k d.1 d.2
theorem z105u0_k (k : Nat) : UOK P GL (mkU z105u0p z105u0x (z105u0t k) nilU) z105u0d false z105u0b :=
  unit_typed (ud := z105u0d) (body := z105u0b) (uorc := uorT (z105U0 k)) hmo (T102_ok k).oo (z105U0_k k) (AllU.no (by kernel_rfl)) (fun d => by kernel_rfl)
noncomputable def z105U1 (k : Nat) : List (Nat × Ent) := (0, ⟨mkU z105u0p z105u0x (z105u0t k) nilU⟩) :: z105U0 k
theorem z105U1_k (k : Nat) : UTab (z105U1 k) := (z105U0_k k).cons (mkU_nat nilU_nat)
noncomputable def z105u1d : UDef := ⟨[(1, none), (7, none), (9, none)], [1, 7, 10, 11, 12, 13], [(.normal, [(7, none)])], []⟩
noncomputable def z105u1p : XPat := ⟨.normal, [(.tv (.int .i64)), (.tv .str), (.tv .bool)], []⟩
noncomputable def z105u1x : List XPat := [⟨.normal, [(.tv .str)], []⟩]
noncomputable def overspillref15_Rowu1 (k : Nat) (x0 : Int) (x1 : List UInt8) (x2 : Bool) : Option (List UInt8) :=
  bif x2 then
    Option.bind (overspillref15_Rowu0 k x0 (decide (x0 = 128))) fun (v435 : Int) =>
    Option.bind (overspillref02_Row k v435 8) fun (v436 : List UInt8) =>
    some v436
  else
  some x1
noncomputable def z105u1b : AC :=
  (.cond (.t 9)
  (.seq (.seq (.region [(iO 10 (.mv (.t 1))),
      (iO 11 (.bin .eql (.t 10) (nI 128)))])
    (.unit 0 z105u0d false z105u0b))
    (.region [(iO 12 (.mv (.t 1))),
      (iC 13 66 [((.t 12), none), ((nI 8), none)]),
      (iO 7 (.mv (.t 13)))]))
  .skip)
noncomputable def z105u1t (k : Nat) (d : z105u1p.D) : Option (XD z105u1x) := overspillref15_Rowu1 k d.1 d.2.1 d.2.2
theorem z105u1_k (k : Nat) : UOK P GL (mkU z105u1p z105u1x (z105u1t k) nilU) z105u1d false z105u1b :=
  unit_typed (ud := z105u1d) (body := z105u1b) (uorc := uorT (z105U1 k)) hmo (T102_ok k).oo (z105U1_k k) (AllU.cond (AllU.seq (AllU.seq (AllU.no (by kernel_rfl)) (AllU.unit (uorc := uorT (z105U1 k)) (u := 0) (z105u0_k k))) (AllU.no (by kernel_rfl))) (AllU.no (by kernel_rfl))) (fun d => by kernel_rfl)
noncomputable def z105U2 (k : Nat) : List (Nat × Ent) := (1, ⟨mkU z105u1p z105u1x (z105u1t k) nilU⟩) :: z105U1 k
theorem z105U2_k (k : Nat) : UTab (z105U2 k) := (z105U1_k k).cons (mkU_nat nilU_nat)
noncomputable def z105u2d : UDef := ⟨[(2, none), (7, none), (8, none)], [7, 8, 14, 15, 16, 17, 18, 19, 20, 21, 22, 23, 24, 25, 26], [((.exit 0), [(7, none)])], []⟩
noncomputable def z105u2p : XPat := ⟨.normal, [(.tv (.sl YEvent)), (.tv .str), (.tv (.int .i64))], []⟩
noncomputable def z105u2x : List XPat := [⟨(.exit 0), [(.tv .str)], []⟩]
noncomputable def overspillref15_Rowu2 (k : Nat) : Nat → (List (DEvent)) → (List UInt8) → (Int) → Option (List UInt8)
  | 0, _, _, _ => none
  | n + 1, x0, x1, x2 =>
    bif (decide (x2 < ((List.length x0 : Nat) : Int))) then
      bif (inR x2 (List.length x0)) then
        Option.bind (overspillref09_Row k (List.getD x0 (Int.toNat x2) (false, (0, (0, ()))))) fun (v454 : List UInt8) =>
        bif (decide ((List.length x1) + (List.length v454) ≤ strMax)) then
          Option.bind (overspillref15_Rowu2 k n x0 (x1 ++ v454) (wr .i64 (x2 + 1))) fun r => some r
        else
          none
      else
        none
    else
    some x1
noncomputable def z105u2b : AC :=
  (.seq (.seq (.region [(iO 14 (.mv (.t 8))),
    (iO 15 (.mv (.t 2))),
    (iO 16 (.len (.t 15))),
    (iO 17 (.bin .lss (.t 14) (.t 16)))])
  (.cond (.t 17)
  .skip
  (.exit 0)))
  (.seq (.block 1 (.region [(iO 20 (.mv (.t 7))),
    (iO 21 (.mv (.t 2))),
    (iO 22 (.mv (.t 8))),
    (iO 23 (.iads YEvent (.t 21) (.t 22))),
    (iO 24 (.load true 3 (.t 23))),
    (iC 25 91 [((.t 24), some YEvent)]),
    (iO 26 (.bin .add (.t 20) (.t 25))),
    (iO 7 (.mv (.t 26)))]))
  (.region [(iO 18 (.mv (.t 8))),
    (iO 19 (.bin .add (.t 18) (nI 1))),
    (iO 8 (.mv (.t 19)))])))
noncomputable def z105u2t (k n : Nat) (d : z105u2p.D) : Option (XD z105u2x) := overspillref15_Rowu2 k n d.1 d.2.1 d.2.2
theorem z105u2_k (k : Nat) : UOK P GL (mkU z105u2p z105u2x (z105u2t k k) nilU) z105u2d true z105u2b :=
  loop_typed (ud := z105u2d) (body := z105u2b) (uorc := uorT (z105U2 k)) hmo (T102_ok k).oo (z105U2_k k) (AllU.no (by kernel_rfl)) (t := z105u2t k) (fun d => by kernel_rfl) (fun n d => by kernel_rfl) k
noncomputable def z105U3 (k : Nat) : List (Nat × Ent) := (2, ⟨mkU z105u2p z105u2x (z105u2t k k) nilU⟩) :: z105U2 k
theorem z105U3_k (k : Nat) : UTab (z105U3 k) := (z105U2_k k).cons (mkU_nat nilU_nat)
noncomputable def overspillref15_Row (k : Nat) (x0 : Bool) (x1 : Int) (x2 : List (DEvent)) : Option (List UInt8) :=
  Option.bind (overspillref15_Rowu1 k x1 ([] : List UInt8) x0) fun (v437 : List UInt8) =>
  Option.bind (overspillref15_Rowu2 k k x2 v437 0) fun (v455 : List UInt8) =>
  some v455
noncomputable def z105b : AC :=
  (.seq (.region [(iO 6 (.mv (.c (.tv .str (([] : List UInt8) : List UInt8)))))])
  (.seq (.region [(iO 7 (.mv (.c (.tv .str (([] : List UInt8) : List UInt8)))))])
  (.seq (.seq (.region [(iO 9 (.mv (.t 0)))])
  (.unit 1 z105u1d false z105u1b))
  (.seq (.seq (.region [(iO 8 (.mv (nI 0)))])
  (.block 0 (.unit 2 z105u2d true z105u2b)))
  (.seq (.region [(iO 27 (.mv (.t 7))),
    (iO 6 (.mv (.t 27)))])
  .ret)))))
noncomputable def z105f : FDef := ⟨3, 28, [.tmp 6 none], z105b⟩
noncomputable def z105p : XPat := ⟨.normal, [(.tv .bool), (.tv (.int .i64)), (.tv (.sl YEvent))], []⟩
noncomputable def z105x : List XPat := [⟨.ret, [(.tv .str)], []⟩]
noncomputable def z105t (k : Nat) (d : z105p.D) : Option (XD z105x) := overspillref15_Row k d.1 d.2.1 d.2.2
noncomputable def z105_e (k : Nat) : UEntry := mkU z105p z105x (z105t k) nilU
theorem z105_n (k : Nat) : UNat (z105_e k) := mkU_nat nilU_nat
theorem z105_fu (k : Nat) : FU P GL 72 (z105_e k) :=
  fn_typed (uorc := uorT (z105U3 k)) hmo (T102_ok k).oo (z105U3_k k) (fd := z105f) (AllU.seq (AllU.no (by kernel_rfl)) (AllU.seq (AllU.no (by kernel_rfl)) (AllU.seq (AllU.seq (AllU.no (by kernel_rfl)) (AllU.unit (uorc := uorT (z105U3 k)) (u := 1) (z105u1_k k))) (AllU.seq (AllU.seq (AllU.no (by kernel_rfl)) (AllU.block (AllU.unit (uorc := uorT (z105U3 k)) (u := 2) (z105u2_k k)))) (AllU.no (by kernel_rfl)))))) (fn := Tryz.f72) (by kernel_rfl) (by kernel_rfl) (fun d => by kernel_rfl) FU_nil
noncomputable def T103 (k : Nat) : List (Nat × Ent) := (72, ⟨z105_e k⟩) :: T102 k
theorem T103_ok (k : Nat) : TabOK P GL (T103 k) := (T102_ok k).cons (z105_fu k) (z105_n k)
/-! ### overspill.overspillref22.Row -/
noncomputable def z106U0 (_ : Nat) : List (Nat × Ent) := []
theorem z106U0_k (k : Nat) : UTab (z106U0 k) := UTab.nil
noncomputable def z106u0d : UDef := ⟨[(7, none), (15, none)], [7], [(.normal, [(7, none)])], []⟩
noncomputable def z106u0p : XPat := ⟨.normal, [(.tv .str), (.tv .bool)], []⟩
noncomputable def z106u0x : List XPat := [⟨.normal, [(.tv .str)], []⟩]
noncomputable def overspillref22_Rowu0 (k : Nat) (x0 : List UInt8) (x1 : Bool) : Option (List UInt8) :=
  bif x1 then
    some ([48] : List UInt8)
  else
  some x0
noncomputable def z106u0b : AC :=
  (.cond (.t 15)
  (.region [(iO 7 (.mv (.c (.tv .str (([48] : List UInt8) : List UInt8)))))])
  .skip)
noncomputable def z106u0t (k : Nat) (d : z106u0p.D) : Option (XD z106u0x) := overspillref22_Rowu0 k d.1 d.2
theorem z106u0_k (k : Nat) : UOK P GL (mkU z106u0p z106u0x (z106u0t k) nilU) z106u0d false z106u0b :=
  unit_typed (ud := z106u0d) (body := z106u0b) (uorc := uorT (z106U0 k)) hmo (T103_ok k).oo (z106U0_k k) (AllU.no (by kernel_rfl)) (fun d => by kernel_rfl)
noncomputable def z106U1 (k : Nat) : List (Nat × Ent) := (0, ⟨mkU z106u0p z106u0x (z106u0t k) nilU⟩) :: z106U0 k
theorem z106U1_k (k : Nat) : UTab (z106U1 k) := (z106U0_k k).cons (mkU_nat nilU_nat)
noncomputable def z106u1d : UDef := ⟨[(0, none), (5, none), (7, none), (8, none), (9, none)], [8, 9, 16, 17, 18, 19, 20, 21, 22, 23, 24, 25, 26, 27], [((.exit 0), [(8, none)])], []⟩
noncomputable def z106u1p : XPat := ⟨.normal, [(.tv .bool), (.ptr 0 []), (.tv .str), (.tv .str), (.tv (.int .i64))], [(.box (.tv YCell))]⟩
noncomputable def z106u1x : List XPat := [⟨(.exit 0), [(.tv .str)], [(.box (.tv YCell))]⟩]
noncomputable def overspillref22_Rowu1 (k : Nat) : Nat → (Bool) → (List UInt8) → (List UInt8) → (Int) → (DCell) → Option ((List UInt8) × (DCell))
  | 0, _, _, _, _, _ => none
  | n + 1, x0, x1, x2, x3, x4 =>
    bif (decide (x3 < x4.1)) then
      bif (decide ((List.length x2) + (List.length x1) ≤ strMax)) then
        Option.bind (overspillref06_Row k x0 5 0) fun (v409 : List UInt8) =>
        bif (decide ((List.length (x2 ++ x1)) + (List.length v409) ≤ strMax)) then
          Option.bind (overspillref22_Rowu1 k n x0 x1 ((x2 ++ x1) ++ v409) (wr .i64 (x3 + 1)) x4) fun r => some r
        else
          none
      else
        none
    else
    some (x2, x4)
noncomputable def z106u1b : AC :=
  (.seq (.seq (.region [(iO 16 (.mv (.t 9))),
    (iO 17 (.fad 0 0 (.t 5))),
    (iO 18 (.load false 1 (.t 17))),
    (iO 19 (.bin .lss (.t 16) (.t 18)))])
  (.cond (.t 19)
  .skip
  (.exit 0)))
  (.seq (.block 1 (.region [(iO 22 (.mv (.t 8))),
    (iO 23 (.mv (.t 7))),
    (iO 24 (.bin .add (.t 22) (.t 23))),
    (iO 25 (.mv (.t 0))),
    (iC 26 67 [((.t 25), none), ((nI 5), none), ((nI 0), none)]),
    (iO 27 (.bin .add (.t 24) (.t 26))),
    (iO 8 (.mv (.t 27)))]))
  (.region [(iO 20 (.mv (.t 9))),
    (iO 21 (.bin .add (.t 20) (nI 1))),
    (iO 9 (.mv (.t 21)))])))
noncomputable def z106u1t (k n : Nat) (d : z106u1p.D) : Option (XD z106u1x) := overspillref22_Rowu1 k n d.1.1 d.1.2.2.1 d.1.2.2.2.1 d.1.2.2.2.2 d.2
theorem z106u1_k (k : Nat) : UOK P GL (mkU z106u1p z106u1x (z106u1t k k) nilU) z106u1d true z106u1b :=
  loop_typed (ud := z106u1d) (body := z106u1b) (uorc := uorT (z106U1 k)) hmo (T103_ok k).oo (z106U1_k k) (AllU.no (by kernel_rfl)) (t := z106u1t k) (fun d => by kernel_rfl) (fun n d => by kernel_rfl) k
noncomputable def z106U2 (k : Nat) : List (Nat × Ent) := (1, ⟨mkU z106u1p z106u1x (z106u1t k k) nilU⟩) :: z106U1 k
theorem z106U2_k (k : Nat) : UTab (z106U2 k) := (z106U1_k k).cons (mkU_nat nilU_nat)
noncomputable def z106u2d : UDef := ⟨[(5, none), (10, none), (11, none)], [10, 11, 32, 33, 34, 35, 36, 37, 38, 39, 40, 41, 42, 43, 44, 45], [((.exit 2), [(10, none)])], []⟩
noncomputable def z106u2p : XPat := ⟨.normal, [(.ptr 0 []), (.tv (.int .i64)), (.tv (.int .i64))], [(.box (.tv YCell))]⟩
noncomputable def z106u2x : List XPat := [⟨(.exit 2), [(.tv (.int .i64))], [(.box (.tv YCell))]⟩]
noncomputable def overspillref22_Rowu2 (k : Nat) : Nat → (Int) → (Int) → (DCell) → Option ((Int) × (DCell))
  | 0, _, _, _ => none
  | n + 1, x0, x1, x2 =>
    bif (decide (x1 < 4)) then
      bif (inR x1 6) then
        bif (decide ((0 : Int) < ((List.length (List.getD x2.2.2.2.2.2.2.1 (Int.toNat x1) ([] : List (DEvent))) : Nat) : Int))) then
          Option.bind (overspillref22_Rowu2 k n (wr .i64 ((wr .i64 (2 * x0)) + 1)) (wr .i64 (x1 + 1)) x2) fun r => some r
        else
        Option.bind (overspillref22_Rowu2 k n (wr .i64 (2 * x0)) (wr .i64 (x1 + 1)) x2) fun r => some r
      else
        none
    else
    some (x0, x2)
noncomputable def z106u2b : AC :=
  (.seq (.seq (.region [(iO 32 (.mv (.t 11))),
    (iO 33 (.bin .lss (.t 32) (nI 4)))])
  (.cond (.t 33)
  .skip
  (.exit 2)))
  (.seq (.block 3 (.seq (.region [(iO 36 (.mv (.t 10))),
    (iO 37 (.bin .mul (nI 2) (.t 36))),
    (iO 10 (.mv (.t 37)))])
  (.seq (.region [(iO 38 (.mv (.t 11))),
    (iO 39 (.fad 6 12 (.t 5))),
    (iO 40 (.iad 6 1 (.t 39) (.t 38))),
    (iO 41 (.load false 1 (.t 40))),
    (iO 42 (.len (.t 41))),
    (iO 43 (.bin .gtr (.t 42) (nI 0)))])
  (.cond (.t 43)
  (.region [(iO 44 (.mv (.t 10))),
      (iO 45 (.bin .add (.t 44) (nI 1))),
      (iO 10 (.mv (.t 45)))])
  .skip))))
  (.region [(iO 34 (.mv (.t 11))),
    (iO 35 (.bin .add (.t 34) (nI 1))),
    (iO 11 (.mv (.t 35)))])))
noncomputable def z106u2t (k n : Nat) (d : z106u2p.D) : Option (XD z106u2x) := overspillref22_Rowu2 k n d.1.2.1 d.1.2.2 d.2
theorem z106u2_k (k : Nat) : UOK P GL (mkU z106u2p z106u2x (z106u2t k k) nilU) z106u2d true z106u2b :=
  loop_typed (ud := z106u2d) (body := z106u2b) (uorc := uorT (z106U2 k)) hmo (T103_ok k).oo (z106U2_k k) (AllU.no (by kernel_rfl)) (t := z106u2t k) (fun d => by kernel_rfl) (fun n d => by kernel_rfl) k
noncomputable def z106U3 (k : Nat) : List (Nat × Ent) := (2, ⟨mkU z106u2p z106u2x (z106u2t k k) nilU⟩) :: z106U2 k
theorem z106U3_k (k : Nat) : UTab (z106U3 k) := (z106U2_k k).cons (mkU_nat nilU_nat)
noncomputable def z106u3d : UDef := ⟨[(12, none), (50, none)], [12], [(.normal, [(12, none)])], []⟩
noncomputable def z106u3p : XPat := ⟨.normal, [(.tv (.int .i64)), (.tv .bool)], []⟩
noncomputable def z106u3x : List XPat := [⟨.normal, [(.tv (.int .i64))], []⟩]
noncomputable def overspillref22_Rowu3 (k : Nat) (x0 : Int) (x1 : Bool) : Option (Int) :=
  bif x1 then
    some 2
  else
  some x0
noncomputable def z106u3b : AC :=
  (.cond (.t 50)
  (.region [(iO 12 (.mv (nI 2)))])
  .skip)
noncomputable def z106u3t (k : Nat) (d : z106u3p.D) : Option (XD z106u3x) := overspillref22_Rowu3 k d.1 d.2
theorem z106u3_k (k : Nat) : UOK P GL (mkU z106u3p z106u3x (z106u3t k) nilU) z106u3d false z106u3b :=
  unit_typed (ud := z106u3d) (body := z106u3b) (uorc := uorT (z106U3 k)) hmo (T103_ok k).oo (z106U3_k k) (AllU.no (by kernel_rfl)) (fun d => by kernel_rfl)
noncomputable def z106U4 (k : Nat) : List (Nat × Ent) := (3, ⟨mkU z106u3p z106u3x (z106u3t k) nilU⟩) :: z106U3 k
theorem z106U4_k (k : Nat) : UTab (z106U4 k) := (z106U3_k k).cons (mkU_nat nilU_nat)
noncomputable def z106u4d : UDef := ⟨[(12, none), (55, none)], [12, 56, 57], [(.normal, [(12, none)])], []⟩
noncomputable def z106u4p : XPat := ⟨.normal, [(.tv (.int .i64)), (.tv .bool)], []⟩
noncomputable def z106u4x : List XPat := [⟨.normal, [(.tv (.int .i64))], []⟩]
noncomputable def overspillref22_Rowu4 (k : Nat) (x0 : Int) (x1 : Bool) : Option (Int) :=
  bif x1 then
    some (wr .i64 (x0 + 1))
  else
  some x0
noncomputable def z106u4b : AC :=
  (.cond (.t 55)
  (.region [(iO 56 (.mv (.t 12))),
      (iO 57 (.bin .add (.t 56) (nI 1))),
      (iO 12 (.mv (.t 57)))])
  .skip)
noncomputable def z106u4t (k : Nat) (d : z106u4p.D) : Option (XD z106u4x) := overspillref22_Rowu4 k d.1 d.2
theorem z106u4_k (k : Nat) : UOK P GL (mkU z106u4p z106u4x (z106u4t k) nilU) z106u4d false z106u4b :=
  unit_typed (ud := z106u4d) (body := z106u4b) (uorc := uorT (z106U4 k)) hmo (T103_ok k).oo (z106U4_k k) (AllU.no (by kernel_rfl)) (fun d => by kernel_rfl)
noncomputable def z106U5 (k : Nat) : List (Nat × Ent) := (4, ⟨mkU z106u4p z106u4x (z106u4t k) nilU⟩) :: z106U4 k
theorem z106U5_k (k : Nat) : UTab (z106U5 k) := (z106U4_k k).cons (mkU_nat nilU_nat)
noncomputable def z106u5d : UDef := ⟨[(5, none), (13, none)], [77, 78, 79, 80, 81, 82, 83], [(.normal, [(83, none)])], []⟩
noncomputable def z106u5p : XPat := ⟨.normal, [(.ptr 0 []), (.tv (.int .i64))], [(.box (.tv YCell))]⟩
noncomputable def z106u5x : List XPat := [⟨.normal, [(.tv .bool)], [(.box (.tv YCell))]⟩]
noncomputable def overspillref22_Rowu5 (k : Nat) (x0 : Int) (x1 : DCell) : Option ((Bool) × (DCell)) :=
  bif (decide (x0 < 2)) then
    some ((decide (x1.2.2.1 < 2)), x1)
  else
  some (false, x1)
noncomputable def z106u5b : AC :=
  (.region [(iO 77 (.mv (.t 13))),
    (iO 78 (.bin .lss (.t 77) (nI 2))),
    (iO 79 (.mv (.t 78))),
    ⟨some 80, some (2, 79, true), (.op (.fad 2 2 (.t 5))), []⟩,
    ⟨some 81, some (2, 79, true), (.op (.load false 1 (.t 80))), []⟩,
    ⟨some 82, some (2, 79, true), (.op (.bin .lss (.t 81) (nI 2))), []⟩,
    (iO 83 (.pick (.t 79) (.t 82) (.c (.tv .bool (false : Bool)))))])
noncomputable def z106u5t (k : Nat) (d : z106u5p.D) : Option (XD z106u5x) := overspillref22_Rowu5 k d.1.2 d.2
theorem z106u5_k (k : Nat) : UOK P GL (mkU z106u5p z106u5x (z106u5t k) nilU) z106u5d false z106u5b :=
  unit_typed (ud := z106u5d) (body := z106u5b) (uorc := uorT (z106U5 k)) hmo (T103_ok k).oo (z106U5_k k) (AllU.no (by kernel_rfl)) (fun d => by kernel_rfl)
noncomputable def z106U6 (k : Nat) : List (Nat × Ent) := (5, ⟨mkU z106u5p z106u5x (z106u5t k) nilU⟩) :: z106U5 k
theorem z106U6_k (k : Nat) : UTab (z106U6 k) := (z106U5_k k).cons (mkU_nat nilU_nat)
noncomputable def z106u6d : UDef := ⟨[(4, none), (5, none), (8, none), (13, none)], [8, 13, 77, 78, 79, 80, 81, 82, 83, 84, 85, 86, 87, 88, 89, 90, 91, 92, 93, 94, 95, 96, 97, 98], [((.exit 4), [(8, none)])], []⟩
noncomputable def z106u6p : XPat := ⟨.normal, [(.ptr 0 []), (.ptr 1 []), (.tv .str), (.tv (.int .i64))], [(.box (.tv (.arr 2 (.int .i64)))), (.box (.tv YCell))]⟩
noncomputable def z106u6x : List XPat := [⟨(.exit 4), [(.tv .str)], [(.box (.tv (.arr 2 (.int .i64)))), (.box (.tv YCell))]⟩]
noncomputable def overspillref22_Rowu6 (k : Nat) : Nat → (List UInt8) → (Int) → (List (Int)) → (DCell) → Option ((List UInt8) × ((List (Int)) × (DCell)))
  | 0, _, _, _, _ => none
  | n + 1, x0, x1, x2, x3 =>
    Option.bind (overspillref22_Rowu5 k x1 x3) fun (v427 : (Bool) × (DCell)) =>
    bif v427.1 then
      bif (inR x1 2) then
        bif (inR x1 2) then
          Option.bind (overspillref01_Wrap k (List.getD x2 (Int.toNat x1) 0)) fun (v428 : Int) =>
          Option.bind (overspillref01_Wrap k (wr .i64 ((List.getD v427.2.2.2.2.2.1 (Int.toNat x1) 0) - v428))) fun (v429 : Int) =>
          Option.bind (overspillref08_Row k v429) fun (v430 : List UInt8) =>
          bif (decide ((List.length x0) + (List.length v430) ≤ strMax)) then
            Option.bind (overspillref22_Rowu6 k n (x0 ++ v430) (wr .i64 (x1 + 1)) x2 v427.2) fun r => some r
          else
            none
        else
          none
      else
        none
    else
    some (x0, (x2, v427.2))
noncomputable def z106u6b : AC :=
  (.seq (.seq (.unit 5 z106u5d false z106u5b)
  (.cond (.t 83)
  .skip
  (.exit 4)))
  (.seq (.block 5 (.draw [(iO 86 (.mv (.t 8))),
    (iO 87 (.mv (.t 13))),
    (iO 88 (.fad 4 4 (.t 5))),
    (iOa 89 (.iad 2 1 (.t 88) (.t 87)) [1, 2]),
    (iOa 90 (.load false 1 (.t 89)) [1, 2, 3]),
    (iO 91 (.mv (.t 13))),
    (iOa 92 (.iad 2 1 (.t 4) (.t 91)) [5]),
    (iOa 93 (.load false 1 (.t 92)) [5, 6]),
    (iCa 94 71 [((.t 93), none)] [5, 6, 7]),
    (iOa 95 (.bin .sub (.t 90) (.t 94)) (rg [1, 8])),
    (iCa 96 71 [((.t 95), none)] (rg [1, 9])),
    (iCa 97 70 [((.t 96), none)] (rg [1, 10])),
    (iOa 98 (.bin .add (.t 86) (.t 97)) (rg [0, 12])),
    (iOa 8 (.mv (.t 98)) (rg [0, 13]))]))
  (.region [(iO 84 (.mv (.t 13))),
    (iO 85 (.bin .add (.t 84) (nI 1))),
    (iO 13 (.mv (.t 85)))])))
noncomputable def z106u6t (k n : Nat) (d : z106u6p.D) : Option (XD z106u6x) := overspillref22_Rowu6 k n d.1.2.2.1 d.1.2.2.2 d.2.1 d.2.2
theorem z106u6_k (k : Nat) : UOK P GL (mkU z106u6p z106u6x (z106u6t k k) nilU) z106u6d true z106u6b :=
  loop_typed (ud := z106u6d) (body := z106u6b) (uorc := uorT (z106U6 k)) hmo (T103_ok k).oo (z106U6_k k) (AllU.seq (AllU.seq (AllU.unit (uorc := uorT (z106U6 k)) (u := 5) (z106u5_k k)) (AllU.no (by kernel_rfl))) (AllU.no (by kernel_rfl))) (t := z106u6t k) (fun d => by kernel_rfl) (fun n d => by kernel_rfl) k
noncomputable def z106U7 (k : Nat) : List (Nat × Ent) := (6, ⟨mkU z106u6p z106u6x (z106u6t k k) nilU⟩) :: z106U6 k
theorem z106U7_k (k : Nat) : UTab (z106U7 k) := (z106U6_k k).cons (mkU_nat nilU_nat)
noncomputable def z106u7d : UDef := ⟨[(5, none), (8, none), (14, none)], [8, 14, 99, 100, 101, 102, 103, 104, 105, 106, 107, 108, 109, 110, 111, 112, 113, 114, 115, 116], [((.exit 6), [(8, none)])], []⟩
noncomputable def z106u7p : XPat := ⟨.normal, [(.ptr 0 []), (.tv .str), (.tv (.int .i64))], [(.box (.tv YCell))]⟩
noncomputable def z106u7x : List XPat := [⟨(.exit 6), [(.tv .str)], [(.box (.tv YCell))]⟩]
noncomputable def overspillref22_Rowu7 (k : Nat) : Nat → (List UInt8) → (Int) → (DCell) → Option ((List UInt8) × (DCell))
  | 0, _, _, _ => none
  | n + 1, x0, x1, x2 =>
    bif (decide (x1 < 6)) then
      Option.bind (overspillref21_Intra k x2.2.2.1) fun (v457 : Bool) =>
      bif (inR x1 6) then
        bif (inR x1 6) then
          Option.bind (overspillref15_Row k v457 (List.getD x2.2.2.2.2.2.1 (Int.toNat x1) 0) (List.getD x2.2.2.2.2.2.2.1 (Int.toNat x1) ([] : List (DEvent)))) fun (v458 : List UInt8) =>
          bif (decide ((List.length x0) + (List.length v458) ≤ strMax)) then
            Option.bind (overspillref22_Rowu7 k n (x0 ++ v458) (wr .i64 (x1 + 1)) x2) fun r => some r
          else
            none
        else
          none
      else
        none
    else
    some (x0, x2)
noncomputable def z106u7b : AC :=
  (.seq (.seq (.region [(iO 99 (.mv (.t 14))),
    (iO 100 (.bin .lss (.t 99) (nI 6)))])
  (.cond (.t 100)
  .skip
  (.exit 6)))
  (.seq (.block 7 (.draw [(iO 103 (.mv (.t 8))),
    (iO 104 (.fad 2 2 (.t 5))),
    (iOa 105 (.load false 1 (.t 104)) [1]),
    (iCa 106 34 [((.t 105), none)] [1, 2]),
    (iO 107 (.mv (.t 14))),
    (iO 108 (.fad 5 6 (.t 5))),
    (iOa 109 (.iad 6 1 (.t 108) (.t 107)) [4, 5]),
    (iOa 110 (.load false 1 (.t 109)) [4, 5, 6]),
    (iO 111 (.mv (.t 14))),
    (iO 112 (.fad 6 12 (.t 5))),
    (iOa 113 (.iad 6 1 (.t 112) (.t 111)) [8, 9]),
    (iOa 114 (.load false 1 (.t 113)) [8, 9, 10]),
    (iCa 115 72 [((.t 106), none), ((.t 110), none), ((.t 114), some (.sl YEvent))] (rg [1, 11])),
    (iOa 116 (.bin .add (.t 103) (.t 115)) (rg [0, 13])),
    (iOa 8 (.mv (.t 116)) (rg [0, 14]))]))
  (.region [(iO 101 (.mv (.t 14))),
    (iO 102 (.bin .add (.t 101) (nI 1))),
    (iO 14 (.mv (.t 102)))])))
noncomputable def z106u7t (k n : Nat) (d : z106u7p.D) : Option (XD z106u7x) := overspillref22_Rowu7 k n d.1.2.1 d.1.2.2 d.2
theorem z106u7_k (k : Nat) : UOK P GL (mkU z106u7p z106u7x (z106u7t k k) nilU) z106u7d true z106u7b :=
  loop_typed (ud := z106u7d) (body := z106u7b) (uorc := uorT (z106U7 k)) hmo (T103_ok k).oo (z106U7_k k) (AllU.no (by kernel_rfl)) (t := z106u7t k) (fun d => by kernel_rfl) (fun n d => by kernel_rfl) k
noncomputable def z106U8 (k : Nat) : List (Nat × Ent) := (7, ⟨mkU z106u7p z106u7x (z106u7t k k) nilU⟩) :: z106U7 k
theorem z106U8_k (k : Nat) : UTab (z106U8 k) := (z106U7_k k).cons (mkU_nat nilU_nat)
noncomputable def overspillref22_Row (k : Nat) (x0 : Bool) (x1 : List (Int)) (x2 : DCell) : Option (List UInt8) :=
  Option.bind (overspillref22_Rowu0 k ([] : List UInt8) x0) fun (v405 : List UInt8) =>
  Option.bind (overspillref22_Rowu1 k k x0 v405 ([] : List UInt8) 0 x2) fun (v410 : (List UInt8) × (DCell)) =>
  bif v410.2.2.1 then
    bif (decide ((List.length v410.1) + 1 ≤ strMax)) then
      some (v410.1 ++ ([49] : List UInt8))
    else
      none
  else
  Option.bind (overspillref22_Rowu2 k k 0 0 v410.2) fun (v411 : (Int) × (DCell)) =>
  Option.bind (overspillref22_Rowu3 k 0 (decide ((0 : Int) < ((List.length (List.getD v411.2.2.2.2.2.2.2.1 4 ([] : List (DEvent))) : Nat) : Int)))) fun (v412 : Int) =>
  Option.bind (overspillref22_Rowu4 k v412 (decide ((0 : Int) < ((List.length (List.getD v411.2.2.2.2.2.2.2.1 5 ([] : List (DEvent))) : Nat) : Int)))) fun (v413 : Int) =>
  bif (decide ((List.length v410.1) + (List.length v405) ≤ strMax)) then
    Option.bind (overspillref06_Row k x0 v411.2.2.2.1 v413) fun (v414 : List UInt8) =>
    bif (decide ((List.length (v410.1 ++ v405)) + (List.length v414) ≤ strMax)) then
      Option.bind (overspillref21_Intra k v411.2.2.2.1) fun (v415 : Bool) =>
      Option.bind (overspillref07_Row k v415 v411.1) fun (v419 : List UInt8) =>
      bif (decide ((List.length ((v410.1 ++ v405) ++ v414)) + (List.length v419) ≤ strMax)) then
        Option.bind (overspillref20_Row k v411.2.2.2.2.1) fun (v420 : List UInt8) =>
        bif (decide ((List.length (((v410.1 ++ v405) ++ v414) ++ v419)) + (List.length v420) ≤ strMax)) then
          Option.bind (overspillref22_Rowu6 k k ((((v410.1 ++ v405) ++ v414) ++ v419) ++ v420) 0 x1 v411.2) fun (v431 : (List UInt8) × ((List (Int)) × (DCell))) =>
          Option.bind (overspillref22_Rowu7 k k v431.1 0 v431.2.2) fun (v459 : (List UInt8) × (DCell)) =>
          some v459.1
        else
          none
      else
        none
    else
      none
  else
    none
noncomputable def z106b : AC :=
  (.seq (.region [(iO 4 (.box (.t 1))),
    (iO 5 (.box (.t 2))),
    (iO 6 (.mv (.c (.tv .str (([] : List UInt8) : List UInt8)))))])
  (.seq (.region [(iO 7 (.mv (.c (.tv .str (([] : List UInt8) : List UInt8)))))])
  (.seq (.seq (.region [(iO 15 (.mv (.t 0)))])
  (.unit 0 z106u0d false z106u0b))
  (.seq (.region [(iO 8 (.mv (.c (.tv .str (([] : List UInt8) : List UInt8)))))])
  (.seq (.seq (.region [(iO 9 (.mv (nI 0)))])
  (.block 0 (.unit 1 z106u1d true z106u1b)))
  (.seq (.seq (.region [(iO 28 (.fad 1 1 (.t 5))),
    (iO 29 (.load false 1 (.t 28)))])
  (.cond (.t 29)
  (.seq (.region [(iO 30 (.mv (.t 8))),
      (iO 31 (.bin .add (.t 30) (.c (.tv .str (([49] : List UInt8) : List UInt8))))),
      (iO 6 (.mv (.t 31)))])
    .ret)
  .skip))
  (.seq (.region [(iO 10 (.mv (nI 0)))])
  (.seq (.seq (.region [(iO 11 (.mv (nI 0)))])
  (.block 2 (.unit 2 z106u2d true z106u2b)))
  (.seq (.region [(iO 12 (.mv (nI 0)))])
  (.seq (.seq (.region [(iO 46 (.fad 6 12 (.t 5))),
    (iO 47 (.iad 6 1 (.t 46) (nI 4))),
    (iO 48 (.load false 1 (.t 47))),
    (iO 49 (.len (.t 48))),
    (iO 50 (.bin .gtr (.t 49) (nI 0)))])
  (.unit 3 z106u3d false z106u3b))
  (.seq (.seq (.region [(iO 51 (.fad 6 12 (.t 5))),
    (iO 52 (.iad 6 1 (.t 51) (nI 5))),
    (iO 53 (.load false 1 (.t 52))),
    (iO 54 (.len (.t 53))),
    (iO 55 (.bin .gtr (.t 54) (nI 0)))])
  (.unit 4 z106u4d false z106u4b))
  (.seq (.draw [(iO 58 (.mv (.t 8))),
    (iO 59 (.mv (.t 7))),
    (iOa 60 (.bin .add (.t 58) (.t 59)) [0, 1]),
    (iO 61 (.mv (.t 0))),
    (iO 62 (.fad 2 2 (.t 5))),
    (iOa 63 (.load false 1 (.t 62)) [4]),
    (iO 64 (.mv (.t 12))),
    (iCa 65 67 [((.t 61), none), ((.t 63), none), ((.t 64), none)] (rg [3, 4])),
    (iOa 66 (.bin .add (.t 60) (.t 65)) (rg [0, 8])),
    (iO 67 (.fad 2 2 (.t 5))),
    (iOa 68 (.load false 1 (.t 67)) [9]),
    (iCa 69 34 [((.t 68), none)] (rg [3, 5, 9, 2])),
    (iO 70 (.mv (.t 10))),
    (iCa 71 68 [((.t 69), none), ((.t 70), none)] (rg [3, 5, 9, 4])),
    (iOa 72 (.bin .add (.t 66) (.t 71)) (rg [0, 14])),
    (iO 73 (.fad 3 3 (.t 5))),
    (iOa 74 (.load false 1 (.t 73)) [15]),
    (iCa 75 69 [((.t 74), none)] (rg [3, 5, 9, 5, 15, 2])),
    (iOa 76 (.bin .add (.t 72) (.t 75)) (rg [0, 18])),
    (iOa 8 (.mv (.t 76)) (rg [0, 19]))])
  (.seq (.seq (.region [(iO 13 (.mv (nI 0)))])
  (.block 4 (.unit 6 z106u6d true z106u6b)))
  (.seq (.seq (.region [(iO 14 (.mv (nI 0)))])
  (.block 6 (.unit 7 z106u7d true z106u7b)))
  (.seq (.region [(iO 117 (.mv (.t 8))),
    (iO 6 (.mv (.t 117)))])
  .ret)))))))))))))))
noncomputable def z106f : FDef := ⟨3, 118, [.tmp 6 none], z106b⟩
noncomputable def z106p : XPat := ⟨.normal, [(.tv .bool), (.tv (.arr 2 (.int .i64))), (.tv YCell)], []⟩
noncomputable def z106x : List XPat := [⟨.ret, [(.tv .str)], []⟩]
noncomputable def z106t (k : Nat) (d : z106p.D) : Option (XD z106x) := overspillref22_Row k d.1 d.2.1 d.2.2
noncomputable def z106_e (k : Nat) : UEntry := mkU z106p z106x (z106t k) nilU
theorem z106_n (k : Nat) : UNat (z106_e k) := mkU_nat nilU_nat
theorem z106_fu (k : Nat) : FU P GL 38 (z106_e k) :=
  fn_typed (uorc := uorT (z106U8 k)) hmo (T103_ok k).oo (z106U8_k k) (fd := z106f) (AllU.seq (AllU.no (by kernel_rfl)) (AllU.seq (AllU.no (by kernel_rfl)) (AllU.seq (AllU.seq (AllU.no (by kernel_rfl)) (AllU.unit (uorc := uorT (z106U8 k)) (u := 0) (z106u0_k k))) (AllU.seq (AllU.no (by kernel_rfl)) (AllU.seq (AllU.seq (AllU.no (by kernel_rfl)) (AllU.block (AllU.unit (uorc := uorT (z106U8 k)) (u := 1) (z106u1_k k)))) (AllU.seq (AllU.no (by kernel_rfl)) (AllU.seq (AllU.no (by kernel_rfl)) (AllU.seq (AllU.seq (AllU.no (by kernel_rfl)) (AllU.block (AllU.unit (uorc := uorT (z106U8 k)) (u := 2) (z106u2_k k)))) (AllU.seq (AllU.no (by kernel_rfl)) (AllU.seq (AllU.seq (AllU.no (by kernel_rfl)) (AllU.unit (uorc := uorT (z106U8 k)) (u := 3) (z106u3_k k))) (AllU.seq (AllU.seq (AllU.no (by kernel_rfl)) (AllU.unit (uorc := uorT (z106U8 k)) (u := 4) (z106u4_k k))) (AllU.seq (AllU.no (by kernel_rfl)) (AllU.seq (AllU.seq (AllU.no (by kernel_rfl)) (AllU.block (AllU.unit (uorc := uorT (z106U8 k)) (u := 6) (z106u6_k k)))) (AllU.seq (AllU.seq (AllU.no (by kernel_rfl)) (AllU.block (AllU.unit (uorc := uorT (z106U8 k)) (u := 7) (z106u7_k k)))) (AllU.no (by kernel_rfl)))))))))))))))) (fn := Tryz.f38) (by kernel_rfl) (by kernel_rfl) (fun d => by kernel_rfl) FU_nil
noncomputable def T104 (k : Nat) : List (Nat × Ent) := (38, ⟨z106_e k⟩) :: T103 k
theorem T104_ok (k : Nat) : TabOK P GL (T104 k) := (T103_ok k).cons (z106_fu k) (z106_n k)
/-! ### overspill.overspillref27.Row -/
noncomputable def z107U0 (_ : Nat) : List (Nat × Ent) := []
theorem z107U0_k (k : Nat) : UTab (z107U0 k) := UTab.nil
noncomputable def z107u0d : UDef := ⟨[(0, none), (3, none), (5, none), (7, none), (8, none), (28, none)], [5, 7, 29, 30, 31, 32, 33, 34, 35, 36, 37, 38, 39, 40, 41, 42, 43, 44, 45, 46, 47, 48, 49, 50, 51, 52, 53, 54], [(.normal, [(5, none), (7, none)])], []⟩
noncomputable def z107u0p : XPat := ⟨.normal, [(.tv (.int .i64)), (.ptr 0 []), (.tv .str), (.tv (.int .i64)), (.tv (.int .i64)), (.tv .bool)], [(.box (.tv YSheet))]⟩
noncomputable def z107u0x : List XPat := [⟨.normal, [(.tv .str), (.tv (.int .i64))], [(.box (.tv YSheet))]⟩]
noncomputable def overspillref27_Rowu0 (k : Nat) (x0 : Int) (x1 : List UInt8) (x2 : Int) (x3 : Int) (x4 : Bool) (x5 : DSheet) : Option (((List UInt8) × (Int)) × (DSheet)) :=
  bif x4 then
    bif (inR x3 (List.length x5.2.2.2.2.2.2.1)) then
      bif (inR x3 (List.length x5.2.2.2.2.2.2.1)) then
        Option.bind (overspillref23_Row k (wr .i64 (x0 + ((List.length x1 : Nat) : Int))) x3 ((List.getD x5.2.2.2.2.2.2.1 (Int.toNat x3) (false, (0, (0, (([] : List (DCell)), ()))))).2.1) ((List.getD x5.2.2.2.2.2.2.1 (Int.toNat x3) (false, (0, (0, (([] : List (DCell)), ()))))).2.2.1)) fun (v482 : List UInt8) =>
        bif (decide ((List.length x1) + (List.length v482) ≤ strMax)) then
          Option.bind (overspillref16_Size k x5.2.2.1) fun (v483 : List (Int)) =>
          some (((x1 ++ v482), (wr .i64 (x3 * (List.getD v483 3 0)))), x5)
        else
          none
      else
        none
    else
      none
  else
  some ((x1, x2), x5)
noncomputable def z107u0b : AC :=
  (.cond (.t 28)
  (.seq (.draw [(iO 29 (.mv (.t 5))),
      (iO 30 (.mv (.t 0))),
      (iO 31 (.mv (.t 5))),
      (iOa 32 (.lens (.t 31)) [2]),
      (iOa 33 (.bin .add (.t 30) (.t 32)) [1, 2, 3]),
      (iO 34 (.mv (.t 8))),
      (iO 35 (.fad 6 6 (.t 3))),
      (iOa 36 (.load false 1 (.t 35)) [6]),
      (iO 37 (.mv (.t 8))),
      (iOa 38 (.iads YRow (.t 36) (.t 37)) [6, 7, 8]),
      (iOa 39 (.fad 1 1 (.t 38)) (rg [6, 4])),
      (iOa 40 (.load false 1 (.t 39)) (rg [6, 5])),
      (iO 41 (.fad 6 6 (.t 3))),
      (iOa 42 (.load false 1 (.t 41)) [12]),
      (iO 43 (.mv (.t 8))),
      (iOa 44 (.iads YRow (.t 42) (.t 43)) [12, 13, 14]),
      (iOa 45 (.fad 2 2 (.t 44)) (rg [12, 4])),
      (iOa 46 (.load false 1 (.t 45)) (rg [12, 5])),
      (iCa 47 37 [((.t 33), none), ((.t 34), none), ((.t 40), none), ((.t 46), none)] (rg [1, 17])),
      (iOa 48 (.bin .add (.t 29) (.t 47)) (rg [0, 19])),
      (iOa 5 (.mv (.t 48)) (rg [0, 20]))])
    (.region [(iO 49 (.mv (.t 8))),
      (iO 50 (.fad 2 2 (.t 3))),
      (iO 51 (.load false 1 (.t 50))),
      (iC 52 31 [((.t 51), none)]),
      (iO 53 (.ix 4 1 false (.t 52) (nI 3))),
      (iO 54 (.bin .mul (.t 49) (.t 53))),
      (iO 7 (.mv (.t 54)))]))
  .skip)
noncomputable def z107u0t (k : Nat) (d : z107u0p.D) : Option (XD z107u0x) := overspillref27_Rowu0 k d.1.1 d.1.2.2.1 d.1.2.2.2.1 d.1.2.2.2.2.1 d.1.2.2.2.2.2 d.2
theorem z107u0_k (k : Nat) : UOK P GL (mkU z107u0p z107u0x (z107u0t k) nilU) z107u0d false z107u0b :=
  unit_typed (ud := z107u0d) (body := z107u0b) (uorc := uorT (z107U0 k)) hmo (T104_ok k).oo (z107U0_k k) (AllU.no (by kernel_rfl)) (fun d => by kernel_rfl)
noncomputable def z107U1 (k : Nat) : List (Nat × Ent) := (0, ⟨mkU z107u0p z107u0x (z107u0t k) nilU⟩) :: z107U0 k
theorem z107U1_k (k : Nat) : UTab (z107U1 k) := (z107U0_k k).cons (mkU_nat nilU_nat)
noncomputable def z107u1d : UDef := ⟨[(3, none), (5, none), (6, none), (7, none), (9, none), (10, none)], [5, 6, 10, 61, 62, 63, 64, 65, 66, 67, 68, 69, 70, 71, 72, 73, 74, 75, 76, 77, 78, 79, 80, 81, 82, 83, 84, 85, 86, 87, 88, 89], [((.exit 2), [(5, none), (6, none)])], [1]⟩
noncomputable def z107u1p : XPat := ⟨.normal, [(.ptr 0 []), (.tv .str), (.row 1), (.tv (.int .i64)), (.tv (.sl YCell)), (.tv (.int .i64))], [(.box (.tv YSheet)), (.row (.arr 2 (.int .i64)) true)]⟩
noncomputable def z107u1x : List XPat := [⟨(.exit 2), [(.tv .str), (.row 1)], [(.box (.tv YSheet)), (.row (.arr 2 (.int .i64)) true)]⟩]
noncomputable def overspillref27_Rowu1 (k : Nat) : Nat → (List UInt8) → (Int) → (List (DCell)) → (Int) → (DSheet) → (List (List (Int))) → Option (((List UInt8) × (Unit)) × ((DSheet) × (List (List (Int)))))
  | 0, _, _, _, _, _, _ => none
  | n + 1, x0, x1, x2, x3, x4, x5 =>
    bif (decide (x3 < ((List.length x2 : Nat) : Int))) then
      Option.bind (overspillref16_Across k x4.2.2.1) fun (v488 : Int) =>
      Option.bind (overspillref19_Of k x5 v488 x1) fun (v489 : List (Int)) =>
      bif (inR x3 (List.length x2)) then
        Option.bind (overspillref22_Row k x4.2.2.2.1 v489 (List.getD x2 (Int.toNat x3) (0, (false, (0, (0, ((Ty.zero (.arr 2 (.int .i64))), ((Ty.zero (.arr 6 (.int .i64))), ((Ty.zero (.arr 6 (.sl YEvent))), ()))))))))) fun (v490 : List UInt8) =>
        bif (decide ((List.length x0) + (List.length v490) ≤ strMax)) then
          bif (inR x3 (List.length x2)) then
            bif (decide ((List.length x5) + 1 ≤ rowMax)) then
              Option.bind (overspillref27_Rowu1 k n (x0 ++ v490) x1 x2 (wr .i64 (x3 + 1)) x4 (x5 ++ ([(List.getD x2 (Int.toNat x3) (0, (false, (0, (0, ((Ty.zero (.arr 2 (.int .i64))), ((Ty.zero (.arr 6 (.int .i64))), ((Ty.zero (.arr 6 (.sl YEvent))), ())))))))).2.2.2.2.1] : List (List (Int))))) fun r => some r
            else
              none
          else
            none
        else
          none
      else
        none
    else
    some ((x0, ()), (x4, x5))
noncomputable def z107u1b : AC :=
  (.seq (.seq (.region [(iO 61 (.mv (.t 10))),
    (iO 62 (.mv (.t 9))),
    (iO 63 (.len (.t 62))),
    (iO 64 (.bin .lss (.t 61) (.t 63)))])
  (.cond (.t 64)
  .skip
  (.exit 2)))
  (.seq (.block 3 (.seq (.draw [(iO 67 (.mv (.t 5))),
    (iO 68 (.fad 3 3 (.t 3))),
    (iOa 69 (.load false 1 (.t 68)) [1]),
    (iO 70 (.mv (.t 6))),
    (iO 71 (.fad 2 2 (.t 3))),
    (iOa 72 (.load false 1 (.t 71)) [4]),
    (iCa 73 40 [((.t 72), none)] [4, 5]),
    (iO 74 (.mv (.t 7))),
    (iCa 75 39 [((.t 70), some (.sl (.arr 2 (.int .i64)))), ((.t 73), none), ((.t 74), none)] (rg [3, 5])),
    (iO 76 (.mv (.t 9))),
    (iO 77 (.mv (.t 10))),
    (iOa 78 (.iads YCell (.t 76) (.t 77)) [9, 10]),
    (iOa 79 (.load true 18 (.t 78)) [9, 10, 11]),
    (iCa 80 38 [((.t 69), none), ((.t 75), some (.arr 2 (.int .i64))), ((.t 79), some YCell)] (rg [1, 12])),
    (iOa 81 (.bin .add (.t 67) (.t 80)) (rg [0, 14])),
    (iOa 5 (.mv (.t 81)) (rg [0, 15]))])
  (.region [(iO 82 (.mv (.t 6))),
    (iO 83 (.mv (.t 9))),
    (iO 84 (.mv (.t 10))),
    (iO 85 (.iads YCell (.t 83) (.t 84))),
    (iO 86 (.fad 4 4 (.t 85))),
    (iO 87 (.load true 2 (.t 86))),
    (iO 88 (.bslice (.arr 2 (.int .i64)) [(.t 87)])),
    (iO 89 (.app (.arr 2 (.int .i64)) (.t 82) (.t 88))),
    (iO 6 (.mv (.t 89)))])))
  (.region [(iO 65 (.mv (.t 10))),
    (iO 66 (.bin .add (.t 65) (nI 1))),
    (iO 10 (.mv (.t 66)))])))
noncomputable def z107u1t (k n : Nat) (d : z107u1p.D) : Option (XD z107u1x) := overspillref27_Rowu1 k n d.1.2.1 d.1.2.2.2.1 d.1.2.2.2.2.1 d.1.2.2.2.2.2 d.2.1 d.2.2
theorem z107u1_k (k : Nat) : UOK P GL (mkU z107u1p z107u1x (z107u1t k k) nilU) z107u1d true z107u1b :=
  loop_typed (ud := z107u1d) (body := z107u1b) (uorc := uorT (z107U1 k)) hmo (T104_ok k).oo (z107U1_k k) (AllU.no (by kernel_rfl)) (t := z107u1t k) (fun d => by kernel_rfl) (fun n d => by kernel_rfl) k
noncomputable def z107U2 (k : Nat) : List (Nat × Ent) := (1, ⟨mkU z107u1p z107u1x (z107u1t k k) nilU⟩) :: z107U1 k
theorem z107U2_k (k : Nat) : UTab (z107U2 k) := (z107U1_k k).cons (mkU_nat nilU_nat)
noncomputable def z107u2d : UDef := ⟨[(0, none), (3, none), (5, none), (6, none), (7, none), (8, none)], [5, 6, 7, 8, 9, 10, 16, 17, 18, 19, 20, 21, 22, 23, 24, 25, 26, 27, 28, 29, 30, 31, 32, 33, 34, 35, 36, 37, 38, 39, 40, 41, 42, 43, 44, 45, 46, 47, 48, 49, 50, 51, 52, 53, 54, 55, 56, 57, 58, 59, 60, 61, 62, 63, 64, 65, 66, 67, 68, 69, 70, 71, 72, 73, 74, 75, 76, 77, 78, 79, 80, 81, 82, 83, 84, 85, 86, 87, 88, 89], [((.exit 0), [(5, none), (6, none)])], [1]⟩
noncomputable def z107u2p : XPat := ⟨.normal, [(.tv (.int .i64)), (.ptr 0 []), (.tv .str), (.row 1), (.tv (.int .i64)), (.tv (.int .i64))], [(.box (.tv YSheet)), (.row (.arr 2 (.int .i64)) true)]⟩
noncomputable def z107u2x : List XPat := [⟨(.exit 0), [(.tv .str), (.row 1)], [(.box (.tv YSheet)), (.row (.arr 2 (.int .i64)) true)]⟩]
noncomputable def overspillref27_Rowu2 (k : Nat) : Nat → (Int) → (List UInt8) → (Int) → (Int) → (DSheet) → (List (List (Int))) → Option (((List UInt8) × (Unit)) × ((DSheet) × (List (List (Int)))))
  | 0, _, _, _, _, _, _ => none
  | n + 1, x0, x1, x2, x3, x4, x5 =>
    bif (decide (x3 < ((List.length x4.2.2.2.2.2.2.1 : Nat) : Int))) then
      bif (inR x3 (List.length x4.2.2.2.2.2.2.1)) then
        Option.bind (overspillref27_Rowu0 k x0 x1 x2 x3 ((List.getD x4.2.2.2.2.2.2.1 (Int.toNat x3) (false, (0, (0, (([] : List (DCell)), ()))))).1) x4) fun (v492 : ((List UInt8) × (Int)) × (DSheet)) =>
        bif (inR x3 (List.length v492.2.2.2.2.2.2.2.1)) then
          Option.bind (overspillref27_Rowu1 k k v492.1.1 v492.1.2 ((List.getD v492.2.2.2.2.2.2.2.1 (Int.toNat x3) (false, (0, (0, (([] : List (DCell)), ()))))).2.2.2.1) 0 v492.2 x5) fun (v493 : ((List UInt8) × (Unit)) × ((DSheet) × (List (List (Int))))) =>
          Option.bind (overspillref27_Rowu2 k n x0 v493.1.1 v492.1.2 (wr .i64 (x3 + 1)) v493.2.1 v493.2.2) fun r => some r
        else
          none
      else
        none
    else
    some ((x1, ()), (x4, x5))
noncomputable def z107u2b : AC :=
  (.seq (.seq (.region [(iO 16 (.mv (.t 8))),
    (iO 17 (.fad 6 6 (.t 3))),
    (iO 18 (.load false 1 (.t 17))),
    (iO 19 (.len (.t 18))),
    (iO 20 (.bin .lss (.t 16) (.t 19)))])
  (.cond (.t 20)
  .skip
  (.exit 0)))
  (.seq (.block 1 (.seq (.seq (.region [(iO 23 (.fad 6 6 (.t 3))),
    (iO 24 (.load false 1 (.t 23))),
    (iO 25 (.mv (.t 8))),
    (iO 26 (.iads YRow (.t 24) (.t 25))),
    (iO 27 (.fad 0 0 (.t 26))),
    (iO 28 (.load false 1 (.t 27)))])
  (.unit 0 z107u0d false z107u0b))
  (.seq (.region [(iO 55 (.fad 6 6 (.t 3))),
    (iO 56 (.load false 1 (.t 55))),
    (iO 57 (.mv (.t 8))),
    (iO 58 (.iads YRow (.t 56) (.t 57))),
    (iO 59 (.fad 3 3 (.t 58))),
    (iO 60 (.load false 1 (.t 59))),
    (iO 9 (.mv (.t 60)))])
  (.seq (.region [(iO 10 (.mv (nI 0)))])
  (.block 2 (.unit 1 z107u1d true z107u1b))))))
  (.region [(iO 21 (.mv (.t 8))),
    (iO 22 (.bin .add (.t 21) (nI 1))),
    (iO 8 (.mv (.t 22)))])))
noncomputable def z107u2t (k n : Nat) (d : z107u2p.D) : Option (XD z107u2x) := overspillref27_Rowu2 k n d.1.1 d.1.2.2.1 d.1.2.2.2.2.1 d.1.2.2.2.2.2 d.2.1 d.2.2
theorem z107u2_k (k : Nat) : UOK P GL (mkU z107u2p z107u2x (z107u2t k k) nilU) z107u2d true z107u2b :=
  loop_typed (ud := z107u2d) (body := z107u2b) (uorc := uorT (z107U2 k)) hmo (T104_ok k).oo (z107U2_k k) (AllU.seq (AllU.no (by kernel_rfl)) (AllU.seq (AllU.block (AllU.seq (AllU.seq (AllU.no (by kernel_rfl)) (AllU.unit (uorc := uorT (z107U2 k)) (u := 0) (z107u0_k k))) (AllU.seq (AllU.no (by kernel_rfl)) (AllU.seq (AllU.no (by kernel_rfl)) (AllU.block (AllU.unit (uorc := uorT (z107U2 k)) (u := 1) (z107u1_k k))))))) (AllU.no (by kernel_rfl)))) (t := z107u2t k) (fun d => by kernel_rfl) (fun n d => by kernel_rfl) k
noncomputable def z107U3 (k : Nat) : List (Nat × Ent) := (2, ⟨mkU z107u2p z107u2x (z107u2t k k) nilU⟩) :: z107U2 k
theorem z107U3_k (k : Nat) : UTab (z107U3 k) := (z107U2_k k).cons (mkU_nat nilU_nat)
noncomputable def z107u3d : UDef := ⟨[(0, none), (5, none)], [5, 90, 91, 92, 93, 94, 95, 96, 97], [((.exit 4), [(5, none)])], []⟩
noncomputable def z107u3p : XPat := ⟨.normal, [(.tv (.int .i64)), (.tv .str)], []⟩
noncomputable def z107u3x : List XPat := [⟨(.exit 4), [(.tv .str)], []⟩]
noncomputable def overspillref27_Rowu3 (k : Nat) : Nat → (Int) → (List UInt8) → Option (List UInt8)
  | 0, _, _ => none
  | n + 1, x0, x1 =>
    bif (!(decide ((Int.tmod (wr .i64 (x0 + ((List.length x1 : Nat) : Int))) 8) = 0))) then
      bif (decide ((List.length x1) + 1 ≤ strMax)) then
        Option.bind (overspillref27_Rowu3 k n x0 (x1 ++ ([48] : List UInt8))) fun r => some r
      else
        none
    else
    some x1
noncomputable def z107u3b : AC :=
  (.seq (.seq (.region [(iO 90 (.mv (.t 0))),
    (iO 91 (.mv (.t 5))),
    (iO 92 (.lens (.t 91))),
    (iO 93 (.bin .add (.t 90) (.t 92))),
    (iO 94 (.bin .rem (.t 93) (nI 8))),
    (iO 95 (.bin .neq (.t 94) (nI 0)))])
  (.cond (.t 95)
  .skip
  (.exit 4)))
  (.block 5 (.region [(iO 96 (.mv (.t 5))),
    (iO 97 (.bin .add (.t 96) (.c (.tv .str (([48] : List UInt8) : List UInt8))))),
    (iO 5 (.mv (.t 97)))])))
noncomputable def z107u3t (k n : Nat) (d : z107u3p.D) : Option (XD z107u3x) := overspillref27_Rowu3 k n d.1 d.2
theorem z107u3_k (k : Nat) : UOK P GL (mkU z107u3p z107u3x (z107u3t k k) nilU) z107u3d true z107u3b :=
  loop_typed (ud := z107u3d) (body := z107u3b) (uorc := uorT (z107U3 k)) hmo (T104_ok k).oo (z107U3_k k) (AllU.no (by kernel_rfl)) (t := z107u3t k) (fun d => by kernel_rfl) (fun n d => by kernel_rfl) k
noncomputable def z107U4 (k : Nat) : List (Nat × Ent) := (3, ⟨mkU z107u3p z107u3x (z107u3t k k) nilU⟩) :: z107U3 k
theorem z107U4_k (k : Nat) : UTab (z107U4 k) := (z107U3_k k).cons (mkU_nat nilU_nat)
noncomputable def z107u4d : UDef := ⟨[(11, none), (12, none)], [12, 102, 103, 104, 105, 106, 107, 108, 109, 110], [((.exit 6), [(11, none)])], []⟩
noncomputable def z107u4p : XPat := ⟨.normal, [(.row 0), (.tv (.int .i64))], [(.row (.int .u8) false)]⟩
noncomputable def z107u4x : List XPat := [⟨(.exit 6), [(.row 0)], [(.row (.int .u8) false)]⟩]
noncomputable def overspillref27_Rowu4 (k : Nat) : Nat → (Int) → (List (Int)) → Option ((Unit) × (List (Int)))
  | 0, _, _ => none
  | n + 1, x0, x1 =>
    bif (decide (x0 < ((List.length x1 : Nat) : Int))) then
      bif (inR x0 (List.length x1)) then
        Option.bind (overspillref27_Rowu4 k n (wr .i64 (x0 + 1)) (List.set x1 (Int.toNat x0) 48)) fun r => some r
      else
        none
    else
    some ((), x1)
noncomputable def z107u4b : AC :=
  (.seq (.seq (.region [(iO 102 (.mv (.t 12))),
    (iO 103 (.mv (.t 11))),
    (iO 104 (.len (.t 103))),
    (iO 105 (.bin .lss (.t 102) (.t 104)))])
  (.cond (.t 105)
  .skip
  (.exit 6)))
  (.seq (.block 7 (.region [(iO 108 (.mv (.t 11))),
    (iO 109 (.mv (.t 12))),
    (iO 110 (.iads (.int .u8) (.t 108) (.t 109))),
    (iS (.store 1 none (.t 110) (.c (.tv (.int .u8) (48 : Int)))))]))
  (.region [(iO 106 (.mv (.t 12))),
    (iO 107 (.bin .add (.t 106) (nI 1))),
    (iO 12 (.mv (.t 107)))])))
noncomputable def z107u4t (k n : Nat) (d : z107u4p.D) : Option (XD z107u4x) := overspillref27_Rowu4 k n d.1.2 d.2
theorem z107u4_k (k : Nat) : UOK P GL (mkU z107u4p z107u4x (z107u4t k k) nilU) z107u4d true z107u4b :=
  loop_typed (ud := z107u4d) (body := z107u4b) (uorc := uorT (z107U4 k)) hmo (T104_ok k).oo (z107U4_k k) (AllU.no (by kernel_rfl)) (t := z107u4t k) (fun d => by kernel_rfl) (fun n d => by kernel_rfl) k
noncomputable def z107U5 (k : Nat) : List (Nat × Ent) := (4, ⟨mkU z107u4p z107u4x (z107u4t k k) nilU⟩) :: z107U4 k
theorem z107U5_k (k : Nat) : UTab (z107U5 k) := (z107U4_k k).cons (mkU_nat nilU_nat)
noncomputable def overspillref27_Row (k : Nat) (x0 : Int) (x1 : DSheet) : Option (List UInt8) :=
  Option.bind (overspillref24_Row k x0 x1) fun (v479 : List UInt8) =>
  Option.bind (overspillref27_Rowu2 k k x0 v479 0 0 x1 ([] : List (List (Int)))) fun (v494 : ((List UInt8) × (Unit)) × ((DSheet) × (List (List (Int))))) =>
  Option.bind (overspillref27_Rowu3 k k x0 v494.1.1) fun (v495 : List UInt8) =>
  bif (decide ((0 : Int) ≤ (wr .i64 (8 * v494.2.1.2.2.2.2.2.2.2.1)) ∧ (wr .i64 (8 * v494.2.1.2.2.2.2.2.2.2.1)) ≤ (wr .i64 (8 * v494.2.1.2.2.2.2.2.2.2.1)) ∧ (wr .i64 (8 * v494.2.1.2.2.2.2.2.2.2.1)) ≤ ((rowMax : Nat) : Int))) then
    Option.bind (overspillref27_Rowu4 k k 0 (List.replicate (Int.toNat (wr .i64 (8 * v494.2.1.2.2.2.2.2.2.2.1))) 0)) fun (v496 : (Unit) × (List (Int))) =>
    bif (decide ((List.length v495) + (List.length (List.map toU8 v496.2)) ≤ strMax)) then
      some (v495 ++ (List.map toU8 v496.2))
    else
      none
  else
    none
noncomputable def z107b : AC :=
  (.seq (.region [(iO 3 (.box (.t 1))),
    (iO 4 (.mv (.c (.tv .str (([] : List UInt8) : List UInt8)))))])
  (.seq (.region [(iO 13 (.mv (.t 0))),
    (iO 14 (.load true 8 (.t 3))),
    (iC 15 36 [((.t 13), none), ((.t 14), some YSheet)]),
    (iO 5 (.mv (.t 15)))])
  (.seq (.region [(iO 6 (.nrow (.arr 2 (.int .i64))))])
  (.seq (.region [(iO 7 (.mv (nI 0)))])
  (.seq (.seq (.region [(iO 8 (.mv (nI 0)))])
  (.block 0 (.unit 2 z107u2d true z107u2b)))
  (.seq (.block 4 (.unit 3 z107u3d true z107u3b))
  (.seq (.region [(iO 98 (.fad 7 7 (.t 3))),
    (iO 99 (.load false 1 (.t 98))),
    (iO 100 (.bin .mul (nI 8) (.t 99))),
    (iO 101 (.mkslice (.int .u8) (.t 100) (.t 100))),
    (iO 11 (.mv (.t 101)))])
  (.seq (.seq (.region [(iO 12 (.mv (nI 0)))])
  (.block 6 (.unit 4 z107u4d true z107u4b)))
  (.seq (.region [(iO 111 (.mv (.t 5))),
    (iO 112 (.mv (.t 11))),
    (iO 113 (.bstr (.t 112))),
    (iO 114 (.bin .add (.t 111) (.t 113))),
    (iO 4 (.mv (.t 114)))])
  .ret)))))))))
noncomputable def z107f : FDef := ⟨2, 115, [.tmp 4 none], z107b⟩
noncomputable def z107p : XPat := ⟨.normal, [(.tv (.int .i64)), (.tv YSheet)], []⟩
noncomputable def z107x : List XPat := [⟨.ret, [(.tv .str)], []⟩]
noncomputable def z107t (k : Nat) (d : z107p.D) : Option (XD z107x) := overspillref27_Row k d.1 d.2
noncomputable def z107_e (k : Nat) : UEntry := mkU z107p z107x (z107t k) nilU
theorem z107_n (k : Nat) : UNat (z107_e k) := mkU_nat nilU_nat
theorem z107_fu (k : Nat) : FU P GL 13 (z107_e k) :=
  fn_typed (uorc := uorT (z107U5 k)) hmo (T104_ok k).oo (z107U5_k k) (fd := z107f) (AllU.seq (AllU.no (by kernel_rfl)) (AllU.seq (AllU.no (by kernel_rfl)) (AllU.seq (AllU.no (by kernel_rfl)) (AllU.seq (AllU.no (by kernel_rfl)) (AllU.seq (AllU.seq (AllU.no (by kernel_rfl)) (AllU.block (AllU.unit (uorc := uorT (z107U5 k)) (u := 2) (z107u2_k k)))) (AllU.seq (AllU.block (AllU.unit (uorc := uorT (z107U5 k)) (u := 3) (z107u3_k k))) (AllU.seq (AllU.no (by kernel_rfl)) (AllU.seq (AllU.seq (AllU.no (by kernel_rfl)) (AllU.block (AllU.unit (uorc := uorT (z107U5 k)) (u := 4) (z107u4_k k)))) (AllU.no (by kernel_rfl)))))))))) (fn := Tryz.f13) (by kernel_rfl) (by kernel_rfl) (fun d => by kernel_rfl) FU_nil
noncomputable def T105 (k : Nat) : List (Nat × Ent) := (13, ⟨z107_e k⟩) :: T104 k
theorem T105_ok (k : Nat) : TabOK P GL (T105 k) := (T104_ok k).cons (z107_fu k) (z107_n k)
/-! ### (*overspill.outbits.Writer).Text -/
noncomputable def z108U0 (_ : Nat) : List (Nat × Ent) := []
theorem z108U0_k (k : Nat) : UTab (z108U0 k) := UTab.nil
noncomputable def outbits_Writer_Text (k : Nat) (x0 : Int) (x1 : List (Int)) : Option ((List UInt8) × (((Unit) × ((Int) × (Unit))) × (List (Int)))) :=
  some ((List.map toU8 x1), (((), (x0, ())), x1))
noncomputable def z108b : AC :=
  (.seq (.region [(iO 2 (.mv (.c (.tv .str (([] : List UInt8) : List UInt8)))))])
  (.seq (.seq (.region [(iO 3 (.mv (.t 0))),
    (iO 4 (.eqp false (.t 3) (.c .nilp)))])
  (.cond (.t 4)
  (.seq (.region [(iO 2 .bad)])
    .ret)
  .skip))
  (.seq (.region [(iO 5 (.mv (.t 0))),
    (iO 6 (.nilc (.t 5))),
    (iO 7 (.fad 0 0 (.t 6))),
    (iO 8 (.load false 1 (.t 7))),
    (iO 9 (.bstr (.t 8))),
    (iO 2 (.mv (.t 9)))])
  .ret)))
noncomputable def z108f : FDef := ⟨1, 10, [.tmp 2 none], z108b⟩
noncomputable def z108p : XPat := ⟨.normal, [(.ptr 0 [])], [(.box (.cons (.row 1) (.cons (.tv (.int .i64)) .nil))), (.row (.int .u8) false)]⟩
noncomputable def z108x : List XPat := [⟨.ret, [(.tv .str)], [(.box (.cons (.row 1) (.cons (.tv (.int .i64)) .nil))), (.row (.int .u8) false)]⟩]
noncomputable def z108t (k : Nat) (d : z108p.D) : Option (XD z108x) := outbits_Writer_Text k d.2.1.2.1 d.2.2
noncomputable def z108_e (k : Nat) : UEntry := mkU z108p z108x (z108t k) nilU
theorem z108_n (k : Nat) : UNat (z108_e k) := mkU_nat nilU_nat
theorem z108_fu (k : Nat) : FU P GL 14 (z108_e k) :=
  fn_typed (uorc := uorT (z108U0 k)) hmo (T105_ok k).oo (z108U0_k k) (fd := z108f) (AllU.no (by kernel_rfl)) (fn := Tryz.f14) (by kernel_rfl) (by kernel_rfl) (fun d => by kernel_rfl) FU_nil
noncomputable def T106 (k : Nat) : List (Nat × Ent) := (14, ⟨z108_e k⟩) :: T105 k
theorem T106_ok (k : Nat) : TabOK P GL (T106 k) := (T105_ok k).cons (z108_fu k) (z108_n k)
/-! ### overspill.overspillref02.Number -/
noncomputable def z109U0 (_ : Nat) : List (Nat × Ent) := []
theorem z109U0_k (k : Nat) : UTab (z109U0 k) := UTab.nil
noncomputable def z109u0d : UDef := ⟨[(0, none), (3, none), (4, none)], [3, 4, 5, 6, 7, 8, 9, 10, 11, 12, 13, 14, 15, 16, 17, 18], [((.exit 0), [(3, none)])], []⟩
noncomputable def z109u0p : XPat := ⟨.normal, [(.tv .str), (.tv (.int .i64)), (.tv (.int .i64))], []⟩
noncomputable def z109u0x : List XPat := [⟨(.exit 0), [(.tv (.int .i64))], []⟩]
noncomputable def overspillref02_Numberu0 (k : Nat) : Nat → (List UInt8) → (Int) → (Int) → Option (Int)
  | 0, _, _, _ => none
  | n + 1, x0, x1, x2 =>
    bif (decide (x2 < ((List.length x0 : Nat) : Int))) then
      bif (inR x2 (List.length x0)) then
        Option.bind (overspillref02_Numberu0 k n x0 (wr .i64 ((wr .i64 (2 * x1)) + (wr .i64 (wr .u8 (((UInt8.toNat (List.getD x0 (Int.toNat x2) 0) : Nat) : Int) - 48))))) (wr .i64 (x2 + 1))) fun r => some r
      else
        none
    else
    some x1
noncomputable def z109u0b : AC :=
  (.seq (.seq (.region [(iO 5 (.mv (.t 4))),
    (iO 6 (.mv (.t 0))),
    (iO 7 (.lens (.t 6))),
    (iO 8 (.bin .lss (.t 5) (.t 7)))])
  (.cond (.t 8)
  .skip
  (.exit 0)))
  (.seq (.block 1 (.region [(iO 11 (.mv (.t 3))),
    (iO 12 (.bin .mul (nI 2) (.t 11))),
    (iO 13 (.mv (.t 0))),
    (iO 14 (.mv (.t 4))),
    (iO 15 (.ixs (.t 13) (.t 14))),
    (iO 16 (.bin .sub (.t 15) (.c (.tv (.int .u8) (48 : Int))))),
    (iO 17 (.conv .i64 (.t 16))),
    (iO 18 (.bin .add (.t 12) (.t 17))),
    (iO 3 (.mv (.t 18)))]))
  (.region [(iO 9 (.mv (.t 4))),
    (iO 10 (.bin .add (.t 9) (nI 1))),
    (iO 4 (.mv (.t 10)))])))
noncomputable def z109u0t (k n : Nat) (d : z109u0p.D) : Option (XD z109u0x) := overspillref02_Numberu0 k n d.1 d.2.1 d.2.2
theorem z109u0_k (k : Nat) : UOK P GL (mkU z109u0p z109u0x (z109u0t k k) nilU) z109u0d true z109u0b :=
  loop_typed (ud := z109u0d) (body := z109u0b) (uorc := uorT (z109U0 k)) hmo (T106_ok k).oo (z109U0_k k) (AllU.no (by kernel_rfl)) (t := z109u0t k) (fun d => by kernel_rfl) (fun n d => by kernel_rfl) k
noncomputable def z109U1 (k : Nat) : List (Nat × Ent) := (0, ⟨mkU z109u0p z109u0x (z109u0t k k) nilU⟩) :: z109U0 k
theorem z109U1_k (k : Nat) : UTab (z109U1 k) := (z109U0_k k).cons (mkU_nat nilU_nat)
noncomputable def overspillref02_Number (k : Nat) (x0 : List UInt8) : Option (Int) :=
  Option.bind (overspillref02_Numberu0 k k x0 0 0) fun (v501 : Int) =>
  some v501
noncomputable def z109b : AC :=
  (.seq (.region [(iO 2 (.mv (nI 0)))])
  (.seq (.region [(iO 3 (.mv (nI 0)))])
  (.seq (.seq (.region [(iO 4 (.mv (nI 0)))])
  (.block 0 (.unit 0 z109u0d true z109u0b)))
  (.seq (.region [(iO 19 (.mv (.t 3))),
    (iO 2 (.mv (.t 19)))])
  .ret))))
noncomputable def z109f : FDef := ⟨1, 20, [.tmp 2 none], z109b⟩
noncomputable def z109p : XPat := ⟨.normal, [(.tv .str)], []⟩
noncomputable def z109x : List XPat := [⟨.ret, [(.tv (.int .i64))], []⟩]
noncomputable def z109t (k : Nat) (d : z109p.D) : Option (XD z109x) := overspillref02_Number k d
noncomputable def z109_e (k : Nat) : UEntry := mkU z109p z109x (z109t k) nilU
theorem z109_n (k : Nat) : UNat (z109_e k) := mkU_nat nilU_nat
theorem z109_fu (k : Nat) : FU P GL 41 (z109_e k) :=
  fn_typed (uorc := uorT (z109U1 k)) hmo (T106_ok k).oo (z109U1_k k) (fd := z109f) (AllU.seq (AllU.no (by kernel_rfl)) (AllU.seq (AllU.no (by kernel_rfl)) (AllU.seq (AllU.seq (AllU.no (by kernel_rfl)) (AllU.block (AllU.unit (uorc := uorT (z109U1 k)) (u := 0) (z109u0_k k)))) (AllU.no (by kernel_rfl))))) (fn := Tryz.f41) (by kernel_rfl) (by kernel_rfl) (fun d => by kernel_rfl) FU_nil
noncomputable def T107 (k : Nat) : List (Nat × Ent) := (41, ⟨z109_e k⟩) :: T106 k
theorem T107_ok (k : Nat) : TabOK P GL (T107 k) := (T106_ok k).cons (z109_fu k) (z109_n k)
/-! ### overspill.overspillref02.Pack -/
noncomputable def z110U0 (_ : Nat) : List (Nat × Ent) := []
theorem z110U0_k (k : Nat) : UTab (z110U0 k) := UTab.nil
noncomputable def z110u0d : UDef := ⟨[(0, none)], [0, 5, 6, 7, 8, 9, 10], [((.exit 0), [(0, none)])], []⟩
noncomputable def z110u0p : XPat := ⟨.normal, [(.tv .str)], []⟩
noncomputable def z110u0x : List XPat := [⟨(.exit 0), [(.tv .str)], []⟩]
noncomputable def overspillref02_Packu0 (k : Nat) : Nat → (List UInt8) → Option (List UInt8)
  | 0, _ => none
  | n + 1, x0 =>
    bif (!(decide ((Int.tmod ((List.length x0 : Nat) : Int) 8) = 0))) then
      bif (decide ((List.length x0) + 1 ≤ strMax)) then
        Option.bind (overspillref02_Packu0 k n (x0 ++ ([48] : List UInt8))) fun r => some r
      else
        none
    else
    some x0
noncomputable def z110u0b : AC :=
  (.seq (.seq (.region [(iO 5 (.mv (.t 0))),
    (iO 6 (.lens (.t 5))),
    (iO 7 (.bin .rem (.t 6) (nI 8))),
    (iO 8 (.bin .neq (.t 7) (nI 0)))])
  (.cond (.t 8)
  .skip
  (.exit 0)))
  (.block 1 (.region [(iO 9 (.mv (.t 0))),
    (iO 10 (.bin .add (.t 9) (.c (.tv .str (([48] : List UInt8) : List UInt8))))),
    (iO 0 (.mv (.t 10)))])))
noncomputable def z110u0t (k n : Nat) (d : z110u0p.D) : Option (XD z110u0x) := overspillref02_Packu0 k n d
theorem z110u0_k (k : Nat) : UOK P GL (mkU z110u0p z110u0x (z110u0t k k) nilU) z110u0d true z110u0b :=
  loop_typed (ud := z110u0d) (body := z110u0b) (uorc := uorT (z110U0 k)) hmo (T107_ok k).oo (z110U0_k k) (AllU.no (by kernel_rfl)) (t := z110u0t k) (fun d => by kernel_rfl) (fun n d => by kernel_rfl) k
noncomputable def z110U1 (k : Nat) : List (Nat × Ent) := (0, ⟨mkU z110u0p z110u0x (z110u0t k k) nilU⟩) :: z110U0 k
theorem z110U1_k (k : Nat) : UTab (z110U1 k) := (z110U0_k k).cons (mkU_nat nilU_nat)
noncomputable def z110u1d : UDef := ⟨[(0, none), (3, none), (4, none)], [3, 4, 11, 12, 13, 14, 15, 16, 17, 18, 19, 20, 21, 22, 23, 24, 25, 26], [((.exit 2), [(3, none)])], []⟩
noncomputable def z110u1p : XPat := ⟨.normal, [(.tv .str), (.row 0), (.tv (.int .i64))], [(.row (.int .u8) false)]⟩
noncomputable def z110u1x : List XPat := [⟨(.exit 2), [(.row 0)], [(.row (.int .u8) false)]⟩]
noncomputable def overspillref02_Packu1 (k : Nat) : Nat → (List UInt8) → (Int) → (List (Int)) → Option ((Unit) × (List (Int)))
  | 0, _, _, _ => none
  | n + 1, x0, x1, x2 =>
    bif (decide (x1 < ((List.length x0 : Nat) : Int))) then
      bif (decide ((0 : Int) ≤ x1 ∧ x1 ≤ (wr .i64 (x1 + 8)) ∧ (wr .i64 (x1 + 8)) ≤ (((List.length x0) : Nat) : Int))) then
        Option.bind (overspillref02_Number k (List.drop (Int.toNat x1) (List.take (Int.toNat (wr .i64 (x1 + 8))) x0))) fun (v503 : Int) =>
        bif (decide ((List.length x2) + 1 ≤ rowMax)) then
          Option.bind (overspillref02_Packu1 k n x0 (wr .i64 (x1 + 8)) (x2 ++ ([(wr .u8 v503)] : List (Int)))) fun r => some r
        else
          none
      else
        none
    else
    some ((), x2)
noncomputable def z110u1b : AC :=
  (.seq (.seq (.region [(iO 11 (.mv (.t 4))),
    (iO 12 (.mv (.t 0))),
    (iO 13 (.lens (.t 12))),
    (iO 14 (.bin .lss (.t 11) (.t 13)))])
  (.cond (.t 14)
  .skip
  (.exit 2)))
  (.seq (.block 3 (.region [(iO 17 (.mv (.t 3))),
    (iO 18 (.mv (.t 0))),
    (iO 19 (.mv (.t 4))),
    (iO 20 (.mv (.t 4))),
    (iO 21 (.bin .add (.t 20) (nI 8))),
    (iO 22 (.slis (.t 18) (some (.t 19)) (some (.t 21)))),
    (iC 23 41 [((.t 22), none)]),
    (iO 24 (.conv .u8 (.t 23))),
    (iO 25 (.bslice (.int .u8) [(.t 24)])),
    (iO 26 (.app (.int .u8) (.t 17) (.t 25))),
    (iO 3 (.mv (.t 26)))]))
  (.region [(iO 15 (.mv (.t 4))),
    (iO 16 (.bin .add (.t 15) (nI 8))),
    (iO 4 (.mv (.t 16)))])))
noncomputable def z110u1t (k n : Nat) (d : z110u1p.D) : Option (XD z110u1x) := overspillref02_Packu1 k n d.1.1 d.1.2.2 d.2
theorem z110u1_k (k : Nat) : UOK P GL (mkU z110u1p z110u1x (z110u1t k k) nilU) z110u1d true z110u1b :=
  loop_typed (ud := z110u1d) (body := z110u1b) (uorc := uorT (z110U1 k)) hmo (T107_ok k).oo (z110U1_k k) (AllU.no (by kernel_rfl)) (t := z110u1t k) (fun d => by kernel_rfl) (fun n d => by kernel_rfl) k
noncomputable def z110U2 (k : Nat) : List (Nat × Ent) := (1, ⟨mkU z110u1p z110u1x (z110u1t k k) nilU⟩) :: z110U1 k
theorem z110U2_k (k : Nat) : UTab (z110U2 k) := (z110U1_k k).cons (mkU_nat nilU_nat)
noncomputable def overspillref02_Pack (k : Nat) (x0 : List UInt8) : Option (List UInt8) :=
  Option.bind (overspillref02_Packu0 k k x0) fun (v500 : List UInt8) =>
  Option.bind (overspillref02_Packu1 k k v500 0 ([] : List (Int))) fun (v504 : (Unit) × (List (Int))) =>
  some (List.map toU8 v504.2)
noncomputable def z110b : AC :=
  (.seq (.region [(iO 2 (.mv (.c (.tv .str (([] : List UInt8) : List UInt8)))))])
  (.seq (.block 0 (.unit 0 z110u0d true z110u0b))
  (.seq (.region [(iO 3 (.nrow (.int .u8)))])
  (.seq (.seq (.region [(iO 4 (.mv (nI 0)))])
  (.block 2 (.unit 1 z110u1d true z110u1b)))
  (.seq (.region [(iO 27 (.mv (.t 3))),
    (iO 28 (.bstr (.t 27))),
    (iO 2 (.mv (.t 28)))])
  .ret)))))
noncomputable def z110f : FDef := ⟨1, 29, [.tmp 2 none], z110b⟩
noncomputable def z110p : XPat := ⟨.normal, [(.tv .str)], []⟩
noncomputable def z110x : List XPat := [⟨.ret, [(.tv .str)], []⟩]
noncomputable def z110t (k : Nat) (d : z110p.D) : Option (XD z110x) := overspillref02_Pack k d
noncomputable def z110_e (k : Nat) : UEntry := mkU z110p z110x (z110t k) nilU
theorem z110_n (k : Nat) : UNat (z110_e k) := mkU_nat nilU_nat
theorem z110_fu (k : Nat) : FU P GL 15 (z110_e k) :=
  fn_typed (uorc := uorT (z110U2 k)) hmo (T107_ok k).oo (z110U2_k k) (fd := z110f) (AllU.seq (AllU.no (by kernel_rfl)) (AllU.seq (AllU.block (AllU.unit (uorc := uorT (z110U2 k)) (u := 0) (z110u0_k k))) (AllU.seq (AllU.no (by kernel_rfl)) (AllU.seq (AllU.seq (AllU.no (by kernel_rfl)) (AllU.block (AllU.unit (uorc := uorT (z110U2 k)) (u := 1) (z110u1_k k)))) (AllU.no (by kernel_rfl)))))) (fn := Tryz.f15) (by kernel_rfl) (by kernel_rfl) (fun d => by kernel_rfl) FU_nil
noncomputable def T108 (k : Nat) : List (Nat × Ent) := (15, ⟨z110_e k⟩) :: T107 k
theorem T108_ok (k : Nat) : TabOK P GL (T108 k) := (T107_ok k).cons (z110_fu k) (z110_n k)
/-! ### overspill.overspillref27.Bits -/
noncomputable def z111U0 (_ : Nat) : List (Nat × Ent) := []
theorem z111U0_k (k : Nat) : UTab (z111U0 k) := UTab.nil
noncomputable def overspillref27_Bits (k : Nat) (x0 : DSheet) : Option (Int) :=
  Option.bind (overspillref27_Row k 0 x0) fun (v506 : List UInt8) =>
  some ((List.length v506 : Nat) : Int)
noncomputable def z111b : AC :=
  (.seq (.region [(iO 1 (.box (.t 0))),
    (iO 2 (.mv (nI 0)))])
  (.seq (.region [(iO 3 (.load true 8 (.t 1))),
    (iC 4 13 [((nI 0), none), ((.t 3), some YSheet)]),
    (iO 5 (.lens (.t 4))),
    (iO 2 (.mv (.t 5)))])
  .ret))
noncomputable def z111f : FDef := ⟨1, 6, [.tmp 2 none], z111b⟩
noncomputable def z111p : XPat := ⟨.normal, [(.tv YSheet)], []⟩
noncomputable def z111x : List XPat := [⟨.ret, [(.tv (.int .i64))], []⟩]
noncomputable def z111t (k : Nat) (d : z111p.D) : Option (XD z111x) := overspillref27_Bits k d
noncomputable def z111_e (k : Nat) : UEntry := mkU z111p z111x (z111t k) nilU
theorem z111_n (k : Nat) : UNat (z111_e k) := mkU_nat nilU_nat
theorem z111_fu (k : Nat) : FU P GL 16 (z111_e k) :=
  fn_typed (uorc := uorT (z111U0 k)) hmo (T108_ok k).oo (z111U0_k k) (fd := z111f) (AllU.no (by kernel_rfl)) (fn := Tryz.f16) (by kernel_rfl) (by kernel_rfl) (fun d => by kernel_rfl) FU_nil
noncomputable def T109 (k : Nat) : List (Nat × Ent) := (16, ⟨z111_e k⟩) :: T108 k
theorem T109_ok (k : Nat) : TabOK P GL (T109 k) := (T108_ok k).cons (z111_fu k) (z111_n k)
/-! ### overspill.overspilllaw27.SheetoutPuts -/
noncomputable def z112U0 (_ : Nat) : List (Nat × Ent) := []
theorem z112U0_k (k : Nat) : UTab (z112U0 k) := UTab.nil
noncomputable def z112u0d : UDef := ⟨[(1, none), (2, none)], [10, 11, 12, 13, 14, 15, 16, 17, 18, 19, 20, 21, 22], [(.normal, [(22, none)])], []⟩
noncomputable def z112u0p : XPat := ⟨.normal, [(.tv .str), (.ptr 0 [])], [(.box (.tv YSheet))]⟩
noncomputable def z112u0x : List XPat := [⟨.normal, [(.tv .bool)], [(.box (.tv YSheet))]⟩]
noncomputable def overspilllaw27_SheetoutPutsu0 (k : Nat) (x0 : List UInt8) (x1 : DSheet) : Option ((Bool) × (DSheet)) :=
  Option.bind (overspilllaw27_light k x1) fun (v17 : Bool) =>
  bif (!v17) then
    some (true, x1)
  else
  bif (decide ((100 : Int) < ((List.length x0 : Nat) : Int))) then
    some (true, x1)
  else
  Option.bind (overspillref02_Plain k x0) fun (v18 : Bool) =>
  some ((!v18), x1)
noncomputable def z112u0b : AC :=
  (.region [(iO 10 (.load true 8 (.t 2))),
    (iC 11 4 [((.t 10), some YSheet)]),
    (iO 12 (.un .not (.t 11))),
    (iO 13 (.mv (.t 12))),
    ⟨some 14, some (3, 13, false), (.op (.mv (.t 1))), []⟩,
    ⟨some 15, some (3, 13, false), (.op (.lens (.t 14))), []⟩,
    ⟨some 16, some (3, 13, false), (.op (.bin .gtr (.t 15) (nI 100))), []⟩,
    (iO 17 (.pick (.t 13) (.c (.tv .bool (true : Bool))) (.t 16))),
    (iO 18 (.mv (.t 17))),
    ⟨some 19, some (8, 18, false), (.op (.mv (.t 1))), []⟩,
    ⟨some 20, some (8, 18, false), (.call (.c (.fn 5 .nil .nil)) [((.t 19), none)]), []⟩,
    ⟨some 21, some (8, 18, false), (.op (.un .not (.t 20))), []⟩,
    (iO 22 (.pick (.t 18) (.c (.tv .bool (true : Bool))) (.t 21)))])
noncomputable def z112u0t (k : Nat) (d : z112u0p.D) : Option (XD z112u0x) := overspilllaw27_SheetoutPutsu0 k d.1.1 d.2
theorem z112u0_k (k : Nat) : UOK P GL (mkU z112u0p z112u0x (z112u0t k) nilU) z112u0d false z112u0b :=
  unit_typed (ud := z112u0d) (body := z112u0b) (uorc := uorT (z112U0 k)) hmo (T109_ok k).oo (z112U0_k k) (AllU.no (by kernel_rfl)) (fun d => by kernel_rfl)
noncomputable def z112U1 (k : Nat) : List (Nat × Ent) := (0, ⟨mkU z112u0p z112u0x (z112u0t k) nilU⟩) :: z112U0 k
theorem z112U1_k (k : Nat) : UTab (z112U1 k) := (z112U0_k k).cons (mkU_nat nilU_nat)
noncomputable def z112u1d : UDef := ⟨[(2, none), (6, none), (8, none)], [36, 37, 38, 39, 40, 41, 42, 43, 44, 45, 46, 47, 48, 49], [(.normal, [(49, none)])], []⟩
noncomputable def z112u1p : XPat := ⟨.normal, [(.ptr 0 []), (.tv (.int .i64)), (.tv (.int .i64))], [(.box (.tv YSheet))]⟩
noncomputable def z112u1x : List XPat := [⟨.normal, [(.tv .bool)], [(.box (.tv YSheet))]⟩]
noncomputable def overspilllaw27_SheetoutPutsu1 (k : Nat) (x0 : Int) (x1 : Int) (x2 : DSheet) : Option ((Bool) × (DSheet)) :=
  Option.bind (sheetout_Put_2 k x2) fun (v362 : Int) =>
  bif (!(decide (v362 = 1))) then
    some (true, x2)
  else
  bif (!(decide (x0 = x1))) then
    some (true, x2)
  else
  Option.bind (overspillref25_Check k x2) fun (v363 : Int) =>
  some ((!(decide (x0 = v363))), x2)
noncomputable def z112u1b : AC :=
  (.region [(iO 36 (.load true 8 (.t 2))),
    (iC 37 9 [((.c .nilp), none), ((.t 36), some YSheet)]),
    (iO 38 (.bin .neq (.t 37) (nI 1))),
    (iO 39 (.mv (.t 38))),
    ⟨some 40, some (3, 39, false), (.op (.mv (.t 6))), []⟩,
    ⟨some 41, some (3, 39, false), (.op (.mv (.t 8))), []⟩,
    ⟨some 42, some (3, 39, false), (.op (.bin .neq (.t 40) (.t 41))), []⟩,
    (iO 43 (.pick (.t 39) (.c (.tv .bool (true : Bool))) (.t 42))),
    (iO 44 (.mv (.t 43))),
    ⟨some 45, some (8, 44, false), (.op (.mv (.t 6))), []⟩,
    ⟨some 46, some (8, 44, false), (.op (.load true 8 (.t 2))), []⟩,
    ⟨some 47, some (8, 44, false), (.call (.c (.fn 11 .nil .nil)) [((.t 46), some YSheet)]), []⟩,
    ⟨some 48, some (8, 44, false), (.op (.bin .neq (.t 45) (.t 47))), []⟩,
    (iO 49 (.pick (.t 44) (.c (.tv .bool (true : Bool))) (.t 48)))])
noncomputable def z112u1t (k : Nat) (d : z112u1p.D) : Option (XD z112u1x) := overspilllaw27_SheetoutPutsu1 k d.1.2.1 d.1.2.2 d.2
theorem z112u1_k (k : Nat) : UOK P GL (mkU z112u1p z112u1x (z112u1t k) nilU) z112u1d false z112u1b :=
  unit_typed (ud := z112u1d) (body := z112u1b) (uorc := uorT (z112U1 k)) hmo (T109_ok k).oo (z112U1_k k) (AllU.no (by kernel_rfl)) (fun d => by kernel_rfl)
noncomputable def z112U2 (k : Nat) : List (Nat × Ent) := (1, ⟨mkU z112u1p z112u1x (z112u1t k) nilU⟩) :: z112U1 k
theorem z112U2_k (k : Nat) : UTab (z112U2 k) := (z112U1_k k).cons (mkU_nat nilU_nat)
noncomputable def z112u2d : UDef := ⟨[(1, none), (5, none), (7, none)], [4, 52, 53, 54, 55, 56, 57, 58, 59, 60, 61, 62, 63], [(.normal, [(4, none)])], []⟩
noncomputable def z112u2p : XPat := ⟨.normal, [(.tv .str), (.ptr 0 []), (.tv (.int .i64))], [(.box (.cons (.row 1) (.cons (.tv (.int .i64)) .nil))), (.row (.int .u8) false)]⟩
noncomputable def z112u2x : List XPat := [⟨.normal, [(.tv .bool)], [(.box (.cons (.row 1) (.cons (.tv (.int .i64)) .nil))), (.row (.int .u8) false)]⟩]
noncomputable def overspilllaw27_SheetoutPutsu2 (k : Nat) (x0 : List UInt8) (x1 : Int) (x2 : Int) (x3 : List (Int)) : Option ((Bool) × (((Unit) × ((Int) × (Unit))) × (List (Int)))) :=
  bif (decide (x1 = 0)) then
    Option.bind (outbits_Writer_Len k x2 x3) fun (v367 : (Int) × (((Unit) × ((Int) × (Unit))) × (List (Int)))) =>
    bif (decide (v367.1 = ((List.length x0 : Nat) : Int))) then
      Option.bind (overspilllaw27_lives k) fun (v368 : Bool) =>
      some (v368, (((), (v367.2.1.2.1, ())), v367.2.2))
    else
    some (false, (((), (v367.2.1.2.1, ())), v367.2.2))
  else
  some (false, (((), (x2, ())), x3))
noncomputable def z112u2b : AC :=
  (.region [(iO 52 (.mv (.t 7))),
    (iO 53 (.bin .eql (.t 52) (nI 0))),
    (iO 54 (.mv (.t 53))),
    ⟨some 55, some (2, 54, true), (.op (.mv (.t 5))), []⟩,
    ⟨some 56, some (2, 54, true), (.call (.c (.fn 12 .nil .nil)) [((.t 55), none)]), []⟩,
    ⟨some 57, some (2, 54, true), (.op (.mv (.t 1))), []⟩,
    ⟨some 58, some (2, 54, true), (.op (.lens (.t 57))), []⟩,
    ⟨some 59, some (2, 54, true), (.op (.bin .eql (.t 56) (.t 58))), []⟩,
    (iO 60 (.pick (.t 54) (.t 59) (.c (.tv .bool (false : Bool))))),
    (iO 61 (.mv (.t 60))),
    ⟨some 62, some (9, 61, true), (.call (.c (.fn 6 .nil .nil)) []), []⟩,
    (iO 63 (.pick (.t 61) (.t 62) (.c (.tv .bool (false : Bool))))),
    (iO 4 (.mv (.t 63)))])
noncomputable def z112u2t (k : Nat) (d : z112u2p.D) : Option (XD z112u2x) := overspilllaw27_SheetoutPutsu2 k d.1.1 d.1.2.2 d.2.1.2.1 d.2.2
theorem z112u2_k (k : Nat) : UOK P GL (mkU z112u2p z112u2x (z112u2t k) nilU) z112u2d false z112u2b :=
  unit_typed (ud := z112u2d) (body := z112u2b) (uorc := uorT (z112U2 k)) hmo (T109_ok k).oo (z112U2_k k) (AllU.no (by kernel_rfl)) (fun d => by kernel_rfl)
noncomputable def z112U3 (k : Nat) : List (Nat × Ent) := (2, ⟨mkU z112u2p z112u2x (z112u2t k) nilU⟩) :: z112U2 k
theorem z112U3_k (k : Nat) : UTab (z112U3 k) := (z112U2_k k).cons (mkU_nat nilU_nat)
noncomputable def overspilllaw27_SheetoutPuts (k : Nat) (x0 : DSheet) (x1 : List UInt8) : Option (Bool) :=
  Option.bind (overspilllaw27_SheetoutPutsu0 k x1 x0) fun (v19 : (Bool) × (DSheet)) =>
  bif v19.1 then
    Option.bind (overspilllaw27_lives k) fun (v282 : Bool) =>
    some v282
  else
  Option.bind (outbits_New k) fun (v283 : (Unit) × (((Unit) × ((Int) × (Unit))) × (List (Int)))) =>
  Option.bind (outbits_Writer_Add k x1 v283.2.1.2.1 v283.2.2) fun (v284 : (Int) × (((Unit) × ((Int) × (Unit))) × (List (Int)))) =>
  Option.bind (sheetout_Put k v19.2 v284.2.1.2.1 v284.2.2) fun (v285 : (Int) × (((Unit) × ((Int) × (Unit))) × (List (Int)))) =>
  Option.bind (sheetout_Bits k v19.2) fun (v286 : (Int) × ((Int) × (Unit))) =>
  Option.bind (overspilllaw27_SheetoutPutsu1 k v285.1 v286.2.1 v19.2) fun (v364 : (Bool) × (DSheet)) =>
  bif v364.1 then
    some false
  else
  bif (!(decide (v285.1 = 0))) then
    Option.bind (overspilllaw27_SheetoutPutsu2 k x1 v286.1 v285.2.1.2.1 v285.2.2) fun (v369 : (Bool) × (((Unit) × ((Int) × (Unit))) × (List (Int)))) =>
    some v369.1
  else
  Option.bind (overspillref27_Row k ((List.length x1 : Nat) : Int) v364.2) fun (v497 : List UInt8) =>
  bif (decide ((List.length x1) + (List.length v497) ≤ strMax)) then
    Option.bind (outbits_Writer_Len k v285.2.1.2.1 v285.2.2) fun (v498 : (Int) × (((Unit) × ((Int) × (Unit))) × (List (Int)))) =>
    bif (decide (v498.1 = ((List.length (x1 ++ v497) : Nat) : Int))) then
      Option.bind (outbits_Writer_Text k v498.2.1.2.1 v498.2.2) fun (v499 : (List UInt8) × (((Unit) × ((Int) × (Unit))) × (List (Int)))) =>
      Option.bind (overspillref02_Pack k (x1 ++ v497)) fun (v505 : List UInt8) =>
      bif (decide (v499.1 = v505)) then
        Option.bind (overspillref27_Bits k v364.2) fun (v507 : Int) =>
        bif (decide (v286.1 = v507)) then
          bif (decide ((Int.tmod v286.1 8) = 0)) then
            Option.bind (overspilllaw27_lives k) fun (v508 : Bool) =>
            some v508
          else
          some false
        else
        some false
      else
      some false
    else
    some false
  else
    none
noncomputable def z112b : AC :=
  (.seq (.region [(iO 2 (.box (.t 0))),
    (iO 4 (.mv (.c (.tv .bool (false : Bool)))))])
  (.seq (.seq (.unit 0 z112u0d false z112u0b)
  (.cond (.t 22)
  (.seq (.region [(iC 23 6 []),
      (iO 4 (.mv (.t 23)))])
    .ret)
  .skip))
  (.seq (.region [(iC 24 7 []),
    (iO 5 (.mv (.t 24)))])
  (.seq (.region [(iO 25 (.mv (.t 5))),
    (iO 26 (.mv (.t 1))),
    (iC 27 8 [((.t 25), none), ((.t 26), none)])])
  (.seq (.region [(iO 28 (.mv (.t 5))),
    (iO 29 (.load true 8 (.t 2))),
    (iC 30 9 [((.t 28), none), ((.t 29), some YSheet)]),
    (iO 6 (.mv (.t 30)))])
  (.seq (.region [(iO 32 (.load true 8 (.t 2))),
    (iC 33 10 [((.t 32), some YSheet)]),
    (iO 31 (.mv (.t 33))),
    (iO 34 (.ext (.t 31) 0)),
    (iO 35 (.ext (.t 31) 1)),
    (iO 7 (.mv (.t 34))),
    (iO 8 (.mv (.t 35)))])
  (.seq (.seq (.unit 1 z112u1d false z112u1b)
  (.cond (.t 49)
  (.seq (.region [(iO 4 (.mv (.c (.tv .bool (false : Bool)))))])
    .ret)
  .skip))
  (.seq (.seq (.region [(iO 50 (.mv (.t 6))),
    (iO 51 (.bin .neq (.t 50) (nI 0)))])
  (.cond (.t 51)
  (.seq (.unit 2 z112u2d false z112u2b)
    .ret)
  .skip))
  (.seq (.region [(iO 64 (.mv (.t 1))),
    (iO 65 (.mv (.t 1))),
    (iO 66 (.lens (.t 65))),
    (iO 67 (.load true 8 (.t 2))),
    (iC 68 13 [((.t 66), none), ((.t 67), some YSheet)]),
    (iO 69 (.bin .add (.t 64) (.t 68))),
    (iO 9 (.mv (.t 69)))])
  (.seq (.region [(iO 70 (.mv (.t 5))),
    (iC 71 12 [((.t 70), none)]),
    (iO 72 (.mv (.t 9))),
    (iO 73 (.lens (.t 72))),
    (iO 74 (.bin .eql (.t 71) (.t 73))),
    (iO 75 (.mv (.t 74))),
    ⟨some 76, some (5, 75, true), (.op (.mv (.t 5))), []⟩,
    ⟨some 77, some (5, 75, true), (.call (.c (.fn 14 .nil .nil)) [((.t 76), none)]), []⟩,
    ⟨some 78, some (5, 75, true), (.op (.mv (.t 9))), []⟩,
    ⟨some 79, some (5, 75, true), (.call (.c (.fn 15 .nil .nil)) [((.t 78), none)]), []⟩,
    ⟨some 80, some (5, 75, true), (.op (.bin .eql (.t 77) (.t 79))), []⟩,
    (iO 81 (.pick (.t 75) (.t 80) (.c (.tv .bool (false : Bool))))),
    (iO 82 (.mv (.t 81))),
    ⟨some 83, some (12, 82, true), (.op (.mv (.t 7))), []⟩,
    ⟨some 84, some (12, 82, true), (.op (.load true 8 (.t 2))), []⟩,
    ⟨some 85, some (12, 82, true), (.call (.c (.fn 16 .nil .nil)) [((.t 84), some YSheet)]), []⟩,
    ⟨some 86, some (12, 82, true), (.op (.bin .eql (.t 83) (.t 85))), []⟩,
    (iO 87 (.pick (.t 82) (.t 86) (.c (.tv .bool (false : Bool))))),
    (iO 88 (.mv (.t 87))),
    ⟨some 89, some (18, 88, true), (.op (.mv (.t 7))), []⟩,
    ⟨some 90, some (18, 88, true), (.op (.bin .rem (.t 89) (nI 8))), []⟩,
    ⟨some 91, some (18, 88, true), (.op (.bin .eql (.t 90) (nI 0))), []⟩,
    (iO 92 (.pick (.t 88) (.t 91) (.c (.tv .bool (false : Bool))))),
    (iO 93 (.mv (.t 92))),
    ⟨some 94, some (23, 93, true), (.call (.c (.fn 6 .nil .nil)) []), []⟩,
    (iO 95 (.pick (.t 93) (.t 94) (.c (.tv .bool (false : Bool))))),
    (iO 4 (.mv (.t 95)))])
  .ret))))))))))
noncomputable def z112f : FDef := ⟨2, 96, [.tmp 4 none], z112b⟩
noncomputable def z112p : XPat := ⟨.normal, [(.tv YSheet), (.tv .str)], []⟩
noncomputable def z112x : List XPat := [⟨.ret, [(.tv .bool)], []⟩]
noncomputable def z112t (k : Nat) (d : z112p.D) : Option (XD z112x) := overspilllaw27_SheetoutPuts k d.1 d.2
noncomputable def z112_e (k : Nat) : UEntry := mkU z112p z112x (z112t k) nilU
theorem z112_n (k : Nat) : UNat (z112_e k) := mkU_nat nilU_nat
theorem z112_fu (k : Nat) : FU P GL 3 (z112_e k) :=
  fn_typed (uorc := uorT (z112U3 k)) hmo (T109_ok k).oo (z112U3_k k) (fd := z112f) (AllU.seq (AllU.no (by kernel_rfl)) (AllU.seq (AllU.seq (AllU.unit (uorc := uorT (z112U3 k)) (u := 0) (z112u0_k k)) (AllU.no (by kernel_rfl))) (AllU.seq (AllU.no (by kernel_rfl)) (AllU.seq (AllU.no (by kernel_rfl)) (AllU.seq (AllU.no (by kernel_rfl)) (AllU.seq (AllU.no (by kernel_rfl)) (AllU.seq (AllU.seq (AllU.unit (uorc := uorT (z112U3 k)) (u := 1) (z112u1_k k)) (AllU.no (by kernel_rfl))) (AllU.seq (AllU.seq (AllU.no (by kernel_rfl)) (AllU.cond (AllU.seq (AllU.unit (uorc := uorT (z112U3 k)) (u := 2) (z112u2_k k)) (AllU.no (by kernel_rfl))) (AllU.no (by kernel_rfl)))) (AllU.no (by kernel_rfl)))))))))) (fn := Tryz.f3) (by kernel_rfl) (by kernel_rfl) (fun d => by kernel_rfl) FU_nil
noncomputable def T110 (k : Nat) : List (Nat × Ent) := (3, ⟨z112_e k⟩) :: T109 k
theorem T110_ok (k : Nat) : TabOK P GL (T110 k) := (T109_ok k).cons (z112_fu k) (z112_n k)
end Go.Proofs.YtlmajdbchmnhdaaGreatDoor
