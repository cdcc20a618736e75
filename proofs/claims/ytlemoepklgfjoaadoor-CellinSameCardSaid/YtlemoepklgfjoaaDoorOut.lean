/-
  The functions of the program as typed functions, further on. Printed by a program of mine.
-/
import Derived.Test.YtlemoepklgfjoaaDoorOut1
set_option maxRecDepth 100000
namespace Go.Proofs.YtlemoepklgfjoaaDoor
open Go Go.Av
/-! ### overspill.blocks.first -/
noncomputable def blocks_first_U0 (_ : Nat) : List (Nat × Ent) := []
theorem blocks_first_U0_ok (k : Nat) : UTab (blocks_first_U0 k) := UTab.nil
noncomputable def blocks_firstu0_d : UDef := ⟨[(4, none), (15, none)], [15, 18, 19], [(.normal, [(15, none)])], []⟩
noncomputable def blocks_firstu0_p : XPat := ⟨.normal, [(.tv (.int .i64)), (.tv .bool)], []⟩
noncomputable def blocks_firstu0_x : List XPat := [⟨.normal, [(.tv .bool)], []⟩]
noncomputable def blocks_firstu0 (k : Nat) (x0 : Int) (x1 : Bool) : Option (Bool) :=
  bif x1 then
    some x1
  else
  some (decide (x0 = 128))
noncomputable def blocks_firstu0_b : AC :=
  (.cond (.t 15)
  .skip
  (.region [⟨some 18, none, (.op (.mv (.t 4))), []⟩,
      ⟨some 19, none, (.op (.bin .eql (.t 18) (.c (.tv (.int .i64) (128 : Int))))), []⟩,
      ⟨some 15, none, (.op (.mv (.t 19))), []⟩]))
noncomputable def blocks_firstu0_t (k : Nat) (d : blocks_firstu0_p.D) : Option (XD blocks_firstu0_x) := blocks_firstu0 k d.1 d.2
theorem blocks_firstu0_ok (k : Nat) : UOK P GL (mkU blocks_firstu0_p blocks_firstu0_x (blocks_firstu0_t k) nilU) blocks_firstu0_d false blocks_firstu0_b :=
  unit_typed (ud := blocks_firstu0_d) (body := blocks_firstu0_b) (uorc := uorT (blocks_first_U0 k)) hmo (T35_ok k).oo (blocks_first_U0_ok k) (AllU.no (by kernel_rfl)) (fun d => by kernel_rfl)
noncomputable def blocks_first_U1 (k : Nat) : List (Nat × Ent) := (0, ⟨mkU blocks_firstu0_p blocks_firstu0_x (blocks_firstu0_t k) nilU⟩) :: blocks_first_U0 k
theorem blocks_first_U1_ok (k : Nat) : UTab (blocks_first_U1 k) := (blocks_first_U0_ok k).cons (mkU_nat nilU_nat)
noncomputable def blocks_first (k : Nat) (x0 : DReader) : Option (((Int) × ((Int) × (Unit))) × (DReader)) :=
  Option.bind (inbits_Reader_Take k 8 x0) fun (v136 : ((Int) × ((Int) × (Unit))) × (DReader)) =>
  bif (!(decide (v136.1.2.1 = 0))) then
    some ((0, (v136.1.2.1, ())), v136.2)
  else
  Option.bind (blocks_firstu0 k v136.1.1 (decide (v136.1.1 = 0))) fun (v137 : Bool) =>
  bif v137 then
    some ((0, (7, ())), v136.2)
  else
  bif (decide (v136.1.1 = 255)) then
    some ((128, (0, ())), v136.2)
  else
  some ((v136.1.1, (0, ())), v136.2)
noncomputable def blocks_first_b : AC :=
  (.seq (.region [⟨some 2, none, (.op (.mv (.c (.tv (.int .i64) (0 : Int))))), []⟩,
    ⟨some 3, none, (.op (.mv (.c (.tv (.int .i64) (0 : Int))))), []⟩])
  (.seq (.region [⟨some 7, none, (.op (.mv (.t 0))), []⟩,
    ⟨some 8, none, (.call (.c (.fn 72 .nil .nil)) [((.t 7), none), ((.c (.tv (.int .i64) (8 : Int))), none)]), []⟩,
    ⟨some 6, none, (.op (.mv (.t 8))), []⟩,
    ⟨some 9, none, (.op (.ext (.t 6) 0)), []⟩,
    ⟨some 10, none, (.op (.ext (.t 6) 1)), []⟩,
    ⟨some 4, none, (.op (.mv (.t 9))), []⟩,
    ⟨some 5, none, (.op (.mv (.t 10))), []⟩])
  (.seq (.block 0 (.seq (.region [⟨some 12, none, (.op (.mv (.t 5))), []⟩,
    ⟨some 13, none, (.op (.bin .neq (.t 12) (.c (.tv (.int .i64) (0 : Int))))), []⟩,
    ⟨some 11, none, (.op (.mv (.t 13))), []⟩])
  (.cond (.t 11)
  (.seq (.region [⟨some 14, none, (.op (.mv (.t 5))), []⟩,
      ⟨some 2, none, (.op (.mv (.c (.tv (.int .i64) (0 : Int))))), []⟩,
      ⟨some 3, none, (.op (.mv (.t 14))), []⟩])
    .ret)
  (.seq (.seq (.region [⟨some 16, none, (.op (.mv (.t 4))), []⟩,
      ⟨some 17, none, (.op (.bin .eql (.t 16) (.c (.tv (.int .i64) (0 : Int))))), []⟩,
      ⟨some 15, none, (.op (.mv (.t 17))), []⟩])
    (.unit 0 blocks_firstu0_d false blocks_firstu0_b))
    (.cond (.t 15)
    (.seq (.region [⟨some 2, none, (.op (.mv (.c (.tv (.int .i64) (0 : Int))))), []⟩,
        ⟨some 3, none, (.op (.mv (.c (.tv (.int .i64) (7 : Int))))), []⟩])
      .ret)
    (.seq (.region [⟨some 21, none, (.op (.mv (.t 4))), []⟩,
        ⟨some 22, none, (.op (.bin .eql (.t 21) (.c (.tv (.int .i64) (255 : Int))))), []⟩,
        ⟨some 20, none, (.op (.mv (.t 22))), []⟩])
      (.cond (.t 20)
      (.seq (.region [⟨some 2, none, (.op (.mv (.c (.tv (.int .i64) (128 : Int))))), []⟩,
          ⟨some 3, none, (.op (.mv (.c (.tv (.int .i64) (0 : Int))))), []⟩])
        .ret)
      .skip)))))))
  (.seq (.region [⟨some 23, none, (.op (.mv (.t 4))), []⟩,
    ⟨some 2, none, (.op (.mv (.t 23))), []⟩,
    ⟨some 3, none, (.op (.mv (.c (.tv (.int .i64) (0 : Int))))), []⟩])
  .ret))))
noncomputable def blocks_first_f : FDef := ⟨1, 24, [.tmp 2 none, .tmp 3 none], blocks_first_b⟩
noncomputable def blocks_first_p : XPat := ⟨.normal, [(.ptr 0 [])], [(.box (.tv YReader))]⟩
noncomputable def blocks_first_x : List XPat := [⟨.ret, [(.tup (.cons (.tv (.int .i64)) (.cons (.tv (.int .i64)) .nil)))], [(.box (.tv YReader))]⟩]
noncomputable def blocks_first_t (k : Nat) (d : blocks_first_p.D) : Option (XD blocks_first_x) := blocks_first k d.2
noncomputable def blocks_first_e (k : Nat) : UEntry := mkU blocks_first_p blocks_first_x (blocks_first_t k) nilU
theorem blocks_first_n (k : Nat) : UNat (blocks_first_e k) := mkU_nat nilU_nat
theorem blocks_first_m : mfn P blocks_first_f Tryd.f78 = true := by kernel_rfl
theorem blocks_first_fu (k : Nat) : FU P GL 78 (blocks_first_e k) :=
  fn_typed (uorc := uorT (blocks_first_U1 k)) hmo (T35_ok k).oo (blocks_first_U1_ok k) (fd := blocks_first_f) (AllU.seq (AllU.no (by kernel_rfl)) (AllU.seq (AllU.no (by kernel_rfl)) (AllU.seq (AllU.block (AllU.seq (AllU.no (by kernel_rfl)) (AllU.cond (AllU.no (by kernel_rfl)) (AllU.seq (AllU.seq (AllU.no (by kernel_rfl)) (AllU.unit (uorc := uorT (blocks_first_U1 k)) (u := 0) (blocks_firstu0_ok k))) (AllU.no (by kernel_rfl)))))) (AllU.no (by kernel_rfl))))) (fn := Tryd.f78) (by kernel_rfl) blocks_first_m (fun d => by kernel_rfl) FU_nil
noncomputable def T36 (k : Nat) : List (Nat × Ent) := (78, ⟨blocks_first_e k⟩) :: T35 k
theorem T36_ok (k : Nat) : TabOK P GL (T36 k) := (T35_ok k).cons (blocks_first_fu k) (blocks_first_n k)
/-! ### overspill.blocks.from -/
noncomputable def blocks_from_U0 (_ : Nat) : List (Nat × Ent) := []
theorem blocks_from_U0_ok (k : Nat) : UTab (blocks_from_U0 k) := UTab.nil
noncomputable def blocks_from (k : Nat) (x0 : Bool) : Option (Int) :=
  bif x0 then
    some 1
  else
  some 0
noncomputable def blocks_from_b : AC :=
  (.seq (.region [⟨some 2, none, (.op (.mv (.c (.tv (.int .i64) (0 : Int))))), []⟩])
  (.seq (.seq (.region [⟨some 3, none, (.op (.mv (.t 0))), []⟩])
  (.cond (.t 3)
  (.seq (.region [⟨some 2, none, (.op (.mv (.c (.tv (.int .i64) (1 : Int))))), []⟩])
    .ret)
  .skip))
  (.seq (.region [⟨some 2, none, (.op (.mv (.c (.tv (.int .i64) (0 : Int))))), []⟩])
  .ret)))
noncomputable def blocks_from_f : FDef := ⟨1, 4, [.tmp 2 none], blocks_from_b⟩
noncomputable def blocks_from_p : XPat := ⟨.normal, [(.tv .bool)], []⟩
noncomputable def blocks_from_x : List XPat := [⟨.ret, [(.tv (.int .i64))], []⟩]
noncomputable def blocks_from_t (k : Nat) (d : blocks_from_p.D) : Option (XD blocks_from_x) := blocks_from k d
noncomputable def blocks_from_e (k : Nat) : UEntry := mkU blocks_from_p blocks_from_x (blocks_from_t k) nilU
theorem blocks_from_n (k : Nat) : UNat (blocks_from_e k) := mkU_nat nilU_nat
theorem blocks_from_m : mfn P blocks_from_f Tryd.f80 = true := by kernel_rfl
theorem blocks_from_fu (k : Nat) : FU P GL 80 (blocks_from_e k) :=
  fn_typed (uorc := uorT (blocks_from_U0 k)) hmo (T36_ok k).oo (blocks_from_U0_ok k) (fd := blocks_from_f) (AllU.no (by kernel_rfl)) (fn := Tryd.f80) (by kernel_rfl) blocks_from_m (fun d => by kernel_rfl) FU_nil
noncomputable def T37 (k : Nat) : List (Nat × Ent) := (80, ⟨blocks_from_e k⟩) :: T36 k
theorem T37_ok (k : Nat) : TabOK P GL (T37 k) := (T36_ok k).cons (blocks_from_fu k) (blocks_from_n k)
/-! ### overspill.tcoef.Right -/
noncomputable def tcoef_Right_U0 (_ : Nat) : List (Nat × Ent) := []
theorem tcoef_Right_U0_ok (k : Nat) : UTab (tcoef_Right_U0 k) := UTab.nil
noncomputable def tcoef_Right (k : Nat) (x0 : DEvent) : Option (Bool) :=
  bif (decide ((0 : Int) ≤ x0.2.1)) then
    bif (decide (x0.2.1 ≤ 63)) then
      bif (!(decide (x0.2.2.1 = 0))) then
        bif (decide (((-127) : Int) ≤ x0.2.2.1)) then
          some (decide (x0.2.2.1 ≤ 127))
        else
        some false
      else
      some false
    else
    some false
  else
  some false
noncomputable def tcoef_Right_b : AC :=
  (.seq (.region [⟨some 1, none, (.op (.box (.t 0))), []⟩,
    ⟨some 2, none, (.op (.mv (.c (.tv .bool (false : Bool))))), []⟩])
  (.seq (.region [⟨some 3, none, (.op (.fad 1 1 (.t 1))), []⟩,
    ⟨some 4, none, (.op (.load false 1 (.t 3))), []⟩,
    ⟨some 5, none, (.op (.bin .geq (.t 4) (.c (.tv (.int .i64) (0 : Int))))), []⟩,
    ⟨some 6, none, (.op (.mv (.t 5))), []⟩,
    ⟨some 7, some (3, 6, true), (.op (.fad 1 1 (.t 1))), []⟩,
    ⟨some 8, some (3, 6, true), (.op (.load false 1 (.t 7))), []⟩,
    ⟨some 9, some (3, 6, true), (.op (.bin .leq (.t 8) (.c (.tv (.int .i64) (63 : Int))))), []⟩,
    ⟨some 10, none, (.op (.pick (.t 6) (.t 9) (.c (.tv .bool (false : Bool))))), []⟩,
    ⟨some 11, none, (.op (.mv (.t 10))), []⟩,
    ⟨some 12, some (8, 11, true), (.op (.fad 2 2 (.t 1))), []⟩,
    ⟨some 13, some (8, 11, true), (.op (.load false 1 (.t 12))), []⟩,
    ⟨some 14, some (8, 11, true), (.op (.bin .neq (.t 13) (.c (.tv (.int .i64) (0 : Int))))), []⟩,
    ⟨some 15, none, (.op (.pick (.t 11) (.t 14) (.c (.tv .bool (false : Bool))))), []⟩,
    ⟨some 16, none, (.op (.mv (.t 15))), []⟩,
    ⟨some 17, some (13, 16, true), (.op (.fad 2 2 (.t 1))), []⟩,
    ⟨some 18, some (13, 16, true), (.op (.load false 1 (.t 17))), []⟩,
    ⟨some 19, some (13, 16, true), (.op (.bin .geq (.t 18) (.c (.tv (.int .i64) ((-127) : Int))))), []⟩,
    ⟨some 20, none, (.op (.pick (.t 16) (.t 19) (.c (.tv .bool (false : Bool))))), []⟩,
    ⟨some 21, none, (.op (.mv (.t 20))), []⟩,
    ⟨some 22, some (18, 21, true), (.op (.fad 2 2 (.t 1))), []⟩,
    ⟨some 23, some (18, 21, true), (.op (.load false 1 (.t 22))), []⟩,
    ⟨some 24, some (18, 21, true), (.op (.bin .leq (.t 23) (.c (.tv (.int .i64) (127 : Int))))), []⟩,
    ⟨some 25, none, (.op (.pick (.t 21) (.t 24) (.c (.tv .bool (false : Bool))))), []⟩,
    ⟨some 2, none, (.op (.mv (.t 25))), []⟩])
  .ret))
noncomputable def tcoef_Right_f : FDef := ⟨1, 26, [.tmp 2 none], tcoef_Right_b⟩
noncomputable def tcoef_Right_p : XPat := ⟨.normal, [(.tv YEvent)], []⟩
noncomputable def tcoef_Right_x : List XPat := [⟨.ret, [(.tv .bool)], []⟩]
noncomputable def tcoef_Right_t (k : Nat) (d : tcoef_Right_p.D) : Option (XD tcoef_Right_x) := tcoef_Right k d
noncomputable def tcoef_Right_e (k : Nat) : UEntry := mkU tcoef_Right_p tcoef_Right_x (tcoef_Right_t k) nilU
theorem tcoef_Right_n (k : Nat) : UNat (tcoef_Right_e k) := mkU_nat nilU_nat
theorem tcoef_Right_m : mfn P tcoef_Right_f Tryd.f92 = true := by kernel_rfl
theorem tcoef_Right_fu (k : Nat) : FU P GL 92 (tcoef_Right_e k) :=
  fn_typed (uorc := uorT (tcoef_Right_U0 k)) hmo (T37_ok k).oo (tcoef_Right_U0_ok k) (fd := tcoef_Right_f) (AllU.no (by kernel_rfl)) (fn := Tryd.f92) (by kernel_rfl) tcoef_Right_m (fun d => by kernel_rfl) FU_nil
noncomputable def T38 (k : Nat) : List (Nat × Ent) := (92, ⟨tcoef_Right_e k⟩) :: T37 k
theorem T38_ok (k : Nat) : TabOK P GL (T38 k) := (T37_ok k).cons (tcoef_Right_fu k) (tcoef_Right_n k)
/-! ### overspill.tcoef.many -/
noncomputable def tcoef_many_U0 (_ : Nat) : List (Nat × Ent) := []
theorem tcoef_many_U0_ok (k : Nat) : UTab (tcoef_many_U0 k) := UTab.nil
noncomputable def tcoef_manyu0_d : UDef := ⟨[(0, none), (1, none)], [5, 6, 7, 8, 9, 10], [(.normal, [(5, none)])], []⟩
noncomputable def tcoef_manyu0_p : XPat := ⟨.normal, [(.tv .bool), (.tv (.int .i64))], []⟩
noncomputable def tcoef_manyu0_x : List XPat := [⟨.normal, [(.tv .bool)], []⟩]
noncomputable def tcoef_manyu0 (k : Nat) (x0 : Bool) (x1 : Int) : Option (Bool) :=
  bif x0 then
    some (decide (x1 = 0))
  else
  some false
noncomputable def tcoef_manyu0_b : AC :=
  (.region [⟨some 6, none, (.op (.mv (.t 0))), []⟩,
    ⟨some 7, none, (.op (.mv (.t 6))), []⟩,
    ⟨some 8, some (1, 7, true), (.op (.mv (.t 1))), []⟩,
    ⟨some 9, some (1, 7, true), (.op (.bin .eql (.t 8) (.c (.tv (.int .i64) (0 : Int))))), []⟩,
    ⟨some 10, none, (.op (.pick (.t 7) (.t 9) (.c (.tv .bool (false : Bool))))), []⟩,
    ⟨some 5, none, (.op (.mv (.t 10))), []⟩])
noncomputable def tcoef_manyu0_t (k : Nat) (d : tcoef_manyu0_p.D) : Option (XD tcoef_manyu0_x) := tcoef_manyu0 k d.1 d.2
theorem tcoef_manyu0_ok (k : Nat) : UOK P GL (mkU tcoef_manyu0_p tcoef_manyu0_x (tcoef_manyu0_t k) nilU) tcoef_manyu0_d false tcoef_manyu0_b :=
  unit_typed (ud := tcoef_manyu0_d) (body := tcoef_manyu0_b) (uorc := uorT (tcoef_many_U0 k)) hmo (T38_ok k).oo (tcoef_many_U0_ok k) (AllU.no (by kernel_rfl)) (fun d => by kernel_rfl)
noncomputable def tcoef_many_U1 (k : Nat) : List (Nat × Ent) := (0, ⟨mkU tcoef_manyu0_p tcoef_manyu0_x (tcoef_manyu0_t k) nilU⟩) :: tcoef_many_U0 k
theorem tcoef_many_U1_ok (k : Nat) : UTab (tcoef_many_U1 k) := (tcoef_many_U0_ok k).cons (mkU_nat nilU_nat)
noncomputable def tcoef_manyu1_d : UDef := ⟨[(0, none), (1, none)], [11, 12, 13, 14, 15, 16], [(.normal, [(11, none)])], []⟩
noncomputable def tcoef_manyu1_p : XPat := ⟨.normal, [(.tv .bool), (.tv (.int .i64))], []⟩
noncomputable def tcoef_manyu1_x : List XPat := [⟨.normal, [(.tv .bool)], []⟩]
noncomputable def tcoef_manyu1 (k : Nat) (x0 : Bool) (x1 : Int) : Option (Bool) :=
  bif x0 then
    some (decide (x1 = 1))
  else
  some false
noncomputable def tcoef_manyu1_b : AC :=
  (.region [⟨some 12, none, (.op (.mv (.t 0))), []⟩,
    ⟨some 13, none, (.op (.mv (.t 12))), []⟩,
    ⟨some 14, some (1, 13, true), (.op (.mv (.t 1))), []⟩,
    ⟨some 15, some (1, 13, true), (.op (.bin .eql (.t 14) (.c (.tv (.int .i64) (1 : Int))))), []⟩,
    ⟨some 16, none, (.op (.pick (.t 13) (.t 15) (.c (.tv .bool (false : Bool))))), []⟩,
    ⟨some 11, none, (.op (.mv (.t 16))), []⟩])
noncomputable def tcoef_manyu1_t (k : Nat) (d : tcoef_manyu1_p.D) : Option (XD tcoef_manyu1_x) := tcoef_manyu1 k d.1 d.2
theorem tcoef_manyu1_ok (k : Nat) : UOK P GL (mkU tcoef_manyu1_p tcoef_manyu1_x (tcoef_manyu1_t k) nilU) tcoef_manyu1_d false tcoef_manyu1_b :=
  unit_typed (ud := tcoef_manyu1_d) (body := tcoef_manyu1_b) (uorc := uorT (tcoef_many_U1 k)) hmo (T38_ok k).oo (tcoef_many_U1_ok k) (AllU.no (by kernel_rfl)) (fun d => by kernel_rfl)
noncomputable def tcoef_many_U2 (k : Nat) : List (Nat × Ent) := (1, ⟨mkU tcoef_manyu1_p tcoef_manyu1_x (tcoef_manyu1_t k) nilU⟩) :: tcoef_many_U1 k
theorem tcoef_many_U2_ok (k : Nat) : UTab (tcoef_many_U2 k) := (tcoef_many_U1_ok k).cons (mkU_nat nilU_nat)
noncomputable def tcoef_manyu2_d : UDef := ⟨[(0, none), (1, none)], [17, 18, 19, 20, 21, 22], [(.normal, [(17, none)])], []⟩
noncomputable def tcoef_manyu2_p : XPat := ⟨.normal, [(.tv .bool), (.tv (.int .i64))], []⟩
noncomputable def tcoef_manyu2_x : List XPat := [⟨.normal, [(.tv .bool)], []⟩]
noncomputable def tcoef_manyu2 (k : Nat) (x0 : Bool) (x1 : Int) : Option (Bool) :=
  bif x0 then
    some (decide (x1 ≤ 40))
  else
  some false
noncomputable def tcoef_manyu2_b : AC :=
  (.region [⟨some 18, none, (.op (.mv (.t 0))), []⟩,
    ⟨some 19, none, (.op (.mv (.t 18))), []⟩,
    ⟨some 20, some (1, 19, true), (.op (.mv (.t 1))), []⟩,
    ⟨some 21, some (1, 19, true), (.op (.bin .leq (.t 20) (.c (.tv (.int .i64) (40 : Int))))), []⟩,
    ⟨some 22, none, (.op (.pick (.t 19) (.t 21) (.c (.tv .bool (false : Bool))))), []⟩,
    ⟨some 17, none, (.op (.mv (.t 22))), []⟩])
noncomputable def tcoef_manyu2_t (k : Nat) (d : tcoef_manyu2_p.D) : Option (XD tcoef_manyu2_x) := tcoef_manyu2 k d.1 d.2
theorem tcoef_manyu2_ok (k : Nat) : UOK P GL (mkU tcoef_manyu2_p tcoef_manyu2_x (tcoef_manyu2_t k) nilU) tcoef_manyu2_d false tcoef_manyu2_b :=
  unit_typed (ud := tcoef_manyu2_d) (body := tcoef_manyu2_b) (uorc := uorT (tcoef_many_U2 k)) hmo (T38_ok k).oo (tcoef_many_U2_ok k) (AllU.no (by kernel_rfl)) (fun d => by kernel_rfl)
noncomputable def tcoef_many_U3 (k : Nat) : List (Nat × Ent) := (2, ⟨mkU tcoef_manyu2_p tcoef_manyu2_x (tcoef_manyu2_t k) nilU⟩) :: tcoef_many_U2 k
theorem tcoef_many_U3_ok (k : Nat) : UTab (tcoef_many_U3 k) := (tcoef_many_U2_ok k).cons (mkU_nat nilU_nat)
noncomputable def tcoef_many (k : Nat) (x0 : Bool) (x1 : Int) : Option (Int) :=
  Option.bind (tcoef_manyu0 k x0 x1) fun (v149 : Bool) =>
  bif v149 then
    some 3
  else
  Option.bind (tcoef_manyu1 k x0 x1) fun (v150 : Bool) =>
  bif v150 then
    some 2
  else
  Option.bind (tcoef_manyu2 k x0 x1) fun (v151 : Bool) =>
  bif v151 then
    some 1
  else
  bif x0 then
    some 0
  else
  bif (decide (x1 = 0)) then
    some 12
  else
  bif (decide (x1 = 1)) then
    some 6
  else
  bif (decide (x1 = 2)) then
    some 4
  else
  bif (decide (x1 ≤ 6)) then
    some 3
  else
  bif (decide (x1 ≤ 10)) then
    some 2
  else
  bif (decide (x1 ≤ 26)) then
    some 1
  else
  some 0
noncomputable def tcoef_many_b : AC :=
  (.seq (.region [⟨some 4, none, (.op (.mv (.c (.tv (.int .i64) (0 : Int))))), []⟩])
  (.seq (.block 0 (.seq (.unit 0 tcoef_manyu0_d false tcoef_manyu0_b)
  (.cond (.t 5)
  (.seq (.region [⟨some 4, none, (.op (.mv (.c (.tv (.int .i64) (3 : Int))))), []⟩])
    .ret)
  (.seq (.unit 1 tcoef_manyu1_d false tcoef_manyu1_b)
    (.cond (.t 11)
    (.seq (.region [⟨some 4, none, (.op (.mv (.c (.tv (.int .i64) (2 : Int))))), []⟩])
      .ret)
    (.seq (.unit 2 tcoef_manyu2_d false tcoef_manyu2_b)
      (.cond (.t 17)
      (.seq (.region [⟨some 4, none, (.op (.mv (.c (.tv (.int .i64) (1 : Int))))), []⟩])
        .ret)
      (.seq (.region [⟨some 24, none, (.op (.mv (.t 0))), []⟩,
          ⟨some 23, none, (.op (.mv (.t 24))), []⟩])
        (.cond (.t 23)
        (.seq (.region [⟨some 4, none, (.op (.mv (.c (.tv (.int .i64) (0 : Int))))), []⟩])
          .ret)
        (.seq (.region [⟨some 26, none, (.op (.mv (.t 1))), []⟩,
            ⟨some 27, none, (.op (.bin .eql (.t 26) (.c (.tv (.int .i64) (0 : Int))))), []⟩,
            ⟨some 25, none, (.op (.mv (.t 27))), []⟩])
          (.cond (.t 25)
          (.seq (.region [⟨some 4, none, (.op (.mv (.c (.tv (.int .i64) (12 : Int))))), []⟩])
            .ret)
          (.seq (.region [⟨some 29, none, (.op (.mv (.t 1))), []⟩,
              ⟨some 30, none, (.op (.bin .eql (.t 29) (.c (.tv (.int .i64) (1 : Int))))), []⟩,
              ⟨some 28, none, (.op (.mv (.t 30))), []⟩])
            (.cond (.t 28)
            (.seq (.region [⟨some 4, none, (.op (.mv (.c (.tv (.int .i64) (6 : Int))))), []⟩])
              .ret)
            (.seq (.region [⟨some 32, none, (.op (.mv (.t 1))), []⟩,
                ⟨some 33, none, (.op (.bin .eql (.t 32) (.c (.tv (.int .i64) (2 : Int))))), []⟩,
                ⟨some 31, none, (.op (.mv (.t 33))), []⟩])
              (.cond (.t 31)
              (.seq (.region [⟨some 4, none, (.op (.mv (.c (.tv (.int .i64) (4 : Int))))), []⟩])
                .ret)
              (.seq (.region [⟨some 35, none, (.op (.mv (.t 1))), []⟩,
                  ⟨some 36, none, (.op (.bin .leq (.t 35) (.c (.tv (.int .i64) (6 : Int))))), []⟩,
                  ⟨some 34, none, (.op (.mv (.t 36))), []⟩])
                (.cond (.t 34)
                (.seq (.region [⟨some 4, none, (.op (.mv (.c (.tv (.int .i64) (3 : Int))))), []⟩])
                  .ret)
                (.seq (.region [⟨some 38, none, (.op (.mv (.t 1))), []⟩,
                    ⟨some 39, none, (.op (.bin .leq (.t 38) (.c (.tv (.int .i64) (10 : Int))))), []⟩,
                    ⟨some 37, none, (.op (.mv (.t 39))), []⟩])
                  (.cond (.t 37)
                  (.seq (.region [⟨some 4, none, (.op (.mv (.c (.tv (.int .i64) (2 : Int))))), []⟩])
                    .ret)
                  (.seq (.region [⟨some 41, none, (.op (.mv (.t 1))), []⟩,
                      ⟨some 42, none, (.op (.bin .leq (.t 41) (.c (.tv (.int .i64) (26 : Int))))), []⟩,
                      ⟨some 40, none, (.op (.mv (.t 42))), []⟩])
                    (.cond (.t 40)
                    (.seq (.region [⟨some 4, none, (.op (.mv (.c (.tv (.int .i64) (1 : Int))))), []⟩])
                      .ret)
                    .skip)))))))))))))))))))))
  (.seq (.region [⟨some 4, none, (.op (.mv (.c (.tv (.int .i64) (0 : Int))))), []⟩])
  .ret)))
noncomputable def tcoef_many_f : FDef := ⟨2, 43, [.tmp 4 none], tcoef_many_b⟩
noncomputable def tcoef_many_p : XPat := ⟨.normal, [(.tv .bool), (.tv (.int .i64))], []⟩
noncomputable def tcoef_many_x : List XPat := [⟨.ret, [(.tv (.int .i64))], []⟩]
noncomputable def tcoef_many_t (k : Nat) (d : tcoef_many_p.D) : Option (XD tcoef_many_x) := tcoef_many k d.1 d.2
noncomputable def tcoef_many_e (k : Nat) : UEntry := mkU tcoef_many_p tcoef_many_x (tcoef_many_t k) nilU
theorem tcoef_many_n (k : Nat) : UNat (tcoef_many_e k) := mkU_nat nilU_nat
theorem tcoef_many_m : mfn P tcoef_many_f Tryd.f104 = true := by kernel_rfl
theorem tcoef_many_fu (k : Nat) : FU P GL 104 (tcoef_many_e k) :=
  fn_typed (uorc := uorT (tcoef_many_U3 k)) hmo (T38_ok k).oo (tcoef_many_U3_ok k) (fd := tcoef_many_f) (AllU.seq (AllU.no (by kernel_rfl)) (AllU.seq (AllU.block (AllU.seq (AllU.unit (uorc := uorT (tcoef_many_U3 k)) (u := 0) (tcoef_manyu0_ok k)) (AllU.cond (AllU.no (by kernel_rfl)) (AllU.seq (AllU.unit (uorc := uorT (tcoef_many_U3 k)) (u := 1) (tcoef_manyu1_ok k)) (AllU.cond (AllU.no (by kernel_rfl)) (AllU.seq (AllU.unit (uorc := uorT (tcoef_many_U3 k)) (u := 2) (tcoef_manyu2_ok k)) (AllU.no (by kernel_rfl)))))))) (AllU.no (by kernel_rfl)))) (fn := Tryd.f104) (by kernel_rfl) tcoef_many_m (fun d => by kernel_rfl) FU_nil
noncomputable def T39 (k : Nat) : List (Nat × Ent) := (104, ⟨tcoef_many_e k⟩) :: T38 k
theorem T39_ok (k : Nat) : TabOK P GL (T39 k) := (T38_ok k).cons (tcoef_many_fu k) (tcoef_many_n k)
/-! ### overspill.tcoef.place -/
noncomputable def tcoef_place_U0 (_ : Nat) : List (Nat × Ent) := []
theorem tcoef_place_U0_ok (k : Nat) : UTab (tcoef_place_U0 k) := UTab.nil
noncomputable def tcoef_placeu0_d : UDef := ⟨[(7, none), (16, none)], [7, 8, 16, 17, 18, 19, 20, 21, 22, 23], [((.exit 0), [(7, none)])], []⟩
noncomputable def tcoef_placeu0_p : XPat := ⟨.normal, [(.tv (.int .i64)), (.tv (.int .i64))], []⟩
noncomputable def tcoef_placeu0_x : List XPat := [⟨(.exit 0), [(.tv (.int .i64))], []⟩]
noncomputable def tcoef_placeu0 (k : Nat) : Nat → (Int) → (Int) → Option (Int)
  | 0, _, _ => none
  | n + 1, x0, x1 =>
    bif (decide (x1 < 63)) then
      Option.bind (tcoef_many k false x1) fun (v154 : Int) =>
      Option.bind (tcoef_placeu0 k n (wr .i64 (x0 + v154)) (wr .i64 (x1 + 1))) fun r => some r
    else
    some x0
noncomputable def tcoef_placeu0_b : AC :=
  (.seq (.region [⟨some 17, none, (.op (.bin .lss (.t 16) (.c (.tv (.int .i64) (63 : Int))))), []⟩])
  (.seq (.cond (.t 17)
  .skip
  (.exit 0))
  (.seq (.block 1 (.seq (.region [⟨some 18, none, (.op (.mv (.t 16))), []⟩,
    ⟨some 8, none, (.op (.mv (.t 18))), []⟩])
  (.region [⟨some 19, none, (.op (.mv (.t 7))), []⟩,
    ⟨some 20, none, (.op (.mv (.t 8))), []⟩,
    ⟨some 21, none, (.call (.c (.fn 104 .nil .nil)) [((.c (.tv .bool (false : Bool))), none), ((.t 20), none)]), []⟩,
    ⟨some 22, none, (.op (.bin .add (.t 19) (.t 21))), []⟩,
    ⟨some 7, none, (.op (.mv (.t 22))), []⟩])))
  (.region [⟨some 23, none, (.op (.bin .add (.t 16) (.c (.tv (.int .i64) (1 : Int))))), []⟩,
    ⟨some 16, none, (.op (.mv (.t 23))), []⟩]))))
noncomputable def tcoef_placeu0_t (k n : Nat) (d : tcoef_placeu0_p.D) : Option (XD tcoef_placeu0_x) := tcoef_placeu0 k n d.1 d.2
theorem tcoef_placeu0_ok (k : Nat) : UOK P GL (mkU tcoef_placeu0_p tcoef_placeu0_x (tcoef_placeu0_t k k) nilU) tcoef_placeu0_d true tcoef_placeu0_b :=
  loop_typed (ud := tcoef_placeu0_d) (body := tcoef_placeu0_b) (uorc := uorT (tcoef_place_U0 k)) hmo (T39_ok k).oo (tcoef_place_U0_ok k) (AllU.no (by kernel_rfl)) (t := tcoef_placeu0_t k) (fun d => by kernel_rfl) (fun n d => by kernel_rfl) k
noncomputable def tcoef_place_U1 (k : Nat) : List (Nat × Ent) := (0, ⟨mkU tcoef_placeu0_p tcoef_placeu0_x (tcoef_placeu0_t k k) nilU⟩) :: tcoef_place_U0 k
theorem tcoef_place_U1_ok (k : Nat) : UTab (tcoef_place_U1 k) := (tcoef_place_U0_ok k).cons (mkU_nat nilU_nat)
noncomputable def tcoef_placeu1_d : UDef := ⟨[(7, none), (15, none)], [7, 8, 16, 17, 18, 19, 20, 21, 22, 23], [(.normal, [(7, none)])], []⟩
noncomputable def tcoef_placeu1_p : XPat := ⟨.normal, [(.tv (.int .i64)), (.tv .bool)], []⟩
noncomputable def tcoef_placeu1_x : List XPat := [⟨.normal, [(.tv (.int .i64))], []⟩]
noncomputable def tcoef_placeu1 (k : Nat) (x0 : Int) (x1 : Bool) : Option (Int) :=
  bif x1 then
    Option.bind (tcoef_placeu0 k k x0 0) fun (v156 : Int) =>
    some v156
  else
  some x0
noncomputable def tcoef_placeu1_b : AC :=
  (.cond (.t 15)
  (.seq (.region [⟨some 16, none, (.op (.mv (.c (.tv (.int .i64) (0 : Int))))), []⟩])
    (.block 0 (.unit 0 tcoef_placeu0_d true tcoef_placeu0_b)))
  .skip)
noncomputable def tcoef_placeu1_t (k : Nat) (d : tcoef_placeu1_p.D) : Option (XD tcoef_placeu1_x) := tcoef_placeu1 k d.1 d.2
theorem tcoef_placeu1_ok (k : Nat) : UOK P GL (mkU tcoef_placeu1_p tcoef_placeu1_x (tcoef_placeu1_t k) nilU) tcoef_placeu1_d false tcoef_placeu1_b :=
  unit_typed (ud := tcoef_placeu1_d) (body := tcoef_placeu1_b) (uorc := uorT (tcoef_place_U1 k)) hmo (T39_ok k).oo (tcoef_place_U1_ok k) (AllU.cond (AllU.seq (AllU.no (by kernel_rfl)) (AllU.block (AllU.unit (uorc := uorT (tcoef_place_U1 k)) (u := 0) (tcoef_placeu0_ok k)))) (AllU.no (by kernel_rfl))) (fun d => by kernel_rfl)
noncomputable def tcoef_place_U2 (k : Nat) : List (Nat × Ent) := (1, ⟨mkU tcoef_placeu1_p tcoef_placeu1_x (tcoef_placeu1_t k) nilU⟩) :: tcoef_place_U1 k
theorem tcoef_place_U2_ok (k : Nat) : UTab (tcoef_place_U2 k) := (tcoef_place_U1_ok k).cons (mkU_nat nilU_nat)
noncomputable def tcoef_placeu2_d : UDef := ⟨[(0, none), (7, none), (24, none), (25, none)], [7, 9, 25, 26, 27, 28, 29, 30, 31, 32, 33], [((.exit 2), [(7, none)])], []⟩
noncomputable def tcoef_placeu2_p : XPat := ⟨.normal, [(.tv .bool), (.tv (.int .i64)), (.tv (.int .i64)), (.tv (.int .i64))], []⟩
noncomputable def tcoef_placeu2_x : List XPat := [⟨(.exit 2), [(.tv (.int .i64))], []⟩]
noncomputable def tcoef_placeu2 (k : Nat) : Nat → (Bool) → (Int) → (Int) → (Int) → Option (Int)
  | 0, _, _, _, _ => none
  | n + 1, x0, x1, x2, x3 =>
    bif (decide (x3 < x2)) then
      Option.bind (tcoef_many k x0 x3) fun (v159 : Int) =>
      Option.bind (tcoef_placeu2 k n x0 (wr .i64 (x1 + v159)) x2 (wr .i64 (x3 + 1))) fun r => some r
    else
    some x1
noncomputable def tcoef_placeu2_b : AC :=
  (.seq (.region [⟨some 26, none, (.op (.bin .lss (.t 25) (.t 24))), []⟩])
  (.seq (.cond (.t 26)
  .skip
  (.exit 2))
  (.seq (.block 3 (.seq (.region [⟨some 27, none, (.op (.mv (.t 25))), []⟩,
    ⟨some 9, none, (.op (.mv (.t 27))), []⟩])
  (.region [⟨some 28, none, (.op (.mv (.t 7))), []⟩,
    ⟨some 29, none, (.op (.mv (.t 0))), []⟩,
    ⟨some 30, none, (.op (.mv (.t 9))), []⟩,
    ⟨some 31, none, (.call (.c (.fn 104 .nil .nil)) [((.t 29), none), ((.t 30), none)]), []⟩,
    ⟨some 32, none, (.op (.bin .add (.t 28) (.t 31))), []⟩,
    ⟨some 7, none, (.op (.mv (.t 32))), []⟩])))
  (.region [⟨some 33, none, (.op (.bin .add (.t 25) (.c (.tv (.int .i64) (1 : Int))))), []⟩,
    ⟨some 25, none, (.op (.mv (.t 33))), []⟩]))))
noncomputable def tcoef_placeu2_t (k n : Nat) (d : tcoef_placeu2_p.D) : Option (XD tcoef_placeu2_x) := tcoef_placeu2 k n d.1 d.2.1 d.2.2.1 d.2.2.2
theorem tcoef_placeu2_ok (k : Nat) : UOK P GL (mkU tcoef_placeu2_p tcoef_placeu2_x (tcoef_placeu2_t k k) nilU) tcoef_placeu2_d true tcoef_placeu2_b :=
  loop_typed (ud := tcoef_placeu2_d) (body := tcoef_placeu2_b) (uorc := uorT (tcoef_place_U2 k)) hmo (T39_ok k).oo (tcoef_place_U2_ok k) (AllU.no (by kernel_rfl)) (t := tcoef_placeu2_t k) (fun d => by kernel_rfl) (fun n d => by kernel_rfl) k
noncomputable def tcoef_place_U3 (k : Nat) : List (Nat × Ent) := (2, ⟨mkU tcoef_placeu2_p tcoef_placeu2_x (tcoef_placeu2_t k k) nilU⟩) :: tcoef_place_U2 k
theorem tcoef_place_U3_ok (k : Nat) : UTab (tcoef_place_U3 k) := (tcoef_place_U2_ok k).cons (mkU_nat nilU_nat)
noncomputable def tcoef_place (k : Nat) (x0 : Bool) (x1 : Int) (x2 : Int) : Option (Int) :=
  Option.bind (tcoef_many k x0 x1) fun (v152 : Int) =>
  bif (decide (v152 < x2)) then
    some (-1)
  else
  Option.bind (tcoef_placeu1 k 0 x0) fun (v157 : Int) =>
  Option.bind (tcoef_placeu2 k k x0 v157 x1 0) fun (v160 : Int) =>
  some (wr .i64 ((wr .i64 (v160 + x2)) - 1))
noncomputable def tcoef_place_b : AC :=
  (.seq (.region [⟨some 6, none, (.op (.mv (.c (.tv (.int .i64) (0 : Int))))), []⟩])
  (.seq (.seq (.region [⟨some 10, none, (.op (.mv (.t 2))), []⟩,
    ⟨some 11, none, (.op (.mv (.t 0))), []⟩,
    ⟨some 12, none, (.op (.mv (.t 1))), []⟩,
    ⟨some 13, none, (.call (.c (.fn 104 .nil .nil)) [((.t 11), none), ((.t 12), none)]), []⟩,
    ⟨some 14, none, (.op (.bin .gtr (.t 10) (.t 13))), []⟩])
  (.cond (.t 14)
  (.seq (.region [⟨some 6, none, (.op (.mv (.c (.tv (.int .i64) ((-1) : Int))))), []⟩])
    .ret)
  .skip))
  (.seq (.region [⟨some 7, none, (.op (.mv (.c (.tv (.int .i64) (0 : Int))))), []⟩])
  (.seq (.seq (.region [⟨some 15, none, (.op (.mv (.t 0))), []⟩])
  (.unit 1 tcoef_placeu1_d false tcoef_placeu1_b))
  (.seq (.seq (.region [⟨some 24, none, (.op (.mv (.t 1))), []⟩,
    ⟨some 25, none, (.op (.mv (.c (.tv (.int .i64) (0 : Int))))), []⟩])
  (.block 2 (.unit 2 tcoef_placeu2_d true tcoef_placeu2_b)))
  (.seq (.region [⟨some 34, none, (.op (.mv (.t 7))), []⟩,
    ⟨some 35, none, (.op (.mv (.t 2))), []⟩,
    ⟨some 36, none, (.op (.bin .add (.t 34) (.t 35))), []⟩,
    ⟨some 37, none, (.op (.bin .sub (.t 36) (.c (.tv (.int .i64) (1 : Int))))), []⟩,
    ⟨some 6, none, (.op (.mv (.t 37))), []⟩])
  .ret))))))
noncomputable def tcoef_place_f : FDef := ⟨3, 38, [.tmp 6 none], tcoef_place_b⟩
noncomputable def tcoef_place_p : XPat := ⟨.normal, [(.tv .bool), (.tv (.int .i64)), (.tv (.int .i64))], []⟩
noncomputable def tcoef_place_x : List XPat := [⟨.ret, [(.tv (.int .i64))], []⟩]
noncomputable def tcoef_place_t (k : Nat) (d : tcoef_place_p.D) : Option (XD tcoef_place_x) := tcoef_place k d.1 d.2.1 d.2.2
noncomputable def tcoef_place_e (k : Nat) : UEntry := mkU tcoef_place_p tcoef_place_x (tcoef_place_t k) nilU
theorem tcoef_place_n (k : Nat) : UNat (tcoef_place_e k) := mkU_nat nilU_nat
theorem tcoef_place_m : mfn P tcoef_place_f Tryd.f93 = true := by kernel_rfl
theorem tcoef_place_fu (k : Nat) : FU P GL 93 (tcoef_place_e k) :=
  fn_typed (uorc := uorT (tcoef_place_U3 k)) hmo (T39_ok k).oo (tcoef_place_U3_ok k) (fd := tcoef_place_f) (AllU.seq (AllU.no (by kernel_rfl)) (AllU.seq (AllU.no (by kernel_rfl)) (AllU.seq (AllU.no (by kernel_rfl)) (AllU.seq (AllU.seq (AllU.no (by kernel_rfl)) (AllU.unit (uorc := uorT (tcoef_place_U3 k)) (u := 1) (tcoef_placeu1_ok k))) (AllU.seq (AllU.seq (AllU.no (by kernel_rfl)) (AllU.block (AllU.unit (uorc := uorT (tcoef_place_U3 k)) (u := 2) (tcoef_placeu2_ok k)))) (AllU.no (by kernel_rfl))))))) (fn := Tryd.f93) (by kernel_rfl) tcoef_place_m (fun d => by kernel_rfl) FU_nil
noncomputable def T40 (k : Nat) : List (Nat × Ent) := (93, ⟨tcoef_place_e k⟩) :: T39 k
theorem T40_ok (k : Nat) : TabOK P GL (T40 k) := (T39_ok k).cons (tcoef_place_fu k) (tcoef_place_n k)
/-! ### overspill.tcoef.escaped -/
noncomputable def tcoef_escaped_U0 (_ : Nat) : List (Nat × Ent) := []
theorem tcoef_escaped_U0_ok (k : Nat) : UTab (tcoef_escaped_U0 k) := UTab.nil
noncomputable def tcoef_escapedu0_d : UDef := ⟨[(6, none), (20, none)], [6, 21, 22], [(.normal, [(6, none)])], []⟩
noncomputable def tcoef_escapedu0_p : XPat := ⟨.normal, [(.tv (.int .i64)), (.tv .bool)], []⟩
noncomputable def tcoef_escapedu0_x : List XPat := [⟨.normal, [(.tv (.int .i64))], []⟩]
noncomputable def tcoef_escapedu0 (k : Nat) (x0 : Int) (x1 : Bool) : Option (Int) :=
  bif x1 then
    some (wr .i64 (x0 - 256))
  else
  some x0
noncomputable def tcoef_escapedu0_b : AC :=
  (.cond (.t 20)
  (.region [⟨some 21, none, (.op (.mv (.t 6))), []⟩,
      ⟨some 22, none, (.op (.bin .sub (.t 21) (.c (.tv (.int .i64) (256 : Int))))), []⟩,
      ⟨some 6, none, (.op (.mv (.t 22))), []⟩])
  .skip)
noncomputable def tcoef_escapedu0_t (k : Nat) (d : tcoef_escapedu0_p.D) : Option (XD tcoef_escapedu0_x) := tcoef_escapedu0 k d.1 d.2
theorem tcoef_escapedu0_ok (k : Nat) : UOK P GL (mkU tcoef_escapedu0_p tcoef_escapedu0_x (tcoef_escapedu0_t k) nilU) tcoef_escapedu0_d false tcoef_escapedu0_b :=
  unit_typed (ud := tcoef_escapedu0_d) (body := tcoef_escapedu0_b) (uorc := uorT (tcoef_escaped_U0 k)) hmo (T40_ok k).oo (tcoef_escaped_U0_ok k) (AllU.no (by kernel_rfl)) (fun d => by kernel_rfl)
noncomputable def tcoef_escaped_U1 (k : Nat) : List (Nat × Ent) := (0, ⟨mkU tcoef_escapedu0_p tcoef_escapedu0_x (tcoef_escapedu0_t k) nilU⟩) :: tcoef_escaped_U0 k
theorem tcoef_escaped_U1_ok (k : Nat) : UTab (tcoef_escaped_U1 k) := (tcoef_escaped_U0_ok k).cons (mkU_nat nilU_nat)
noncomputable def tcoef_escaped (k : Nat) (x0 : DReader) : Option (((DEvent) × ((Int) × (Unit))) × (DReader)) :=
  Option.bind (inbits_Reader_Take k 15 x0) fun (v146 : ((Int) × ((Int) × (Unit))) × (DReader)) =>
  bif (!(decide (v146.1.2.1 = 0))) then
    some (((false, (0, (0, ()))), (v146.1.2.1, ())), v146.2)
  else
  Option.bind (tcoef_escapedu0 k (Int.tmod v146.1.1 256) (decide ((128 : Int) ≤ (Int.tmod v146.1.1 256)))) fun (v147 : Int) =>
  Option.bind (tcoef_Right k ((decide ((shrI .i64 v146.1.1 14) = 1)), ((bitop .and .i64 (shrI .i64 v146.1.1 8) 63), (v147, ())))) fun (v148 : Bool) =>
  bif (!v148) then
    some (((false, (0, (0, ()))), (7, ())), v146.2)
  else
  Option.bind (tcoef_place k (decide ((shrI .i64 v146.1.1 14) = 1)) (bitop .and .i64 (shrI .i64 v146.1.1 8) 63) (mxI v147 (wr .i64 (0 - v147)))) fun (v161 : Int) =>
  bif (decide ((0 : Int) ≤ v161)) then
    some (((false, (0, (0, ()))), (7, ())), v146.2)
  else
  some ((((decide ((shrI .i64 v146.1.1 14) = 1)), ((bitop .and .i64 (shrI .i64 v146.1.1 8) 63), (v147, ()))), (0, ())), v146.2)
noncomputable def tcoef_escaped_b : AC :=
  (.seq (.region [⟨some 2, none, (.op (.alloc 78 (.tv YEvent))), []⟩,
    ⟨some 3, none, (.op (.mv (.c (.tv (.int .i64) (0 : Int))))), []⟩])
  (.seq (.region [⟨some 9, none, (.op (.mv (.t 0))), []⟩,
    ⟨some 10, none, (.call (.c (.fn 72 .nil .nil)) [((.t 9), none), ((.c (.tv (.int .i64) (15 : Int))), none)]), []⟩,
    ⟨some 8, none, (.op (.mv (.t 10))), []⟩,
    ⟨some 11, none, (.op (.ext (.t 8) 0)), []⟩,
    ⟨some 12, none, (.op (.ext (.t 8) 1)), []⟩,
    ⟨some 4, none, (.op (.mv (.t 11))), []⟩,
    ⟨some 5, none, (.op (.mv (.t 12))), []⟩])
  (.seq (.seq (.region [⟨some 13, none, (.op (.mv (.t 5))), []⟩,
    ⟨some 14, none, (.op (.bin .neq (.t 13) (.c (.tv (.int .i64) (0 : Int))))), []⟩])
  (.cond (.t 14)
  (.seq (.region [⟨some 15, none, (.op (.build 78 (.tv YEvent) [])), []⟩,
      ⟨some 16, none, (.op (.mv (.t 5))), []⟩,
      ⟨none, none, (.op (.store 3 none (.t 2) (.t 15))), []⟩,
      ⟨some 3, none, (.op (.mv (.t 16))), []⟩])
    .ret)
  .skip))
  (.seq (.region [⟨some 17, none, (.op (.mv (.t 4))), []⟩,
    ⟨some 18, none, (.op (.bin .rem (.t 17) (.c (.tv (.int .i64) (256 : Int))))), []⟩,
    ⟨some 6, none, (.op (.mv (.t 18))), []⟩])
  (.seq (.seq (.region [⟨some 19, none, (.op (.mv (.t 6))), []⟩,
    ⟨some 20, none, (.op (.bin .geq (.t 19) (.c (.tv (.int .i64) (128 : Int))))), []⟩])
  (.unit 0 tcoef_escapedu0_d false tcoef_escapedu0_b))
  (.seq (.region [⟨some 23, none, (.op (.mv (.t 4))), []⟩,
    ⟨some 24, none, (.op (.bin .shr (.t 23) (.c (.tv (.int .u64) (14 : Int))))), []⟩,
    ⟨some 25, none, (.op (.bin .eql (.t 24) (.c (.tv (.int .i64) (1 : Int))))), []⟩,
    ⟨some 26, none, (.op (.mv (.t 4))), []⟩,
    ⟨some 27, none, (.op (.bin .shr (.t 26) (.c (.tv (.int .u64) (8 : Int))))), []⟩,
    ⟨some 28, none, (.op (.bin .and (.t 27) (.c (.tv (.int .i64) (63 : Int))))), []⟩,
    ⟨some 29, none, (.op (.mv (.t 6))), []⟩,
    ⟨some 30, none, (.op (.build 78 (.tv YEvent) [(0, (.fld 0 0), 1, (.t 25)), (1, (.fld 1 1), 1, (.t 28)), (2, (.fld 2 2), 1, (.t 29))])), []⟩,
    ⟨some 7, none, (.op (.alloc 78 (.tv YEvent))), []⟩,
    ⟨none, none, (.op (.store 3 none (.t 7) (.t 30))), []⟩])
  (.seq (.seq (.region [⟨some 31, none, (.op (.load true 3 (.t 7))), []⟩,
    ⟨some 32, none, (.call (.c (.fn 92 .nil .nil)) [((.t 31), some YEvent)]), []⟩,
    ⟨some 33, none, (.op (.un .not (.t 32))), []⟩,
    ⟨some 34, none, (.op (.mv (.t 33))), []⟩,
    ⟨some 35, some (3, 34, false), (.op (.fad 0 0 (.t 7))), []⟩,
    ⟨some 36, some (3, 34, false), (.op (.load false 1 (.t 35))), []⟩,
    ⟨some 37, some (3, 34, false), (.op (.fad 1 1 (.t 7))), []⟩,
    ⟨some 38, some (3, 34, false), (.op (.load false 1 (.t 37))), []⟩,
    ⟨some 39, some (3, 34, false), (.op (.mv (.t 6))), []⟩,
    ⟨some 40, some (3, 34, false), (.op (.mv (.t 6))), []⟩,
    ⟨some 41, some (3, 34, false), (.op (.un .neg (.t 40))), []⟩,
    ⟨some 42, some (3, 34, false), (.op (.mx (.t 39) (.t 41))), []⟩,
    ⟨some 43, some (3, 34, false), (.call (.c (.fn 93 .nil .nil)) [((.t 36), none), ((.t 38), none), ((.t 42), none)]), []⟩,
    ⟨some 44, some (3, 34, false), (.op (.bin .geq (.t 43) (.c (.tv (.int .i64) (0 : Int))))), []⟩,
    ⟨some 45, none, (.op (.pick (.t 34) (.c (.tv .bool (true : Bool))) (.t 44))), []⟩])
  (.cond (.t 45)
  (.seq (.region [⟨some 46, none, (.op (.build 78 (.tv YEvent) [])), []⟩,
      ⟨none, none, (.op (.store 3 none (.t 2) (.t 46))), []⟩,
      ⟨some 3, none, (.op (.mv (.c (.tv (.int .i64) (7 : Int))))), []⟩])
    .ret)
  .skip))
  (.seq (.region [⟨some 47, none, (.op (.load true 3 (.t 7))), []⟩,
    ⟨none, none, (.op (.store 3 none (.t 2) (.t 47))), []⟩,
    ⟨some 3, none, (.op (.mv (.c (.tv (.int .i64) (0 : Int))))), []⟩])
  .ret))))))))
noncomputable def tcoef_escaped_f : FDef := ⟨1, 48, [.cell 2 3 true (some YEvent), .tmp 3 none], tcoef_escaped_b⟩
noncomputable def tcoef_escaped_p : XPat := ⟨.normal, [(.ptr 0 [])], [(.box (.tv YReader))]⟩
noncomputable def tcoef_escaped_x : List XPat := [⟨.ret, [(.tup (.cons (.tv YEvent) (.cons (.tv (.int .i64)) .nil)))], [(.box (.tv YReader))]⟩]
noncomputable def tcoef_escaped_t (k : Nat) (d : tcoef_escaped_p.D) : Option (XD tcoef_escaped_x) := tcoef_escaped k d.2
noncomputable def tcoef_escaped_e (k : Nat) : UEntry := mkU tcoef_escaped_p tcoef_escaped_x (tcoef_escaped_t k) nilU
theorem tcoef_escaped_n (k : Nat) : UNat (tcoef_escaped_e k) := mkU_nat nilU_nat
theorem tcoef_escaped_m : mfn P tcoef_escaped_f Tryd.f109 = true := by kernel_rfl
theorem tcoef_escaped_fu (k : Nat) : FU P GL 109 (tcoef_escaped_e k) :=
  fn_typed (uorc := uorT (tcoef_escaped_U1 k)) hmo (T40_ok k).oo (tcoef_escaped_U1_ok k) (fd := tcoef_escaped_f) (AllU.seq (AllU.no (by kernel_rfl)) (AllU.seq (AllU.no (by kernel_rfl)) (AllU.seq (AllU.no (by kernel_rfl)) (AllU.seq (AllU.no (by kernel_rfl)) (AllU.seq (AllU.seq (AllU.no (by kernel_rfl)) (AllU.unit (uorc := uorT (tcoef_escaped_U1 k)) (u := 0) (tcoef_escapedu0_ok k))) (AllU.no (by kernel_rfl))))))) (fn := Tryd.f109) (by kernel_rfl) tcoef_escaped_m (fun d => by kernel_rfl) FU_nil
noncomputable def T41 (k : Nat) : List (Nat × Ent) := (109, ⟨tcoef_escaped_e k⟩) :: T40 k
theorem T41_ok (k : Nat) : TabOK P GL (T41 k) := (T40_ok k).cons (tcoef_escaped_fu k) (tcoef_escaped_n k)
/-! ### overspill.tcoef.find -/
noncomputable def tcoef_find_U0 (_ : Nat) : List (Nat × Ent) := []
theorem tcoef_find_U0_ok (k : Nat) : UTab (tcoef_find_U0 k) := UTab.nil
noncomputable def tcoef_findu0_d : UDef := ⟨[(0, none), (1, none), (6, none), (7, none)], [14, 15, 16, 17, 18, 19, 20, 21, 22, 23, 24], [(.normal, [(14, none)])], []⟩
noncomputable def tcoef_findu0_p : XPat := ⟨.normal, [(.tv (.int .i64)), (.tv (.int .i64)), (.tv (.int .i64)), (.tv (.int .i64))], []⟩
noncomputable def tcoef_findu0_x : List XPat := [⟨.normal, [(.tv .bool)], []⟩]
noncomputable def tcoef_findu0 (k : Nat) (x0 : Int) (x1 : Int) (x2 : Int) (x3 : Int) : Option (Bool) :=
  bif (decide (x3 = x1)) then
    bif (inR x2 102) then
      some (decide ((List.getD tbl1 (Int.toNat x2) 0) = x0))
    else
      none
  else
  some false
noncomputable def tcoef_findu0_b : AC :=
  (.region [⟨some 15, none, (.op (.mv (.t 7))), []⟩,
    ⟨some 16, none, (.op (.mv (.t 1))), []⟩,
    ⟨some 17, none, (.op (.bin .eql (.t 15) (.t 16))), []⟩,
    ⟨some 18, none, (.op (.mv (.t 17))), []⟩,
    ⟨some 19, some (3, 18, true), (.op (.mv (.t 6))), []⟩,
    ⟨some 20, some (3, 18, true), (.op (.iad 102 1 (.g 1) (.t 19))), []⟩,
    ⟨some 21, some (3, 18, true), (.op (.load false 1 (.t 20))), []⟩,
    ⟨some 22, some (3, 18, true), (.op (.mv (.t 0))), []⟩,
    ⟨some 23, some (3, 18, true), (.op (.bin .eql (.t 21) (.t 22))), []⟩,
    ⟨some 24, none, (.op (.pick (.t 18) (.t 23) (.c (.tv .bool (false : Bool))))), []⟩,
    ⟨some 14, none, (.op (.mv (.t 24))), []⟩])
noncomputable def tcoef_findu0_t (k : Nat) (d : tcoef_findu0_p.D) : Option (XD tcoef_findu0_x) := tcoef_findu0 k d.1 d.2.1 d.2.2.1 d.2.2.2
theorem tcoef_findu0_ok (k : Nat) : UOK P GL (mkU tcoef_findu0_p tcoef_findu0_x (tcoef_findu0_t k) nilU) tcoef_findu0_d false tcoef_findu0_b :=
  unit_typed (ud := tcoef_findu0_d) (body := tcoef_findu0_b) (uorc := uorT (tcoef_find_U0 k)) hmo (T41_ok k).oo (tcoef_find_U0_ok k) (AllU.no (by kernel_rfl)) (fun d => by kernel_rfl)
noncomputable def tcoef_find_U1 (k : Nat) : List (Nat × Ent) := (0, ⟨mkU tcoef_findu0_p tcoef_findu0_x (tcoef_findu0_t k) nilU⟩) :: tcoef_find_U0 k
theorem tcoef_find_U1_ok (k : Nat) : UTab (tcoef_find_U1 k) := (tcoef_find_U0_ok k).cons (mkU_nat nilU_nat)
noncomputable def tcoef_findu1_d : UDef := ⟨[(0, none), (1, none), (5, none), (8, none)], [4, 5, 6, 7, 8, 9, 10, 11, 12, 13, 14, 15, 16, 17, 18, 19, 20, 21, 22, 23, 24, 25, 26, 27, 28, 29, 30, 31, 32, 33, 34, 35, 36, 37, 38, 39, 40, 41, 42], [(.ret, [(4, none), (5, none)]), ((.exit 0), [(5, none)])], []⟩
noncomputable def tcoef_findu1_p : XPat := ⟨.normal, [(.tv (.int .i64)), (.tv (.int .i64)), (.tv .bool), (.tv (.int .i64))], []⟩
noncomputable def tcoef_findu1_x : List XPat := [⟨.ret, [(.tv (.int .i64)), (.tv .bool)], []⟩, ⟨(.exit 0), [(.tv .bool)], []⟩]
noncomputable def tcoef_findu1 (k : Nat) : Nat → (Int) → (Int) → (Bool) → (Int) → Option (((Int) × (Bool)) ⊕ (Bool))
  | 0, _, _, _, _ => none
  | n + 1, x0, x1, x2, x3 =>
    bif (decide (x3 < 102)) then
      bif (inR x3 102) then
        Option.bind (tcoef_findu0 k x0 x1 x3 (List.getD tbl2 (Int.toNat x3) 0)) fun (v164 : Bool) =>
        bif v164 then
          some (Sum.inl (x3, true))
        else
        bif (decide (x1 < (List.getD tbl2 (Int.toNat x3) 0))) then
          bif (inR x3 102) then
            bif (decide ((wr .u64 (wr .i64 ((List.getD tbl2 (Int.toNat x3) 0) - x1))) < 0)) then
              none
            else
            bif (decide ((shrI .i64 (List.getD tbl1 (Int.toNat x3) 0) (wr .u64 (wr .i64 ((List.getD tbl2 (Int.toNat x3) 0) - x1)))) = x0)) then
              Option.bind (tcoef_findu1 k n x0 x1 true (wr .i64 (x3 + 1))) fun r => Sum.elim (fun w => some (Sum.inl w)) (fun w => some (Sum.inr w)) r
            else
            Option.bind (tcoef_findu1 k n x0 x1 x2 (wr .i64 (x3 + 1))) fun r => Sum.elim (fun w => some (Sum.inl w)) (fun w => some (Sum.inr w)) r
          else
            none
        else
        Option.bind (tcoef_findu1 k n x0 x1 x2 (wr .i64 (x3 + 1))) fun r => Sum.elim (fun w => some (Sum.inl w)) (fun w => some (Sum.inr w)) r
      else
        none
    else
    some (Sum.inr x2)
noncomputable def tcoef_findu1_b : AC :=
  (.seq (.region [⟨some 9, none, (.op (.bin .lss (.t 8) (.c (.tv (.int .i64) (102 : Int))))), []⟩])
  (.seq (.cond (.t 9)
  .skip
  (.exit 0))
  (.seq (.block 1 (.seq (.region [⟨some 10, none, (.op (.mv (.t 8))), []⟩,
    ⟨some 6, none, (.op (.mv (.t 10))), []⟩])
  (.seq (.region [⟨some 11, none, (.op (.mv (.t 6))), []⟩,
    ⟨some 12, none, (.op (.iad 102 1 (.g 2) (.t 11))), []⟩,
    ⟨some 13, none, (.op (.load false 1 (.t 12))), []⟩,
    ⟨some 7, none, (.op (.mv (.t 13))), []⟩])
  (.block 2 (.seq (.unit 0 tcoef_findu0_d false tcoef_findu0_b)
  (.cond (.t 14)
  (.seq (.region [⟨some 25, none, (.op (.mv (.t 6))), []⟩,
      ⟨some 4, none, (.op (.mv (.t 25))), []⟩,
      ⟨some 5, none, (.op (.mv (.c (.tv .bool (true : Bool))))), []⟩])
    .ret)
  (.seq (.region [⟨some 27, none, (.op (.mv (.t 7))), []⟩,
      ⟨some 28, none, (.op (.mv (.t 1))), []⟩,
      ⟨some 29, none, (.op (.bin .gtr (.t 27) (.t 28))), []⟩,
      ⟨some 30, none, (.op (.mv (.t 29))), []⟩,
      ⟨some 31, some (3, 30, true), (.op (.mv (.t 6))), []⟩,
      ⟨some 32, some (3, 30, true), (.op (.iad 102 1 (.g 1) (.t 31))), []⟩,
      ⟨some 33, some (3, 30, true), (.op (.load false 1 (.t 32))), []⟩,
      ⟨some 34, some (3, 30, true), (.op (.mv (.t 7))), []⟩,
      ⟨some 35, some (3, 30, true), (.op (.mv (.t 1))), []⟩,
      ⟨some 36, some (3, 30, true), (.op (.bin .sub (.t 34) (.t 35))), []⟩,
      ⟨some 37, some (3, 30, true), (.op (.conv .u64 (.t 36))), []⟩,
      ⟨some 38, some (3, 30, true), (.op (.bin .shr (.t 33) (.t 37))), []⟩,
      ⟨some 39, some (3, 30, true), (.op (.mv (.t 0))), []⟩,
      ⟨some 40, some (3, 30, true), (.op (.bin .eql (.t 38) (.t 39))), []⟩,
      ⟨some 41, none, (.op (.pick (.t 30) (.t 40) (.c (.tv .bool (false : Bool))))), []⟩,
      ⟨some 26, none, (.op (.mv (.t 41))), []⟩])
    (.cond (.t 26)
    (.region [⟨some 5, none, (.op (.mv (.c (.tv .bool (true : Bool))))), []⟩])
    .skip))))))))
  (.region [⟨some 42, none, (.op (.bin .add (.t 8) (.c (.tv (.int .i64) (1 : Int))))), []⟩,
    ⟨some 8, none, (.op (.mv (.t 42))), []⟩]))))
noncomputable def tcoef_findu1_t (k n : Nat) (d : tcoef_findu1_p.D) : Option (XD tcoef_findu1_x) := tcoef_findu1 k n d.1 d.2.1 d.2.2.1 d.2.2.2
theorem tcoef_findu1_ok (k : Nat) : UOK P GL (mkU tcoef_findu1_p tcoef_findu1_x (tcoef_findu1_t k k) nilU) tcoef_findu1_d true tcoef_findu1_b :=
  loop_typed (ud := tcoef_findu1_d) (body := tcoef_findu1_b) (uorc := uorT (tcoef_find_U1 k)) hmo (T41_ok k).oo (tcoef_find_U1_ok k) (AllU.seq (AllU.no (by kernel_rfl)) (AllU.seq (AllU.no (by kernel_rfl)) (AllU.seq (AllU.block (AllU.seq (AllU.no (by kernel_rfl)) (AllU.seq (AllU.no (by kernel_rfl)) (AllU.block (AllU.seq (AllU.unit (uorc := uorT (tcoef_find_U1 k)) (u := 0) (tcoef_findu0_ok k)) (AllU.no (by kernel_rfl))))))) (AllU.no (by kernel_rfl))))) (t := tcoef_findu1_t k) (fun d => by kernel_rfl) (fun n d => by kernel_rfl) k
noncomputable def tcoef_find_U2 (k : Nat) : List (Nat × Ent) := (1, ⟨mkU tcoef_findu1_p tcoef_findu1_x (tcoef_findu1_t k k) nilU⟩) :: tcoef_find_U1 k
theorem tcoef_find_U2_ok (k : Nat) : UTab (tcoef_find_U2 k) := (tcoef_find_U1_ok k).cons (mkU_nat nilU_nat)
noncomputable def tcoef_find (k : Nat) (x0 : Int) (x1 : Int) : Option ((Int) × ((Bool) × (Unit))) :=
  Option.bind (tcoef_findu1 k k x0 x1 false 0) fun r =>
  Sum.elim (fun (v165 : (Int) × (Bool)) =>
    some (v165.1, (v165.2, ())))
    (fun (v166 : Bool) =>
    bif v166 then
      some ((-1), (true, ()))
    else
    bif (decide (x1 < 7)) then
      bif (decide ((wr .u64 (wr .i64 (7 - x1))) < 0)) then
        none
      else
      some ((-1), ((decide ((shrI .i64 3 (wr .u64 (wr .i64 (7 - x1)))) = x0)), ()))
    else
    some ((-1), (false, ()))) r
noncomputable def tcoef_find_b : AC :=
  (.seq (.region [⟨some 4, none, (.op (.mv (.c (.tv (.int .i64) (0 : Int))))), []⟩,
    ⟨some 5, none, (.op (.mv (.c (.tv .bool (false : Bool))))), []⟩])
  (.seq (.seq (.region [⟨some 8, none, (.op (.mv (.c (.tv (.int .i64) (0 : Int))))), []⟩])
  (.block 0 (.unit 1 tcoef_findu1_d true tcoef_findu1_b)))
  (.seq (.region [⟨some 43, none, (.op (.mv (.t 5))), []⟩,
    ⟨some 44, none, (.op (.mv (.t 43))), []⟩,
    ⟨some 45, some (1, 44, false), (.op (.mv (.t 1))), []⟩,
    ⟨some 46, some (1, 44, false), (.op (.bin .lss (.t 45) (.c (.tv (.int .i64) (7 : Int))))), []⟩,
    ⟨some 47, some (1, 44, false), (.op (.mv (.t 46))), []⟩,
    ⟨some 48, some (4, 47, true), (.op (.mv (.t 1))), []⟩,
    ⟨some 49, some (4, 47, true), (.op (.bin .sub (.c (.tv (.int .i64) (7 : Int))) (.t 48))), []⟩,
    ⟨some 50, some (4, 47, true), (.op (.conv .u64 (.t 49))), []⟩,
    ⟨some 51, some (4, 47, true), (.op (.bin .shr (.c (.tv (.int .i64) (3 : Int))) (.t 50))), []⟩,
    ⟨some 52, some (4, 47, true), (.op (.mv (.t 0))), []⟩,
    ⟨some 53, some (4, 47, true), (.op (.bin .eql (.t 51) (.t 52))), []⟩,
    ⟨some 54, some (1, 44, false), (.op (.pick (.t 47) (.t 53) (.c (.tv .bool (false : Bool))))), []⟩,
    ⟨some 55, none, (.op (.pick (.t 44) (.c (.tv .bool (true : Bool))) (.t 54))), []⟩,
    ⟨some 4, none, (.op (.mv (.c (.tv (.int .i64) ((-1) : Int))))), []⟩,
    ⟨some 5, none, (.op (.mv (.t 55))), []⟩])
  .ret)))
noncomputable def tcoef_find_f : FDef := ⟨2, 56, [.tmp 4 none, .tmp 5 none], tcoef_find_b⟩
noncomputable def tcoef_find_p : XPat := ⟨.normal, [(.tv (.int .i64)), (.tv (.int .i64))], []⟩
noncomputable def tcoef_find_x : List XPat := [⟨.ret, [(.tup (.cons (.tv (.int .i64)) (.cons (.tv .bool) .nil)))], []⟩]
noncomputable def tcoef_find_t (k : Nat) (d : tcoef_find_p.D) : Option (XD tcoef_find_x) := tcoef_find k d.1 d.2
noncomputable def tcoef_find_e (k : Nat) : UEntry := mkU tcoef_find_p tcoef_find_x (tcoef_find_t k) nilU
theorem tcoef_find_n (k : Nat) : UNat (tcoef_find_e k) := mkU_nat nilU_nat
theorem tcoef_find_m : mfn P tcoef_find_f Tryd.f110 = true := by kernel_rfl
theorem tcoef_find_fu (k : Nat) : FU P GL 110 (tcoef_find_e k) :=
  fn_typed (uorc := uorT (tcoef_find_U2 k)) hmo (T41_ok k).oo (tcoef_find_U2_ok k) (fd := tcoef_find_f) (AllU.seq (AllU.no (by kernel_rfl)) (AllU.seq (AllU.seq (AllU.no (by kernel_rfl)) (AllU.block (AllU.unit (uorc := uorT (tcoef_find_U2 k)) (u := 1) (tcoef_findu1_ok k)))) (AllU.no (by kernel_rfl)))) (fn := Tryd.f110) (by kernel_rfl) tcoef_find_m (fun d => by kernel_rfl) FU_nil
noncomputable def T42 (k : Nat) : List (Nat × Ent) := (110, ⟨tcoef_find_e k⟩) :: T41 k
theorem T42_ok (k : Nat) : TabOK P GL (T42 k) := (T41_ok k).cons (tcoef_find_fu k) (tcoef_find_n k)
/-! ### overspill.tcoef.event -/
noncomputable def tcoef_event_U0 (_ : Nat) : List (Nat × Ent) := []
theorem tcoef_event_U0_ok (k : Nat) : UTab (tcoef_event_U0 k) := UTab.nil
noncomputable def tcoef_eventu0_d : UDef := ⟨[(0, none), (2, none), (3, none), (4, none)], [0, 3, 4, 5, 6, 7, 8, 9, 10, 11, 12, 13, 14, 15, 16, 17, 18, 19, 20, 21, 22, 23], [(.ret, [])], []⟩
noncomputable def tcoef_eventu0_p : XPat := ⟨.normal, [(.tv (.int .i64)), (.ptr 0 []), (.tv .bool), (.tv (.int .i64))], [(.box (.tv YEvent))]⟩
noncomputable def tcoef_eventu0_x : List XPat := [⟨.ret, [], [(.box (.tv YEvent))]⟩]
noncomputable def tcoef_eventu0 (k : Nat) : Nat → (Int) → (Bool) → (Int) → (DEvent) → Option ((Unit) × (DEvent))
  | 0, _, _, _, _ => none
  | n + 1, x0, x1, x2, x3 =>
    Option.bind (tcoef_many k x1 x2) fun (v170 : Int) =>
    bif (decide (v170 = 0)) then
      Option.bind (tcoef_eventu0 k n x0 true 0 x3) fun r => some r
    else
    bif (decide (x0 < v170)) then
      some ((), (x1, (x2, ((wr .i64 (x0 + 1)), ()))))
    else
    Option.bind (tcoef_eventu0 k n (wr .i64 (x0 - v170)) x1 (wr .i64 (x2 + 1)) x3) fun r => some r
noncomputable def tcoef_eventu0_b : AC :=
  (.seq (.block 1 (.seq (.region [⟨some 8, none, (.op (.mv (.t 3))), []⟩,
    ⟨some 9, none, (.op (.mv (.t 4))), []⟩,
    ⟨some 10, none, (.call (.c (.fn 104 .nil .nil)) [((.t 8), none), ((.t 9), none)]), []⟩,
    ⟨some 5, none, (.op (.mv (.t 10))), []⟩])
  (.seq (.seq (.region [⟨some 11, none, (.op (.mv (.t 5))), []⟩,
    ⟨some 12, none, (.op (.bin .eql (.t 11) (.c (.tv (.int .i64) (0 : Int))))), []⟩])
  (.cond (.t 12)
  (.seq (.region [⟨some 3, none, (.op (.mv (.c (.tv .bool (true : Bool))))), []⟩,
      ⟨some 4, none, (.op (.mv (.c (.tv (.int .i64) ((-1) : Int))))), []⟩])
    (.exit 1))
  .skip))
  (.seq (.seq (.region [⟨some 13, none, (.op (.mv (.t 0))), []⟩,
    ⟨some 14, none, (.op (.mv (.t 5))), []⟩,
    ⟨some 15, none, (.op (.bin .lss (.t 13) (.t 14))), []⟩])
  (.cond (.t 15)
  (.seq (.region [⟨some 16, none, (.op (.mv (.t 3))), []⟩,
      ⟨some 17, none, (.op (.mv (.t 4))), []⟩,
      ⟨some 18, none, (.op (.mv (.t 0))), []⟩,
      ⟨some 19, none, (.op (.bin .add (.t 18) (.c (.tv (.int .i64) (1 : Int))))), []⟩,
      ⟨some 20, none, (.op (.build 78 (.tv YEvent) [(0, (.fld 0 0), 1, (.t 16)), (1, (.fld 1 1), 1, (.t 17)), (2, (.fld 2 2), 1, (.t 19))])), []⟩,
      ⟨none, none, (.op (.store 3 none (.t 2) (.t 20))), []⟩])
    .ret)
  .skip))
  (.region [⟨some 21, none, (.op (.mv (.t 0))), []⟩,
    ⟨some 22, none, (.op (.mv (.t 5))), []⟩,
    ⟨some 23, none, (.op (.bin .sub (.t 21) (.t 22))), []⟩,
    ⟨some 0, none, (.op (.mv (.t 23))), []⟩])))))
  (.region [⟨some 6, none, (.op (.mv (.t 4))), []⟩,
    ⟨some 7, none, (.op (.bin .add (.t 6) (.c (.tv (.int .i64) (1 : Int))))), []⟩,
    ⟨some 4, none, (.op (.mv (.t 7))), []⟩]))
noncomputable def tcoef_eventu0_t (k n : Nat) (d : tcoef_eventu0_p.D) : Option (XD tcoef_eventu0_x) := tcoef_eventu0 k n d.1.1 d.1.2.2.1 d.1.2.2.2 d.2
theorem tcoef_eventu0_ok (k : Nat) : UOK P GL (mkU tcoef_eventu0_p tcoef_eventu0_x (tcoef_eventu0_t k k) nilU) tcoef_eventu0_d true tcoef_eventu0_b :=
  loop_typed (ud := tcoef_eventu0_d) (body := tcoef_eventu0_b) (uorc := uorT (tcoef_event_U0 k)) hmo (T42_ok k).oo (tcoef_event_U0_ok k) (AllU.no (by kernel_rfl)) (t := tcoef_eventu0_t k) (fun d => by kernel_rfl) (fun n d => by kernel_rfl) k
noncomputable def tcoef_event_U1 (k : Nat) : List (Nat × Ent) := (0, ⟨mkU tcoef_eventu0_p tcoef_eventu0_x (tcoef_eventu0_t k k) nilU⟩) :: tcoef_event_U0 k
theorem tcoef_event_U1_ok (k : Nat) : UTab (tcoef_event_U1 k) := (tcoef_event_U0_ok k).cons (mkU_nat nilU_nat)
noncomputable def tcoef_event (k : Nat) (x0 : Int) : Option (DEvent) :=
  Option.bind (tcoef_eventu0 k k x0 false 0 (false, (0, (0, ())))) fun (v171 : (Unit) × (DEvent)) =>
  some v171.2
noncomputable def tcoef_event_b : AC :=
  (.seq (.region [⟨some 2, none, (.op (.alloc 78 (.tv YEvent))), []⟩])
  (.seq (.region [⟨some 3, none, (.op (.mv (.c (.tv .bool (false : Bool))))), []⟩])
  (.seq (.region [⟨some 4, none, (.op (.mv (.c (.tv (.int .i64) (0 : Int))))), []⟩])
  (.block 0 (.unit 0 tcoef_eventu0_d true tcoef_eventu0_b)))))
noncomputable def tcoef_event_f : FDef := ⟨1, 24, [.cell 2 3 true (some YEvent)], tcoef_event_b⟩
noncomputable def tcoef_event_p : XPat := ⟨.normal, [(.tv (.int .i64))], []⟩
noncomputable def tcoef_event_x : List XPat := [⟨.ret, [(.tv YEvent)], []⟩]
noncomputable def tcoef_event_t (k : Nat) (d : tcoef_event_p.D) : Option (XD tcoef_event_x) := tcoef_event k d
noncomputable def tcoef_event_e (k : Nat) : UEntry := mkU tcoef_event_p tcoef_event_x (tcoef_event_t k) nilU
theorem tcoef_event_n (k : Nat) : UNat (tcoef_event_e k) := mkU_nat nilU_nat
theorem tcoef_event_m : mfn P tcoef_event_f Tryd.f111 = true := by kernel_rfl
theorem tcoef_event_fu (k : Nat) : FU P GL 111 (tcoef_event_e k) :=
  fn_typed (uorc := uorT (tcoef_event_U1 k)) hmo (T42_ok k).oo (tcoef_event_U1_ok k) (fd := tcoef_event_f) (AllU.seq (AllU.no (by kernel_rfl)) (AllU.seq (AllU.no (by kernel_rfl)) (AllU.seq (AllU.no (by kernel_rfl)) (AllU.block (AllU.unit (uorc := uorT (tcoef_event_U1 k)) (u := 0) (tcoef_eventu0_ok k)))))) (fn := Tryd.f111) (by kernel_rfl) tcoef_event_m (fun d => by kernel_rfl) FU_nil
noncomputable def T43 (k : Nat) : List (Nat × Ent) := (111, ⟨tcoef_event_e k⟩) :: T42 k
theorem T43_ok (k : Nat) : TabOK P GL (T43 k) := (T42_ok k).cons (tcoef_event_fu k) (tcoef_event_n k)
/-! ### overspill.tcoef.read -/
noncomputable def tcoef_read_U0 (_ : Nat) : List (Nat × Ent) := []
theorem tcoef_read_U0_ok (k : Nat) : UTab (tcoef_read_U0 k) := UTab.nil
noncomputable def tcoef_readu0_d : UDef := ⟨[(4, none), (5, none)], [30, 31, 32, 33, 34, 35], [(.normal, [(35, none)])], []⟩
noncomputable def tcoef_readu0_p : XPat := ⟨.normal, [(.tv (.int .i64)), (.tv (.int .i64))], []⟩
noncomputable def tcoef_readu0_x : List XPat := [⟨.normal, [(.tv .bool)], []⟩]
noncomputable def tcoef_readu0 (k : Nat) (x0 : Int) (x1 : Int) : Option (Bool) :=
  bif (decide (x1 = 7)) then
    some (decide (x0 = 3))
  else
  some false
noncomputable def tcoef_readu0_b : AC :=
  (.region [⟨some 30, none, (.op (.mv (.t 5))), []⟩,
    ⟨some 31, none, (.op (.bin .eql (.t 30) (.c (.tv (.int .i64) (7 : Int))))), []⟩,
    ⟨some 32, none, (.op (.mv (.t 31))), []⟩,
    ⟨some 33, some (2, 32, true), (.op (.mv (.t 4))), []⟩,
    ⟨some 34, some (2, 32, true), (.op (.bin .eql (.t 33) (.c (.tv (.int .i64) (3 : Int))))), []⟩,
    ⟨some 35, none, (.op (.pick (.t 32) (.t 34) (.c (.tv .bool (false : Bool))))), []⟩])
noncomputable def tcoef_readu0_t (k : Nat) (d : tcoef_readu0_p.D) : Option (XD tcoef_readu0_x) := tcoef_readu0 k d.1 d.2
theorem tcoef_readu0_ok (k : Nat) : UOK P GL (mkU tcoef_readu0_p tcoef_readu0_x (tcoef_readu0_t k) nilU) tcoef_readu0_d false tcoef_readu0_b :=
  unit_typed (ud := tcoef_readu0_d) (body := tcoef_readu0_b) (uorc := uorT (tcoef_read_U0 k)) hmo (T43_ok k).oo (tcoef_read_U0_ok k) (AllU.no (by kernel_rfl)) (fun d => by kernel_rfl)
noncomputable def tcoef_read_U1 (k : Nat) : List (Nat × Ent) := (0, ⟨mkU tcoef_readu0_p tcoef_readu0_x (tcoef_readu0_t k) nilU⟩) :: tcoef_read_U0 k
theorem tcoef_read_U1_ok (k : Nat) : UTab (tcoef_read_U1 k) := (tcoef_read_U0_ok k).cons (mkU_nat nilU_nat)
noncomputable def tcoef_readu1_d : UDef := ⟨[(0, none), (2, none), (4, none), (5, none)], [3, 4, 5, 6, 7, 8, 9, 10, 11, 12, 13, 14, 15, 16, 17, 18, 19, 20, 21, 22, 23, 24, 25, 26, 27, 28, 29, 30, 31, 32, 33, 34, 35, 36, 37, 38, 39, 40, 41, 42, 43, 44, 45, 46, 47, 48, 49, 50, 51, 52, 53, 54, 55, 56, 57, 58, 59, 60, 61, 62, 63, 64, 65, 66, 67, 68], [(.ret, [(3, none)]), ((.exit 0), [])], []⟩
noncomputable def tcoef_readu1_p : XPat := ⟨.normal, [(.ptr 0 []), (.ptr 1 []), (.tv (.int .i64)), (.tv (.int .i64))], [(.box (.tv YReader)), (.box (.tv YEvent))]⟩
noncomputable def tcoef_readu1_x : List XPat := [⟨.ret, [(.tv (.int .i64))], [(.box (.tv YReader)), (.box (.tv YEvent))]⟩, ⟨(.exit 0), [], [(.box (.tv YReader)), (.box (.tv YEvent))]⟩]
noncomputable def tcoef_readu1 (k : Nat) : Nat → (Int) → (Int) → (DReader) → (DEvent) → Option (((Int) × ((DReader) × (DEvent))) ⊕ ((Unit) × ((DReader) × (DEvent))))
  | 0, _, _, _, _ => none
  | n + 1, x0, x1, x2, x3 =>
    bif (decide (x1 ≤ 12)) then
      Option.bind (inbits_Reader_Take k 1 x2) fun (v173 : ((Int) × ((Int) × (Unit))) × (DReader)) =>
      bif (!(decide (v173.1.2.1 = 0))) then
        some (Sum.inl (v173.1.2.1, (v173.2, (false, (0, (0, ()))))))
      else
      Option.bind (tcoef_readu0 k (bitop .or .i64 (shlI .i64 x0 1) v173.1.1) x1) fun (v174 : Bool) =>
      bif v174 then
        Option.bind (tcoef_escaped k v173.2) fun (v175 : ((DEvent) × ((Int) × (Unit))) × (DReader)) =>
        some (Sum.inl (v175.1.2.1, (v175.2, v175.1.1)))
      else
      Option.bind (tcoef_find k (bitop .or .i64 (shlI .i64 x0 1) v173.1.1) x1) fun (v176 : (Int) × ((Bool) × (Unit))) =>
      bif (decide ((0 : Int) ≤ v176.1)) then
        Option.bind (inbits_Reader_Take k 1 v173.2) fun (v177 : ((Int) × ((Int) × (Unit))) × (DReader)) =>
        bif (!(decide (v177.1.2.1 = 0))) then
          some (Sum.inl (v177.1.2.1, (v177.2, (false, (0, (0, ()))))))
        else
        Option.bind (tcoef_event k v176.1) fun (v178 : DEvent) =>
        some (Sum.inl (0, (v177.2, (v178.1, (v178.2.1, ((wr .i64 (v178.2.2.1 * (wr .i64 (1 - (wr .i64 (2 * v177.1.1)))))), v178.2.2.2))))))
      else
      bif (!v176.2.1) then
        some (Sum.inr ((), (v173.2, x3)))
      else
      Option.bind (tcoef_readu1 k n (bitop .or .i64 (shlI .i64 x0 1) v173.1.1) (wr .i64 (x1 + 1)) v173.2 x3) fun r => Sum.elim (fun w => some (Sum.inl w)) (fun w => some (Sum.inr w)) r
    else
    some (Sum.inr ((), (x2, x3)))
noncomputable def tcoef_readu1_b : AC :=
  (.seq (.seq (.region [⟨some 13, none, (.op (.mv (.t 5))), []⟩,
    ⟨some 14, none, (.op (.bin .leq (.t 13) (.c (.tv (.int .i64) (12 : Int))))), []⟩])
  (.cond (.t 14)
  .skip
  (.exit 0)))
  (.seq (.block 1 (.seq (.region [⟨some 18, none, (.op (.mv (.t 0))), []⟩,
    ⟨some 19, none, (.call (.c (.fn 72 .nil .nil)) [((.t 18), none), ((.c (.tv (.int .i64) (1 : Int))), none)]), []⟩,
    ⟨some 17, none, (.op (.mv (.t 19))), []⟩,
    ⟨some 20, none, (.op (.ext (.t 17) 0)), []⟩,
    ⟨some 21, none, (.op (.ext (.t 17) 1)), []⟩,
    ⟨some 6, none, (.op (.mv (.t 20))), []⟩,
    ⟨some 7, none, (.op (.mv (.t 21))), []⟩])
  (.seq (.seq (.region [⟨some 22, none, (.op (.mv (.t 7))), []⟩,
    ⟨some 23, none, (.op (.bin .neq (.t 22) (.c (.tv (.int .i64) (0 : Int))))), []⟩])
  (.cond (.t 23)
  (.seq (.region [⟨some 24, none, (.op (.build 78 (.tv YEvent) [])), []⟩,
      ⟨some 25, none, (.op (.mv (.t 7))), []⟩,
      ⟨none, none, (.op (.store 3 none (.t 2) (.t 24))), []⟩,
      ⟨some 3, none, (.op (.mv (.t 25))), []⟩])
    .ret)
  .skip))
  (.seq (.region [⟨some 26, none, (.op (.mv (.t 4))), []⟩,
    ⟨some 27, none, (.op (.bin .shl (.t 26) (.c (.tv (.int .u64) (1 : Int))))), []⟩,
    ⟨some 28, none, (.op (.mv (.t 6))), []⟩,
    ⟨some 29, none, (.op (.bin .or (.t 27) (.t 28))), []⟩,
    ⟨some 4, none, (.op (.mv (.t 29))), []⟩])
  (.seq (.seq (.unit 0 tcoef_readu0_d false tcoef_readu0_b)
  (.cond (.t 35)
  (.seq (.region [⟨some 36, none, (.op (.mv (.t 0))), []⟩,
      ⟨some 37, none, (.call (.c (.fn 109 .nil .nil)) [((.t 36), none)]), []⟩,
      ⟨some 38, none, (.op (.ext (.t 37) 0)), []⟩,
      ⟨some 39, none, (.op (.ext (.t 37) 1)), []⟩,
      ⟨none, none, (.op (.store 3 none (.t 2) (.t 38))), []⟩,
      ⟨some 3, none, (.op (.mv (.t 39))), []⟩])
    .ret)
  .skip))
  (.seq (.region [⟨some 41, none, (.op (.mv (.t 4))), []⟩,
    ⟨some 42, none, (.op (.mv (.t 5))), []⟩,
    ⟨some 43, none, (.call (.c (.fn 110 .nil .nil)) [((.t 41), none), ((.t 42), none)]), []⟩,
    ⟨some 40, none, (.op (.mv (.t 43))), []⟩,
    ⟨some 44, none, (.op (.ext (.t 40) 0)), []⟩,
    ⟨some 45, none, (.op (.ext (.t 40) 1)), []⟩,
    ⟨some 8, none, (.op (.mv (.t 44))), []⟩,
    ⟨some 9, none, (.op (.mv (.t 45))), []⟩])
  (.seq (.seq (.region [⟨some 46, none, (.op (.mv (.t 8))), []⟩,
    ⟨some 47, none, (.op (.bin .geq (.t 46) (.c (.tv (.int .i64) (0 : Int))))), []⟩])
  (.cond (.t 47)
  (.seq (.region [⟨some 49, none, (.op (.mv (.t 0))), []⟩,
      ⟨some 50, none, (.call (.c (.fn 72 .nil .nil)) [((.t 49), none), ((.c (.tv (.int .i64) (1 : Int))), none)]), []⟩,
      ⟨some 48, none, (.op (.mv (.t 50))), []⟩,
      ⟨some 51, none, (.op (.ext (.t 48) 0)), []⟩,
      ⟨some 52, none, (.op (.ext (.t 48) 1)), []⟩,
      ⟨some 10, none, (.op (.mv (.t 51))), []⟩,
      ⟨some 11, none, (.op (.mv (.t 52))), []⟩])
    (.seq (.seq (.region [⟨some 53, none, (.op (.mv (.t 11))), []⟩,
      ⟨some 54, none, (.op (.bin .neq (.t 53) (.c (.tv (.int .i64) (0 : Int))))), []⟩])
    (.cond (.t 54)
    (.seq (.region [⟨some 55, none, (.op (.build 78 (.tv YEvent) [])), []⟩,
        ⟨some 56, none, (.op (.mv (.t 11))), []⟩,
        ⟨none, none, (.op (.store 3 none (.t 2) (.t 55))), []⟩,
        ⟨some 3, none, (.op (.mv (.t 56))), []⟩])
      .ret)
    .skip))
    (.seq (.region [⟨some 57, none, (.op (.mv (.t 8))), []⟩,
      ⟨some 58, none, (.call (.c (.fn 111 .nil .nil)) [((.t 57), none)]), []⟩,
      ⟨some 12, none, (.op (.alloc 78 (.tv YEvent))), []⟩,
      ⟨none, none, (.op (.store 3 none (.t 12) (.t 58))), []⟩])
    (.seq (.region [⟨some 59, none, (.op (.fad 2 2 (.t 12))), []⟩,
      ⟨some 60, none, (.op (.load false 1 (.t 59))), []⟩,
      ⟨some 61, none, (.op (.mv (.t 10))), []⟩,
      ⟨some 62, none, (.op (.bin .mul (.c (.tv (.int .i64) (2 : Int))) (.t 61))), []⟩,
      ⟨some 63, none, (.op (.bin .sub (.c (.tv (.int .i64) (1 : Int))) (.t 62))), []⟩,
      ⟨some 64, none, (.op (.bin .mul (.t 60) (.t 63))), []⟩,
      ⟨some 65, none, (.op (.fad 2 2 (.t 12))), []⟩,
      ⟨none, none, (.op (.store 1 none (.t 65) (.t 64))), []⟩])
    (.seq (.region [⟨some 66, none, (.op (.load true 3 (.t 12))), []⟩,
      ⟨none, none, (.op (.store 3 none (.t 2) (.t 66))), []⟩,
      ⟨some 3, none, (.op (.mv (.c (.tv (.int .i64) (0 : Int))))), []⟩])
    .ret)))))
  .skip))
  (.seq (.region [⟨some 67, none, (.op (.mv (.t 9))), []⟩,
    ⟨some 68, none, (.op (.un .not (.t 67))), []⟩])
  (.cond (.t 68)
  (.exit 0)
  .skip)))))))))
  (.region [⟨some 15, none, (.op (.mv (.t 5))), []⟩,
    ⟨some 16, none, (.op (.bin .add (.t 15) (.c (.tv (.int .i64) (1 : Int))))), []⟩,
    ⟨some 5, none, (.op (.mv (.t 16))), []⟩])))
noncomputable def tcoef_readu1_t (k n : Nat) (d : tcoef_readu1_p.D) : Option (XD tcoef_readu1_x) := tcoef_readu1 k n d.1.2.2.1 d.1.2.2.2 d.2.1 d.2.2
theorem tcoef_readu1_ok (k : Nat) : UOK P GL (mkU tcoef_readu1_p tcoef_readu1_x (tcoef_readu1_t k k) nilU) tcoef_readu1_d true tcoef_readu1_b :=
  loop_typed (ud := tcoef_readu1_d) (body := tcoef_readu1_b) (uorc := uorT (tcoef_read_U1 k)) hmo (T43_ok k).oo (tcoef_read_U1_ok k) (AllU.seq (AllU.no (by kernel_rfl)) (AllU.seq (AllU.block (AllU.seq (AllU.no (by kernel_rfl)) (AllU.seq (AllU.no (by kernel_rfl)) (AllU.seq (AllU.no (by kernel_rfl)) (AllU.seq (AllU.seq (AllU.unit (uorc := uorT (tcoef_read_U1 k)) (u := 0) (tcoef_readu0_ok k)) (AllU.no (by kernel_rfl))) (AllU.no (by kernel_rfl))))))) (AllU.no (by kernel_rfl)))) (t := tcoef_readu1_t k) (fun d => by kernel_rfl) (fun n d => by kernel_rfl) k
noncomputable def tcoef_read_U2 (k : Nat) : List (Nat × Ent) := (1, ⟨mkU tcoef_readu1_p tcoef_readu1_x (tcoef_readu1_t k k) nilU⟩) :: tcoef_read_U1 k
theorem tcoef_read_U2_ok (k : Nat) : UTab (tcoef_read_U2 k) := (tcoef_read_U1_ok k).cons (mkU_nat nilU_nat)
noncomputable def tcoef_read (k : Nat) (x0 : DReader) : Option (((DEvent) × ((Int) × (Unit))) × (DReader)) :=
  Option.bind (tcoef_readu1 k k 0 1 x0 (false, (0, (0, ())))) fun r =>
  Sum.elim (fun (v179 : (Int) × ((DReader) × (DEvent))) =>
    some ((v179.2.2, (v179.1, ())), v179.2.1))
    (fun (v180 : (Unit) × ((DReader) × (DEvent))) =>
    some (((false, (0, (0, ()))), (3, ())), v180.2.1)) r
noncomputable def tcoef_read_b : AC :=
  (.seq (.region [⟨some 2, none, (.op (.alloc 78 (.tv YEvent))), []⟩,
    ⟨some 3, none, (.op (.mv (.c (.tv (.int .i64) (0 : Int))))), []⟩])
  (.seq (.seq (.region [⟨some 4, none, (.op (.mv (.c (.tv (.int .i64) (0 : Int))))), []⟩,
    ⟨some 5, none, (.op (.mv (.c (.tv (.int .i64) (1 : Int))))), []⟩])
  (.block 0 (.unit 1 tcoef_readu1_d true tcoef_readu1_b)))
  (.seq (.region [⟨some 69, none, (.op (.build 78 (.tv YEvent) [])), []⟩,
    ⟨none, none, (.op (.store 3 none (.t 2) (.t 69))), []⟩,
    ⟨some 3, none, (.op (.mv (.c (.tv (.int .i64) (3 : Int))))), []⟩])
  .ret)))
noncomputable def tcoef_read_f : FDef := ⟨1, 70, [.cell 2 3 true (some YEvent), .tmp 3 none], tcoef_read_b⟩
noncomputable def tcoef_read_p : XPat := ⟨.normal, [(.ptr 0 [])], [(.box (.tv YReader))]⟩
noncomputable def tcoef_read_x : List XPat := [⟨.ret, [(.tup (.cons (.tv YEvent) (.cons (.tv (.int .i64)) .nil)))], [(.box (.tv YReader))]⟩]
noncomputable def tcoef_read_t (k : Nat) (d : tcoef_read_p.D) : Option (XD tcoef_read_x) := tcoef_read k d.2
noncomputable def tcoef_read_e (k : Nat) : UEntry := mkU tcoef_read_p tcoef_read_x (tcoef_read_t k) nilU
theorem tcoef_read_n (k : Nat) : UNat (tcoef_read_e k) := mkU_nat nilU_nat
theorem tcoef_read_m : mfn P tcoef_read_f Tryd.f106 = true := by kernel_rfl
theorem tcoef_read_fu (k : Nat) : FU P GL 106 (tcoef_read_e k) :=
  fn_typed (uorc := uorT (tcoef_read_U2 k)) hmo (T43_ok k).oo (tcoef_read_U2_ok k) (fd := tcoef_read_f) (AllU.seq (AllU.no (by kernel_rfl)) (AllU.seq (AllU.seq (AllU.no (by kernel_rfl)) (AllU.block (AllU.unit (uorc := uorT (tcoef_read_U2 k)) (u := 1) (tcoef_readu1_ok k)))) (AllU.no (by kernel_rfl)))) (fn := Tryd.f106) (by kernel_rfl) tcoef_read_m (fun d => by kernel_rfl) FU_nil
noncomputable def T44 (k : Nat) : List (Nat × Ent) := (106, ⟨tcoef_read_e k⟩) :: T43 k
theorem T44_ok (k : Nat) : TabOK P GL (T44 k) := (T43_ok k).cons (tcoef_read_fu k) (tcoef_read_n k)
/-! ### overspill.tcoef.Take -/
noncomputable def tcoef_Take_U0 (_ : Nat) : List (Nat × Ent) := []
theorem tcoef_Take_U0_ok (k : Nat) : UTab (tcoef_Take_U0 k) := UTab.nil
noncomputable def tcoef_Take (k : Nat) (x0 : DReader) : Option (((DEvent) × ((Int) × (Unit))) × (DReader)) :=
  Option.bind (inbits_Reader_At k x0) fun (v143 : (Int) × (DReader)) =>
  Option.bind (tcoef_read k v143.2) fun (v181 : ((DEvent) × ((Int) × (Unit))) × (DReader)) =>
  bif (!(decide (v181.1.2.1 = 0))) then
    Option.bind (inbits_Reader_Seek k v143.1 v181.2) fun (v182 : (Int) × (DReader)) =>
    some ((v181.1.1, (v181.1.2.1, ())), v182.2)
  else
  some ((v181.1.1, (v181.1.2.1, ())), v181.2)
noncomputable def tcoef_Take_b : AC :=
  (.seq (.region [⟨some 2, none, (.op (.alloc 78 (.tv YEvent))), []⟩,
    ⟨some 3, none, (.op (.mv (.c (.tv (.int .i64) (0 : Int))))), []⟩])
  (.seq (.seq (.region [⟨some 7, none, (.op (.mv (.t 0))), []⟩,
    ⟨some 8, none, (.op (.eqp false (.t 7) (.c .nilp))), []⟩])
  (.cond (.t 8)
  (.seq (.region [⟨some 9, none, .op .bad, []⟩,
      ⟨none, none, .op .bad, []⟩,
      ⟨some 3, none, .op .bad, []⟩])
    .ret)
  .skip))
  (.seq (.region [⟨some 10, none, (.op (.mv (.t 0))), []⟩,
    ⟨some 11, none, (.call (.c (.fn 14 .nil .nil)) [((.t 10), none)]), []⟩,
    ⟨some 4, none, (.op (.mv (.t 11))), []⟩])
  (.seq (.region [⟨some 13, none, (.op (.mv (.t 0))), []⟩,
    ⟨some 14, none, (.call (.c (.fn 106 .nil .nil)) [((.t 13), none)]), []⟩,
    ⟨some 12, none, (.op (.mv (.t 14))), []⟩,
    ⟨some 15, none, (.op (.ext (.t 12) 0)), []⟩,
    ⟨some 16, none, (.op (.ext (.t 12) 1)), []⟩,
    ⟨some 5, none, (.op (.alloc 78 (.tv YEvent))), []⟩,
    ⟨none, none, (.op (.store 3 none (.t 5) (.t 15))), []⟩,
    ⟨some 6, none, (.op (.mv (.t 16))), []⟩])
  (.seq (.seq (.region [⟨some 17, none, (.op (.mv (.t 6))), []⟩,
    ⟨some 18, none, (.op (.bin .neq (.t 17) (.c (.tv (.int .i64) (0 : Int))))), []⟩])
  (.cond (.t 18)
  (.region [⟨some 19, none, (.op (.mv (.t 0))), []⟩,
      ⟨some 20, none, (.op (.mv (.t 4))), []⟩,
      ⟨some 21, none, (.call (.c (.fn 8 .nil .nil)) [((.t 19), none), ((.t 20), none)]), []⟩])
  .skip))
  (.seq (.region [⟨some 22, none, (.op (.load true 3 (.t 5))), []⟩,
    ⟨some 23, none, (.op (.mv (.t 6))), []⟩,
    ⟨none, none, (.op (.store 3 none (.t 2) (.t 22))), []⟩,
    ⟨some 3, none, (.op (.mv (.t 23))), []⟩])
  .ret))))))
noncomputable def tcoef_Take_f : FDef := ⟨1, 24, [.cell 2 3 true (some YEvent), .tmp 3 none], tcoef_Take_b⟩
noncomputable def tcoef_Take_p : XPat := ⟨.normal, [(.ptr 0 [])], [(.box (.tv YReader))]⟩
noncomputable def tcoef_Take_x : List XPat := [⟨.ret, [(.tup (.cons (.tv YEvent) (.cons (.tv (.int .i64)) .nil)))], [(.box (.tv YReader))]⟩]
noncomputable def tcoef_Take_t (k : Nat) (d : tcoef_Take_p.D) : Option (XD tcoef_Take_x) := tcoef_Take k d.2
noncomputable def tcoef_Take_e (k : Nat) : UEntry := mkU tcoef_Take_p tcoef_Take_x (tcoef_Take_t k) nilU
theorem tcoef_Take_n (k : Nat) : UNat (tcoef_Take_e k) := mkU_nat nilU_nat
theorem tcoef_Take_m : mfn P tcoef_Take_f Tryd.f98 = true := by kernel_rfl
theorem tcoef_Take_fu (k : Nat) : FU P GL 98 (tcoef_Take_e k) :=
  fn_typed (uorc := uorT (tcoef_Take_U0 k)) hmo (T44_ok k).oo (tcoef_Take_U0_ok k) (fd := tcoef_Take_f) (AllU.no (by kernel_rfl)) (fn := Tryd.f98) (by kernel_rfl) tcoef_Take_m (fun d => by kernel_rfl) FU_nil
noncomputable def T45 (k : Nat) : List (Nat × Ent) := (98, ⟨tcoef_Take_e k⟩) :: T44 k
theorem T45_ok (k : Nat) : TabOK P GL (T45 k) := (T44_ok k).cons (tcoef_Take_fu k) (tcoef_Take_n k)
/-! ### overspill.blocks.events -/
noncomputable def blocks_events_U0 (_ : Nat) : List (Nat × Ent) := []
theorem blocks_events_U0_ok (k : Nat) : UTab (blocks_events_U0 k) := UTab.nil
noncomputable def blocks_eventsu0_d : UDef := ⟨[(0, none), (1, none), (6, none)], [1, 4, 5, 6, 7, 8, 9, 10, 11, 12, 13, 14, 15, 16, 17, 18, 19, 20, 21, 22, 23, 24, 25, 26, 27, 28, 29], [(.ret, [(4, none), (5, none), (6, none)]), ((.exit 0), [(6, none)])], []⟩
noncomputable def blocks_eventsu0_p : XPat := ⟨.normal, [(.ptr 0 []), (.tv (.int .i64)), (.row 1)], [(.box (.tv YReader)), (.row YEvent false)]⟩
noncomputable def blocks_eventsu0_x : List XPat := [⟨.ret, [(.row 1), (.tv (.int .i64)), (.row 2)], [(.box (.tv YReader)), (.row YEvent false), (.row YEvent false)]⟩, ⟨(.exit 0), [(.row 1)], [(.box (.tv YReader)), (.row YEvent false)]⟩]
noncomputable def blocks_eventsu0 (k : Nat) : Nat → (Int) → (DReader) → (List (DEvent)) → Option ((((Unit) × ((Int) × (Unit))) × ((DReader) × ((List (DEvent)) × (List (DEvent))))) ⊕ ((Unit) × ((DReader) × (List (DEvent)))))
  | 0, _, _, _ => none
  | n + 1, x0, x1, x2 =>
    Option.bind (tcoef_Take k x1) fun (v184 : ((DEvent) × ((Int) × (Unit))) × (DReader)) =>
    bif (!(decide (v184.1.2.1 = 0))) then
      some (Sum.inl (((), (v184.1.2.1, ())), (v184.2, (([] : List (DEvent)), x2))))
    else
    bif (decide ((64 : Int) < (wr .i64 (x0 + (wr .i64 (v184.1.1.2.1 + 1)))))) then
      some (Sum.inl (((), (7, ())), (v184.2, (([] : List (DEvent)), x2))))
    else
    bif (decide ((List.length x2) + 1 ≤ rowMax)) then
      bif v184.1.1.1 then
        some (Sum.inr ((), (v184.2, (x2 ++ ([v184.1.1] : List (DEvent))))))
      else
      Option.bind (blocks_eventsu0 k n (wr .i64 (x0 + (wr .i64 (v184.1.1.2.1 + 1)))) v184.2 (x2 ++ ([v184.1.1] : List (DEvent)))) fun r => Sum.elim (fun w => some (Sum.inl w)) (fun w => some (Sum.inr w)) r
    else
      none
noncomputable def blocks_eventsu0_b : AC :=
  (.block 1 (.seq (.region [⟨some 10, none, (.op (.mv (.t 0))), []⟩,
    ⟨some 11, none, (.call (.c (.fn 98 .nil .nil)) [((.t 10), none)]), []⟩,
    ⟨some 9, none, (.op (.mv (.t 11))), []⟩,
    ⟨some 12, none, (.op (.ext (.t 9) 0)), []⟩,
    ⟨some 13, none, (.op (.ext (.t 9) 1)), []⟩,
    ⟨some 7, none, (.op (.alloc 78 (.tv YEvent))), []⟩,
    ⟨none, none, (.op (.store 3 none (.t 7) (.t 12))), []⟩,
    ⟨some 8, none, (.op (.mv (.t 13))), []⟩])
  (.seq (.seq (.region [⟨some 14, none, (.op (.mv (.t 8))), []⟩,
    ⟨some 15, none, (.op (.bin .neq (.t 14) (.c (.tv (.int .i64) (0 : Int))))), []⟩])
  (.cond (.t 15)
  (.seq (.region [⟨some 16, none, (.op (.mv (.t 8))), []⟩,
      ⟨some 4, none, (.op (.nrow YEvent)), []⟩,
      ⟨some 5, none, (.op (.mv (.t 16))), []⟩])
    .ret)
  .skip))
  (.seq (.region [⟨some 17, none, (.op (.mv (.t 1))), []⟩,
    ⟨some 18, none, (.op (.fad 1 1 (.t 7))), []⟩,
    ⟨some 19, none, (.op (.load false 1 (.t 18))), []⟩,
    ⟨some 20, none, (.op (.bin .add (.t 19) (.c (.tv (.int .i64) (1 : Int))))), []⟩,
    ⟨some 21, none, (.op (.bin .add (.t 17) (.t 20))), []⟩,
    ⟨some 1, none, (.op (.mv (.t 21))), []⟩])
  (.seq (.seq (.region [⟨some 22, none, (.op (.mv (.t 1))), []⟩,
    ⟨some 23, none, (.op (.bin .gtr (.t 22) (.c (.tv (.int .i64) (64 : Int))))), []⟩])
  (.cond (.t 23)
  (.seq (.region [⟨some 4, none, (.op (.nrow YEvent)), []⟩,
      ⟨some 5, none, (.op (.mv (.c (.tv (.int .i64) (7 : Int))))), []⟩])
    .ret)
  .skip))
  (.seq (.region [⟨some 24, none, (.op (.mv (.t 6))), []⟩,
    ⟨some 25, none, (.op (.load true 3 (.t 7))), []⟩,
    ⟨some 26, none, (.op (.bslice YEvent [(.t 25)])), []⟩,
    ⟨some 27, none, (.op (.app YEvent (.t 24) (.t 26))), []⟩,
    ⟨some 6, none, (.op (.mv (.t 27))), []⟩])
  (.seq (.region [⟨some 28, none, (.op (.fad 0 0 (.t 7))), []⟩,
    ⟨some 29, none, (.op (.load false 1 (.t 28))), []⟩])
  (.cond (.t 29)
  (.exit 0)
  .skip))))))))
noncomputable def blocks_eventsu0_t (k n : Nat) (d : blocks_eventsu0_p.D) : Option (XD blocks_eventsu0_x) := blocks_eventsu0 k n d.1.2.1 d.2.1 d.2.2
theorem blocks_eventsu0_ok (k : Nat) : UOK P GL (mkU blocks_eventsu0_p blocks_eventsu0_x (blocks_eventsu0_t k k) nilU) blocks_eventsu0_d true blocks_eventsu0_b :=
  loop_typed (ud := blocks_eventsu0_d) (body := blocks_eventsu0_b) (uorc := uorT (blocks_events_U0 k)) hmo (T45_ok k).oo (blocks_events_U0_ok k) (AllU.no (by kernel_rfl)) (t := blocks_eventsu0_t k) (fun d => by kernel_rfl) (fun n d => by kernel_rfl) k
noncomputable def blocks_events_U1 (k : Nat) : List (Nat × Ent) := (0, ⟨mkU blocks_eventsu0_p blocks_eventsu0_x (blocks_eventsu0_t k k) nilU⟩) :: blocks_events_U0 k
theorem blocks_events_U1_ok (k : Nat) : UTab (blocks_events_U1 k) := (blocks_events_U0_ok k).cons (mkU_nat nilU_nat)
noncomputable def blocks_events (k : Nat) (x0 : Int) (x1 : DReader) : Option (((List (DEvent)) × ((Int) × (Unit))) × (DReader)) :=
  Option.bind (blocks_eventsu0 k k x0 x1 ([] : List (DEvent))) fun r =>
  Sum.elim (fun (v185 : ((Unit) × ((Int) × (Unit))) × ((DReader) × ((List (DEvent)) × (List (DEvent))))) =>
    some ((v185.2.2.1, (v185.1.2.1, ())), v185.2.1))
    (fun (v186 : (Unit) × ((DReader) × (List (DEvent)))) =>
    some ((v186.2.2, (0, ())), v186.2.1)) r
noncomputable def blocks_events_b : AC :=
  (.seq (.region [⟨some 4, none, (.op (.nrow YEvent)), []⟩,
    ⟨some 5, none, (.op (.mv (.c (.tv (.int .i64) (0 : Int))))), []⟩])
  (.scope (.seq (.region [⟨some 6, none, (.op (.nrow YEvent)), []⟩])
  (.seq .label
  (.seq (.block 0 (.unit 0 blocks_eventsu0_d true blocks_eventsu0_b))
  (.seq (.region [⟨some 30, none, (.op (.mv (.t 6))), []⟩,
    ⟨some 4, none, (.op (.mv (.t 30))), []⟩,
    ⟨some 5, none, (.op (.mv (.c (.tv (.int .i64) (0 : Int))))), []⟩])
  .ret))))))
noncomputable def blocks_events_f : FDef := ⟨2, 31, [.tmp 4 (some (.sl YEvent)), .tmp 5 none], blocks_events_b⟩
noncomputable def blocks_events_p : XPat := ⟨.normal, [(.ptr 0 []), (.tv (.int .i64))], [(.box (.tv YReader))]⟩
noncomputable def blocks_events_x : List XPat := [⟨.ret, [(.tup (.cons (.tv (.sl YEvent)) (.cons (.tv (.int .i64)) .nil)))], [(.box (.tv YReader))]⟩]
noncomputable def blocks_events_t (k : Nat) (d : blocks_events_p.D) : Option (XD blocks_events_x) := blocks_events k d.1.2 d.2
noncomputable def blocks_events_e (k : Nat) : UEntry := mkU blocks_events_p blocks_events_x (blocks_events_t k) nilU
theorem blocks_events_n (k : Nat) : UNat (blocks_events_e k) := mkU_nat nilU_nat
theorem blocks_events_m : mfn P blocks_events_f Tryd.f79 = true := by kernel_rfl
theorem blocks_events_fu (k : Nat) : FU P GL 79 (blocks_events_e k) :=
  fn_typed (uorc := uorT (blocks_events_U1 k)) hmo (T45_ok k).oo (blocks_events_U1_ok k) (fd := blocks_events_f) (AllU.seq (AllU.no (by kernel_rfl)) (AllU.scope (AllU.seq (AllU.no (by kernel_rfl)) (AllU.seq (AllU.no (by kernel_rfl)) (AllU.seq (AllU.block (AllU.unit (uorc := uorT (blocks_events_U1 k)) (u := 0) (blocks_eventsu0_ok k))) (AllU.no (by kernel_rfl))))))) (fn := Tryd.f79) (by kernel_rfl) blocks_events_m (fun d => by kernel_rfl) FU_nil
noncomputable def T46 (k : Nat) : List (Nat × Ent) := (79, ⟨blocks_events_e k⟩) :: T45 k
theorem T46_ok (k : Nat) : TabOK P GL (T46 k) := (T45_ok k).cons (blocks_events_fu k) (blocks_events_n k)
/-! ### overspill.blocks.Take -/
noncomputable def blocks_Take_U0 (_ : Nat) : List (Nat × Ent) := []
theorem blocks_Take_U0_ok (k : Nat) : UTab (blocks_Take_U0 k) := UTab.nil
noncomputable def blocks_Takeu0_d : UDef := ⟨[(0, none), (10, none), (11, none), (17, none)], [10, 11, 18, 19, 20, 21, 22], [(.normal, [(10, none), (11, none)])], []⟩
noncomputable def blocks_Takeu0_p : XPat := ⟨.normal, [(.ptr 0 []), (.tv (.int .i64)), (.tv (.int .i64)), (.tv .bool)], [(.box (.tv YReader))]⟩
noncomputable def blocks_Takeu0_x : List XPat := [⟨.normal, [(.tv (.int .i64)), (.tv (.int .i64))], [(.box (.tv YReader))]⟩]
noncomputable def blocks_Takeu0 (k : Nat) (x0 : Int) (x1 : Int) (x2 : Bool) (x3 : DReader) : Option (((Int) × (Int)) × (DReader)) :=
  bif x2 then
    Option.bind (blocks_first k x3) fun (v139 : ((Int) × ((Int) × (Unit))) × (DReader)) =>
    some ((v139.1.1, v139.1.2.1), v139.2)
  else
  some ((x0, x1), x3)
noncomputable def blocks_Takeu0_b : AC :=
  (.cond (.t 17)
  (.region [⟨some 19, none, (.op (.mv (.t 0))), []⟩,
      ⟨some 20, none, (.call (.c (.fn 78 .nil .nil)) [((.t 19), none)]), []⟩,
      ⟨some 18, none, (.op (.mv (.t 20))), []⟩,
      ⟨some 21, none, (.op (.ext (.t 18) 0)), []⟩,
      ⟨some 22, none, (.op (.ext (.t 18) 1)), []⟩,
      ⟨some 10, none, (.op (.mv (.t 21))), []⟩,
      ⟨some 11, none, (.op (.mv (.t 22))), []⟩])
  .skip)
noncomputable def blocks_Takeu0_t (k : Nat) (d : blocks_Takeu0_p.D) : Option (XD blocks_Takeu0_x) := blocks_Takeu0 k d.1.2.1 d.1.2.2.1 d.1.2.2.2 d.2
theorem blocks_Takeu0_ok (k : Nat) : UOK P GL (mkU blocks_Takeu0_p blocks_Takeu0_x (blocks_Takeu0_t k) nilU) blocks_Takeu0_d false blocks_Takeu0_b :=
  unit_typed (ud := blocks_Takeu0_d) (body := blocks_Takeu0_b) (uorc := uorT (blocks_Take_U0 k)) hmo (T46_ok k).oo (blocks_Take_U0_ok k) (AllU.no (by kernel_rfl)) (fun d => by kernel_rfl)
noncomputable def blocks_Take_U1 (k : Nat) : List (Nat × Ent) := (0, ⟨mkU blocks_Takeu0_p blocks_Takeu0_x (blocks_Takeu0_t k) nilU⟩) :: blocks_Take_U0 k
theorem blocks_Take_U1_ok (k : Nat) : UTab (blocks_Take_U1 k) := (blocks_Take_U0_ok k).cons (mkU_nat nilU_nat)
noncomputable def blocks_Takeu1_d : UDef := ⟨[(2, none), (11, none)], [23, 24, 25, 26, 27], [(.normal, [(27, none)])], []⟩
noncomputable def blocks_Takeu1_p : XPat := ⟨.normal, [(.tv .bool), (.tv (.int .i64))], []⟩
noncomputable def blocks_Takeu1_x : List XPat := [⟨.normal, [(.tv .bool)], []⟩]
noncomputable def blocks_Takeu1 (k : Nat) (x0 : Bool) (x1 : Int) : Option (Bool) :=
  bif (decide (x1 = 0)) then
    some x0
  else
  some false
noncomputable def blocks_Takeu1_b : AC :=
  (.region [⟨some 23, none, (.op (.mv (.t 11))), []⟩,
    ⟨some 24, none, (.op (.bin .eql (.t 23) (.c (.tv (.int .i64) (0 : Int))))), []⟩,
    ⟨some 25, none, (.op (.mv (.t 24))), []⟩,
    ⟨some 26, some (2, 25, true), (.op (.mv (.t 2))), []⟩,
    ⟨some 27, none, (.op (.pick (.t 25) (.t 26) (.c (.tv .bool (false : Bool))))), []⟩])
noncomputable def blocks_Takeu1_t (k : Nat) (d : blocks_Takeu1_p.D) : Option (XD blocks_Takeu1_x) := blocks_Takeu1 k d.1 d.2
theorem blocks_Takeu1_ok (k : Nat) : UOK P GL (mkU blocks_Takeu1_p blocks_Takeu1_x (blocks_Takeu1_t k) nilU) blocks_Takeu1_d false blocks_Takeu1_b :=
  unit_typed (ud := blocks_Takeu1_d) (body := blocks_Takeu1_b) (uorc := uorT (blocks_Take_U1 k)) hmo (T46_ok k).oo (blocks_Take_U1_ok k) (AllU.no (by kernel_rfl)) (fun d => by kernel_rfl)
noncomputable def blocks_Take_U2 (k : Nat) : List (Nat × Ent) := (1, ⟨mkU blocks_Takeu1_p blocks_Takeu1_x (blocks_Takeu1_t k) nilU⟩) :: blocks_Take_U1 k
theorem blocks_Take_U2_ok (k : Nat) : UTab (blocks_Take_U2 k) := (blocks_Take_U1_ok k).cons (mkU_nat nilU_nat)
noncomputable def blocks_Takeu2_d : UDef := ⟨[(0, none), (1, none), (11, none), (12, none), (27, none)], [11, 12, 28, 29, 30, 31, 32, 33, 34], [(.normal, [(11, none), (12, none)])], []⟩
noncomputable def blocks_Takeu2_p : XPat := ⟨.normal, [(.ptr 0 []), (.tv .bool), (.tv (.int .i64)), (.tv (.sl YEvent)), (.tv .bool)], [(.box (.tv YReader))]⟩
noncomputable def blocks_Takeu2_x : List XPat := [⟨.normal, [(.tv (.int .i64)), (.tv (.sl YEvent))], [(.box (.tv YReader))]⟩]
noncomputable def blocks_Takeu2 (k : Nat) (x0 : Bool) (x1 : Int) (x2 : List (DEvent)) (x3 : Bool) (x4 : DReader) : Option (((Int) × (List (DEvent))) × (DReader)) :=
  bif x3 then
    Option.bind (blocks_from k x0) fun (v188 : Int) =>
    Option.bind (blocks_events k v188 x4) fun (v189 : ((List (DEvent)) × ((Int) × (Unit))) × (DReader)) =>
    some ((v189.1.2.1, v189.1.1), v189.2)
  else
  some ((x1, x2), x4)
noncomputable def blocks_Takeu2_b : AC :=
  (.cond (.t 27)
  (.region [⟨some 29, none, (.op (.mv (.t 0))), []⟩,
      ⟨some 30, none, (.op (.mv (.t 1))), []⟩,
      ⟨some 31, none, (.call (.c (.fn 80 .nil .nil)) [((.t 30), none)]), []⟩,
      ⟨some 32, none, (.call (.c (.fn 79 .nil .nil)) [((.t 29), none), ((.t 31), none)]), []⟩,
      ⟨some 28, none, (.op (.mv (.t 32))), []⟩,
      ⟨some 33, none, (.op (.ext (.t 28) 0)), []⟩,
      ⟨some 34, none, (.op (.ext (.t 28) 1)), []⟩,
      ⟨some 12, none, (.op (.mv (.t 33))), []⟩,
      ⟨some 11, none, (.op (.mv (.t 34))), []⟩])
  .skip)
noncomputable def blocks_Takeu2_t (k : Nat) (d : blocks_Takeu2_p.D) : Option (XD blocks_Takeu2_x) := blocks_Takeu2 k d.1.2.1 d.1.2.2.1 d.1.2.2.2.1 d.1.2.2.2.2 d.2
theorem blocks_Takeu2_ok (k : Nat) : UOK P GL (mkU blocks_Takeu2_p blocks_Takeu2_x (blocks_Takeu2_t k) nilU) blocks_Takeu2_d false blocks_Takeu2_b :=
  unit_typed (ud := blocks_Takeu2_d) (body := blocks_Takeu2_b) (uorc := uorT (blocks_Take_U2 k)) hmo (T46_ok k).oo (blocks_Take_U2_ok k) (AllU.no (by kernel_rfl)) (fun d => by kernel_rfl)
noncomputable def blocks_Take_U3 (k : Nat) : List (Nat × Ent) := (2, ⟨mkU blocks_Takeu2_p blocks_Takeu2_x (blocks_Takeu2_t k) nilU⟩) :: blocks_Take_U2 k
theorem blocks_Take_U3_ok (k : Nat) : UTab (blocks_Take_U3 k) := (blocks_Take_U2_ok k).cons (mkU_nat nilU_nat)
noncomputable def blocks_Take (k : Nat) (x0 : Bool) (x1 : Bool) (x2 : DReader) : Option (((Int) × ((List (DEvent)) × ((Int) × (Unit)))) × (DReader)) :=
  Option.bind (inbits_Reader_At k x2) fun (v135 : (Int) × (DReader)) =>
  Option.bind (blocks_Takeu0 k 0 0 x0 v135.2) fun (v140 : ((Int) × (Int)) × (DReader)) =>
  Option.bind (blocks_Takeu1 k x1 v140.1.2) fun (v141 : Bool) =>
  Option.bind (blocks_Takeu2 k x0 v140.1.2 ([] : List (DEvent)) v141 v140.2) fun (v190 : ((Int) × (List (DEvent))) × (DReader)) =>
  bif (!(decide (v190.1.1 = 0))) then
    Option.bind (inbits_Reader_Seek k v135.1 v190.2) fun (v191 : (Int) × (DReader)) =>
    some ((0, (([] : List (DEvent)), (v190.1.1, ()))), v191.2)
  else
  some ((v140.1.1, (v190.1.2, (0, ()))), v190.2)
noncomputable def blocks_Take_b : AC :=
  (.seq (.region [⟨some 6, none, (.op (.mv (.c (.tv (.int .i64) (0 : Int))))), []⟩,
    ⟨some 7, none, (.op (.mv (.c (.tv (.sl YEvent) (([] : List (DEvent)) : List (DEvent)))))), []⟩,
    ⟨some 8, none, (.op (.mv (.c (.tv (.int .i64) (0 : Int))))), []⟩])
  (.seq (.seq (.region [⟨some 13, none, (.op (.mv (.t 0))), []⟩,
    ⟨some 14, none, (.op (.eqp false (.t 13) (.c .nilp))), []⟩])
  (.cond (.t 14)
  (.seq (.region [⟨some 6, none, .op .bad, []⟩,
      ⟨some 7, none, .op .bad, []⟩,
      ⟨some 8, none, .op .bad, []⟩])
    .ret)
  .skip))
  (.seq (.region [⟨some 15, none, (.op (.mv (.t 0))), []⟩,
    ⟨some 16, none, (.call (.c (.fn 14 .nil .nil)) [((.t 15), none)]), []⟩,
    ⟨some 9, none, (.op (.mv (.t 16))), []⟩,
    ⟨some 10, none, (.op (.mv (.c (.tv (.int .i64) (0 : Int))))), []⟩,
    ⟨some 11, none, (.op (.mv (.c (.tv (.int .i64) (0 : Int))))), []⟩])
  (.seq (.region [⟨some 12, none, (.op (.mv (.c (.tv (.sl YEvent) (([] : List (DEvent)) : List (DEvent)))))), []⟩])
  (.seq (.seq (.region [⟨some 17, none, (.op (.mv (.t 1))), []⟩])
  (.unit 0 blocks_Takeu0_d false blocks_Takeu0_b))
  (.seq (.seq (.unit 1 blocks_Takeu1_d false blocks_Takeu1_b)
  (.unit 2 blocks_Takeu2_d false blocks_Takeu2_b))
  (.seq (.seq (.region [⟨some 35, none, (.op (.mv (.t 11))), []⟩,
    ⟨some 36, none, (.op (.bin .neq (.t 35) (.c (.tv (.int .i64) (0 : Int))))), []⟩])
  (.cond (.t 36)
  (.seq (.region [⟨some 37, none, (.op (.mv (.t 0))), []⟩,
      ⟨some 38, none, (.op (.mv (.t 9))), []⟩,
      ⟨some 39, none, (.call (.c (.fn 8 .nil .nil)) [((.t 37), none), ((.t 38), none)]), []⟩])
    (.seq (.region [⟨some 40, none, (.op (.mv (.t 11))), []⟩,
      ⟨some 6, none, (.op (.mv (.c (.tv (.int .i64) (0 : Int))))), []⟩,
      ⟨some 7, none, (.op (.mv (.c (.tv (.sl YEvent) (([] : List (DEvent)) : List (DEvent)))))), []⟩,
      ⟨some 8, none, (.op (.mv (.t 40))), []⟩])
    .ret))
  .skip))
  (.seq (.region [⟨some 41, none, (.op (.mv (.t 10))), []⟩,
    ⟨some 42, none, (.op (.mv (.t 12))), []⟩,
    ⟨some 6, none, (.op (.mv (.t 41))), []⟩,
    ⟨some 7, none, (.op (.mv (.t 42))), []⟩,
    ⟨some 8, none, (.op (.mv (.c (.tv (.int .i64) (0 : Int))))), []⟩])
  .ret))))))))
noncomputable def blocks_Take_f : FDef := ⟨3, 43, [.tmp 6 none, .tmp 7 (some (.sl YEvent)), .tmp 8 none], blocks_Take_b⟩
noncomputable def blocks_Take_p : XPat := ⟨.normal, [(.ptr 0 []), (.tv .bool), (.tv .bool)], [(.box (.tv YReader))]⟩
noncomputable def blocks_Take_x : List XPat := [⟨.ret, [(.tup (.cons (.tv (.int .i64)) (.cons (.tv (.sl YEvent)) (.cons (.tv (.int .i64)) .nil))))], [(.box (.tv YReader))]⟩]
noncomputable def blocks_Take_t (k : Nat) (d : blocks_Take_p.D) : Option (XD blocks_Take_x) := blocks_Take k d.1.2.1 d.1.2.2 d.2
noncomputable def blocks_Take_e (k : Nat) : UEntry := mkU blocks_Take_p blocks_Take_x (blocks_Take_t k) nilU
theorem blocks_Take_n (k : Nat) : UNat (blocks_Take_e k) := mkU_nat nilU_nat
theorem blocks_Take_m : mfn P blocks_Take_f Tryd.f56 = true := by kernel_rfl
theorem blocks_Take_fu (k : Nat) : FU P GL 56 (blocks_Take_e k) :=
  fn_typed (uorc := uorT (blocks_Take_U3 k)) hmo (T46_ok k).oo (blocks_Take_U3_ok k) (fd := blocks_Take_f) (AllU.seq (AllU.no (by kernel_rfl)) (AllU.seq (AllU.no (by kernel_rfl)) (AllU.seq (AllU.no (by kernel_rfl)) (AllU.seq (AllU.no (by kernel_rfl)) (AllU.seq (AllU.seq (AllU.no (by kernel_rfl)) (AllU.unit (uorc := uorT (blocks_Take_U3 k)) (u := 0) (blocks_Takeu0_ok k))) (AllU.seq (AllU.seq (AllU.unit (uorc := uorT (blocks_Take_U3 k)) (u := 1) (blocks_Takeu1_ok k)) (AllU.unit (uorc := uorT (blocks_Take_U3 k)) (u := 2) (blocks_Takeu2_ok k))) (AllU.no (by kernel_rfl)))))))) (fn := Tryd.f56) (by kernel_rfl) blocks_Take_m (fun d => by kernel_rfl) FU_nil
noncomputable def T47 (k : Nat) : List (Nat × Ent) := (56, ⟨blocks_Take_e k⟩) :: T46 k
theorem T47_ok (k : Nat) : TabOK P GL (T47 k) := (T46_ok k).cons (blocks_Take_fu k) (blocks_Take_n k)
/-! ### (*overspill.cellin.reader).body -/
noncomputable def cellin_reader_body_U0 (_ : Nat) : List (Nat × Ent) := []
theorem cellin_reader_body_U0_ok (k : Nat) : UTab (cellin_reader_body_U0 k) := UTab.nil
noncomputable def cellin_reader_bodyu0_d : UDef := ⟨[(0, none), (1, none), (2, none), (7, none)], [6, 7, 8, 9, 10, 11, 12, 13, 14, 15, 16, 17, 18, 19, 20, 21, 22, 23, 24, 25, 26, 27, 28, 29, 30, 31, 32, 33, 34, 35, 36, 37, 38, 39, 40, 41, 42, 43, 44, 45, 46, 47, 48, 49], [(.ret, []), ((.exit 0), [])], []⟩
noncomputable def cellin_reader_bodyu0_p : XPat := ⟨.normal, [(.ptr 0 []), (.ptr 2 []), (.tv (.int .i64)), (.tv (.int .i64))], [(.box (.cons (.ptr 1 []) (.cons (.tv (.int .i64)) .nil))), (.box (.tv YReader)), (.box (.tv YCell))]⟩
noncomputable def cellin_reader_bodyu0_x : List XPat := [⟨.ret, [], [(.box (.cons (.ptr 1 []) (.cons (.tv (.int .i64)) .nil))), (.box (.tv YReader)), (.box (.tv YCell))]⟩, ⟨(.exit 0), [], [(.box (.cons (.ptr 1 []) (.cons (.tv (.int .i64)) .nil))), (.box (.tv YReader)), (.box (.tv YCell))]⟩]
noncomputable def cellin_reader_bodyu0 (k : Nat) : Nat → (Int) → (Int) → (Int) → (DReader) → (DCell) → Option (((Unit) × (((Unit) × ((Int) × (Unit))) × ((DReader) × (DCell)))) ⊕ ((Unit) × (((Unit) × ((Int) × (Unit))) × ((DReader) × (DCell)))))
  | 0, _, _, _, _, _ => none
  | n + 1, x0, x1, x2, x3, x4 =>
    bif (decide (x1 < 6)) then
      bif (!(decide (x2 = 0))) then
        some (Sum.inl ((), (((), (x2, ())), (x3, x4))))
      else
      Option.bind (cellin_intra k x4.2.2.1) fun (v193 : Bool) =>
      bif (decide ((wr .u64 (wr .i64 (5 - x1))) < 0)) then
        none
      else
      Option.bind (blocks_Take k v193 (decide ((bitop .and .i64 (shrI .i64 x0 (wr .u64 (wr .i64 (5 - x1)))) 1) = 1)) x3) fun (v194 : ((Int) × ((List (DEvent)) × ((Int) × (Unit)))) × (DReader)) =>
      bif (inR x1 6) then
        bif (inR x1 6) then
          Option.bind (cellin_reader_bodyu0 k n x0 (wr .i64 (x1 + 1)) v194.1.2.2.1 v194.2 (x4.1, (x4.2.1, (x4.2.2.1, (x4.2.2.2.1, (x4.2.2.2.2.1, ((List.set x4.2.2.2.2.2.1 (Int.toNat x1) v194.1.1), ((List.set x4.2.2.2.2.2.2.1 (Int.toNat x1) v194.1.2.1), x4.2.2.2.2.2.2.2)))))))) fun r => Sum.elim (fun w => some (Sum.inl w)) (fun w => some (Sum.inr w)) r
        else
          none
      else
        none
    else
    some (Sum.inr ((), (((), (x2, ())), (x3, x4))))
noncomputable def cellin_reader_bodyu0_b : AC :=
  (.seq (.region [⟨some 8, none, (.op (.bin .lss (.t 7) (.c (.tv (.int .i64) (6 : Int))))), []⟩])
  (.seq (.cond (.t 8)
  .skip
  (.exit 0))
  (.seq (.block 1 (.seq (.region [⟨some 9, none, (.op (.mv (.t 7))), []⟩,
    ⟨some 6, none, (.op (.mv (.t 9))), []⟩])
  (.seq (.seq (.region [⟨some 10, none, (.op (.mv (.t 0))), []⟩,
    ⟨some 11, none, (.op (.nilc (.t 10))), []⟩,
    ⟨some 12, none, (.op (.fad 1 1 (.t 11))), []⟩,
    ⟨some 13, none, (.op (.load false 1 (.t 12))), []⟩,
    ⟨some 14, none, (.op (.bin .neq (.t 13) (.c (.tv (.int .i64) (0 : Int))))), []⟩])
  (.cond (.t 14)
  .ret
  .skip))
  (.draw [⟨some 16, none, (.op (.mv (.t 1))), []⟩,
    ⟨some 17, none, (.op (.mv (.t 6))), []⟩,
    ⟨some 18, none, (.op (.mv (.t 1))), []⟩,
    ⟨some 19, none, (.op (.mv (.t 6))), []⟩,
    ⟨some 20, none, (.op (.mv (.t 0))), []⟩,
    ⟨some 21, none, (.op (.mv (.t 0))), []⟩,
    ⟨some 22, none, (.op (.nilc (.t 21))), [5]⟩,
    ⟨some 23, none, (.op (.fad 0 0 (.t 22))), [5, 6]⟩,
    ⟨some 24, none, (.op (.load false 1 (.t 23))), [5, 6, 7]⟩,
    ⟨some 25, none, (.op (.mv (.t 1))), []⟩,
    ⟨some 26, none, (.op (.nilc (.t 25))), [9]⟩,
    ⟨some 27, none, (.op (.fad 2 2 (.t 26))), [9, 10]⟩,
    ⟨some 28, none, (.op (.load false 1 (.t 27))), [9, 10, 11]⟩,
    ⟨some 29, none, (.call (.c (.fn 53 .nil .nil)) [((.t 28), none)]), [9, 10, 11, 12]⟩,
    ⟨some 30, none, (.op (.mv (.t 2))), []⟩,
    ⟨some 31, none, (.op (.mv (.t 6))), []⟩,
    ⟨some 32, none, (.op (.bin .sub (.c (.tv (.int .i64) (5 : Int))) (.t 31))), [15]⟩,
    ⟨some 33, none, (.op (.conv .u64 (.t 32))), [15, 16]⟩,
    ⟨some 34, none, (.op (.bin .shr (.t 30) (.t 33))), [14, 15, 16, 17]⟩,
    ⟨some 35, none, (.op (.bin .and (.t 34) (.c (.tv (.int .i64) (1 : Int))))), [14, 15, 16, 17, 18]⟩,
    ⟨some 36, none, (.op (.bin .eql (.t 35) (.c (.tv (.int .i64) (1 : Int))))), [14, 15, 16, 17, 18, 19]⟩,
    ⟨some 37, none, (.call (.c (.fn 56 .nil .nil)) [((.t 24), none), ((.t 29), none), ((.t 36), none)]), [5, 6, 7, 8, 9, 10, 11, 12, 13, 14, 15, 16, 17, 18, 19, 20]⟩,
    ⟨some 15, none, (.op (.mv (.t 37))), [5, 6, 7, 8, 9, 10, 11, 12, 13, 14, 15, 16, 17, 18, 19, 20, 21]⟩,
    ⟨some 38, none, (.op (.ext (.t 15) 0)), [5, 6, 7, 8, 9, 10, 11, 12, 13, 14, 15, 16, 17, 18, 19, 20, 21, 22]⟩,
    ⟨some 39, none, (.op (.ext (.t 15) 1)), [5, 6, 7, 8, 9, 10, 11, 12, 13, 14, 15, 16, 17, 18, 19, 20, 21, 22]⟩,
    ⟨some 40, none, (.op (.ext (.t 15) 2)), [5, 6, 7, 8, 9, 10, 11, 12, 13, 14, 15, 16, 17, 18, 19, 20, 21, 22]⟩,
    ⟨some 41, none, (.op (.nilc (.t 16))), [0]⟩,
    ⟨some 42, none, (.op (.fad 5 6 (.t 41))), [0, 26]⟩,
    ⟨some 43, none, (.op (.iad 6 1 (.t 42) (.t 17))), [0, 1, 5, 6, 7, 8, 9, 10, 11, 12, 13, 14, 15, 16, 17, 18, 19, 20, 21, 22, 23, 26, 27]⟩,
    ⟨none, none, (.op (.store 1 none (.t 43) (.t 38))), [0, 1, 5, 6, 7, 8, 9, 10, 11, 12, 13, 14, 15, 16, 17, 18, 19, 20, 21, 22, 23, 26, 27, 28]⟩,
    ⟨some 44, none, (.op (.nilc (.t 18))), [2]⟩,
    ⟨some 45, none, (.op (.fad 6 12 (.t 44))), [2, 30]⟩,
    ⟨some 46, none, (.op (.iad 6 1 (.t 45) (.t 19))), [0, 1, 2, 3, 5, 6, 7, 8, 9, 10, 11, 12, 13, 14, 15, 16, 17, 18, 19, 20, 21, 22, 23, 24, 26, 27, 28, 29, 30, 31]⟩,
    ⟨none, none, (.op (.store 1 none (.t 46) (.t 39))), [0, 1, 2, 3, 5, 6, 7, 8, 9, 10, 11, 12, 13, 14, 15, 16, 17, 18, 19, 20, 21, 22, 23, 24, 26, 27, 28, 29, 30, 31, 32]⟩,
    ⟨some 47, none, (.op (.nilc (.t 20))), [0, 1, 2, 3, 4, 5, 6, 7, 8, 9, 10, 11, 12, 13, 14, 15, 16, 17, 18, 19, 20, 21, 22, 23, 24, 25, 26, 27, 28, 29, 30, 31, 32, 33]⟩,
    ⟨some 48, none, (.op (.fad 1 1 (.t 47))), [0, 1, 2, 3, 4, 5, 6, 7, 8, 9, 10, 11, 12, 13, 14, 15, 16, 17, 18, 19, 20, 21, 22, 23, 24, 25, 26, 27, 28, 29, 30, 31, 32, 33, 34]⟩,
    ⟨none, none, (.op (.store 1 none (.t 48) (.t 40))), [0, 1, 2, 3, 4, 5, 6, 7, 8, 9, 10, 11, 12, 13, 14, 15, 16, 17, 18, 19, 20, 21, 22, 23, 24, 25, 26, 27, 28, 29, 30, 31, 32, 33, 34, 35]⟩]))))
  (.region [⟨some 49, none, (.op (.bin .add (.t 7) (.c (.tv (.int .i64) (1 : Int))))), []⟩,
    ⟨some 7, none, (.op (.mv (.t 49))), []⟩]))))
noncomputable def cellin_reader_bodyu0_t (k n : Nat) (d : cellin_reader_bodyu0_p.D) : Option (XD cellin_reader_bodyu0_x) := cellin_reader_bodyu0 k n d.1.2.2.1 d.1.2.2.2 d.2.1.2.1 d.2.2.1 d.2.2.2
theorem cellin_reader_bodyu0_ok (k : Nat) : UOK P GL (mkU cellin_reader_bodyu0_p cellin_reader_bodyu0_x (cellin_reader_bodyu0_t k k) nilU) cellin_reader_bodyu0_d true cellin_reader_bodyu0_b :=
  loop_typed (ud := cellin_reader_bodyu0_d) (body := cellin_reader_bodyu0_b) (uorc := uorT (cellin_reader_body_U0 k)) hmo (T47_ok k).oo (cellin_reader_body_U0_ok k) (AllU.no (by kernel_rfl)) (t := cellin_reader_bodyu0_t k) (fun d => by kernel_rfl) (fun n d => by kernel_rfl) k
noncomputable def cellin_reader_body_U1 (k : Nat) : List (Nat × Ent) := (0, ⟨mkU cellin_reader_bodyu0_p cellin_reader_bodyu0_x (cellin_reader_bodyu0_t k k) nilU⟩) :: cellin_reader_body_U0 k
theorem cellin_reader_body_U1_ok (k : Nat) : UTab (cellin_reader_body_U1 k) := (cellin_reader_body_U0_ok k).cons (mkU_nat nilU_nat)
noncomputable def cellin_reader_body (k : Nat) (x0 : Int) (x1 : Int) (x2 : DReader) (x3 : DCell) : Option ((Unit) × (((Unit) × ((Int) × (Unit))) × ((DReader) × (DCell)))) :=
  Option.bind (cellin_reader_bodyu0 k k x0 0 x1 x2 x3) fun r =>
  Sum.elim (fun (v195 : (Unit) × (((Unit) × ((Int) × (Unit))) × ((DReader) × (DCell)))) =>
    some ((), (((), (v195.2.1.2.1, ())), (v195.2.2.1, v195.2.2.2))))
    (fun (v196 : (Unit) × (((Unit) × ((Int) × (Unit))) × ((DReader) × (DCell)))) =>
    some ((), (((), (v196.2.1.2.1, ())), (v196.2.2.1, v196.2.2.2)))) r
noncomputable def cellin_reader_body_b : AC :=
  (.seq (.region [⟨some 7, none, (.op (.mv (.c (.tv (.int .i64) (0 : Int))))), []⟩])
  (.block 0 (.unit 0 cellin_reader_bodyu0_d true cellin_reader_bodyu0_b)))
noncomputable def cellin_reader_body_f : FDef := ⟨3, 50, [], cellin_reader_body_b⟩
noncomputable def cellin_reader_body_p : XPat := ⟨.normal, [(.ptr 0 []), (.ptr 2 []), (.tv (.int .i64))], [(.box (.cons (.ptr 1 []) (.cons (.tv (.int .i64)) .nil))), (.box (.tv YReader)), (.box (.tv YCell))]⟩
noncomputable def cellin_reader_body_x : List XPat := [⟨.ret, [(.tup .nil)], [(.box (.cons (.ptr 1 []) (.cons (.tv (.int .i64)) .nil))), (.box (.tv YReader)), (.box (.tv YCell))]⟩]
noncomputable def cellin_reader_body_t (k : Nat) (d : cellin_reader_body_p.D) : Option (XD cellin_reader_body_x) := cellin_reader_body k d.1.2.2 d.2.1.2.1 d.2.2.1 d.2.2.2
noncomputable def cellin_reader_body_e (k : Nat) : UEntry := mkU cellin_reader_body_p cellin_reader_body_x (cellin_reader_body_t k) nilU
theorem cellin_reader_body_n (k : Nat) : UNat (cellin_reader_body_e k) := mkU_nat nilU_nat
theorem cellin_reader_body_m : mfn P cellin_reader_body_f Tryd.f26 = true := by kernel_rfl
theorem cellin_reader_body_fu (k : Nat) : FU P GL 26 (cellin_reader_body_e k) :=
  fn_typed (uorc := uorT (cellin_reader_body_U1 k)) hmo (T47_ok k).oo (cellin_reader_body_U1_ok k) (fd := cellin_reader_body_f) (AllU.seq (AllU.no (by kernel_rfl)) (AllU.block (AllU.unit (uorc := uorT (cellin_reader_body_U1 k)) (u := 0) (cellin_reader_bodyu0_ok k)))) (fn := Tryd.f26) (by kernel_rfl) cellin_reader_body_m (fun d => by kernel_rfl) FU_nil
noncomputable def T48 (k : Nat) : List (Nat × Ent) := (26, ⟨cellin_reader_body_e k⟩) :: T47 k
theorem T48_ok (k : Nat) : TabOK P GL (T48 k) := (T47_ok k).cons (cellin_reader_body_fu k) (cellin_reader_body_n k)
/-! ### overspill.cellin.Take -/
noncomputable def cellin_Take_U0 (_ : Nat) : List (Nat × Ent) := []
theorem cellin_Take_U0_ok (k : Nat) : UTab (cellin_Take_U0 k) := UTab.nil
noncomputable def cellin_Takeu0_d : UDef := ⟨[(5, none), (9, none), (10, none), (11, none), (28, none)], [13, 29, 30, 31, 32, 33, 34, 35, 36, 37], [(.normal, [])], []⟩
noncomputable def cellin_Takeu0_p : XPat := ⟨.normal, [(.ptr 0 []), (.ptr 1 []), (.ptr 3 []), (.tv (.int .i64)), (.tv .bool)], [(.box (.tv (.arr 2 (.int .i64)))), (.box (.cons (.ptr 2 []) (.cons (.tv (.int .i64)) .nil))), (.box (.tv YReader)), (.box (.tv YCell))]⟩
noncomputable def cellin_Takeu0_x : List XPat := [⟨.normal, [], [(.box (.tv (.arr 2 (.int .i64)))), (.box (.cons (.ptr 2 []) (.cons (.tv (.int .i64)) .nil))), (.box (.tv YReader)), (.box (.tv YCell))]⟩]
noncomputable def cellin_Takeu0 (k : Nat) (x0 : Int) (x1 : Bool) (x2 : List (Int)) (x3 : Int) (x4 : DReader) (x5 : DCell) : Option ((Unit) × ((List (Int)) × (((Unit) × ((Int) × (Unit))) × ((DReader) × (DCell))))) :=
  bif x1 then
    Option.bind (cellin_reader_middle k x2 x3 x4 x5) fun (v198 : (Int) × (((Unit) × ((Int) × (Unit))) × ((DReader) × (DCell)))) =>
    Option.bind (cellin_reader_body k (bitop .or .i64 (shlI .i64 v198.1 2) x0) v198.2.1.2.1 v198.2.2.1 v198.2.2.2) fun (v199 : (Unit) × (((Unit) × ((Int) × (Unit))) × ((DReader) × (DCell)))) =>
    some ((), (x2, (((), (v199.2.1.2.1, ())), (v199.2.2.1, v199.2.2.2))))
  else
  some ((), (x2, (((), (x3, ())), (x4, x5))))
noncomputable def cellin_Takeu0_b : AC :=
  (.cond (.t 28)
  (.seq (.region [⟨some 29, none, (.op (.mv (.t 9))), []⟩,
      ⟨some 30, none, (.op (.load true 2 (.t 5))), []⟩,
      ⟨some 31, none, (.call (.c (.fn 25 .nil .nil)) [((.t 29), none), ((.t 10), none), ((.t 30), some (.arr 2 (.int .i64)))]), []⟩,
      ⟨some 13, none, (.op (.mv (.t 31))), []⟩])
    (.region [⟨some 32, none, (.op (.mv (.t 9))), []⟩,
      ⟨some 33, none, (.op (.mv (.t 13))), []⟩,
      ⟨some 34, none, (.op (.bin .shl (.t 33) (.c (.tv (.int .u64) (2 : Int))))), []⟩,
      ⟨some 35, none, (.op (.mv (.t 11))), []⟩,
      ⟨some 36, none, (.op (.bin .or (.t 34) (.t 35))), []⟩,
      ⟨some 37, none, (.call (.c (.fn 26 .nil .nil)) [((.t 32), none), ((.t 10), none), ((.t 36), none)]), []⟩]))
  .skip)
noncomputable def cellin_Takeu0_t (k : Nat) (d : cellin_Takeu0_p.D) : Option (XD cellin_Takeu0_x) := cellin_Takeu0 k d.1.2.2.2.1 d.1.2.2.2.2 d.2.1 d.2.2.1.2.1 d.2.2.2.1 d.2.2.2.2
theorem cellin_Takeu0_ok (k : Nat) : UOK P GL (mkU cellin_Takeu0_p cellin_Takeu0_x (cellin_Takeu0_t k) nilU) cellin_Takeu0_d false cellin_Takeu0_b :=
  unit_typed (ud := cellin_Takeu0_d) (body := cellin_Takeu0_b) (uorc := uorT (cellin_Take_U0 k)) hmo (T48_ok k).oo (cellin_Take_U0_ok k) (AllU.no (by kernel_rfl)) (fun d => by kernel_rfl)
noncomputable def cellin_Take_U1 (k : Nat) : List (Nat × Ent) := (0, ⟨mkU cellin_Takeu0_p cellin_Takeu0_x (cellin_Takeu0_t k) nilU⟩) :: cellin_Take_U0 k
theorem cellin_Take_U1_ok (k : Nat) : UTab (cellin_Take_U1 k) := (cellin_Take_U0_ok k).cons (mkU_nat nilU_nat)
noncomputable def cellin_Take (k : Nat) (x0 : Bool) (x1 : List (Int)) (x2 : DReader) : Option (((DCell) × ((Int) × (Unit))) × (DReader)) :=
  Option.bind (inbits_Reader_At k x2) fun (v3 : (Int) × (DReader)) =>
  Option.bind (cellin_reader_head k x0 0 v3.2 (0, (false, (0, (0, ((Ty.zero (.arr 2 (.int .i64))), ((Ty.zero (.arr 6 (.int .i64))), ((Ty.zero (.arr 6 (.sl YEvent))), ())))))))) fun (v81 : ((Int) × ((Bool) × (Unit))) × (((Unit) × ((Int) × (Unit))) × ((DReader) × (DCell)))) =>
  Option.bind (cellin_Takeu0 k v81.1.1 v81.1.2.1 x1 v81.2.1.2.1 v81.2.2.1 v81.2.2.2) fun (v200 : (Unit) × ((List (Int)) × (((Unit) × ((Int) × (Unit))) × ((DReader) × (DCell))))) =>
  bif (!(decide (v200.2.2.1.2.1 = 0))) then
    Option.bind (inbits_Reader_Seek k v3.1 v200.2.2.2.1) fun (v201 : (Int) × (DReader)) =>
    some (((0, (false, (0, (0, ((Ty.zero (.arr 2 (.int .i64))), ((Ty.zero (.arr 6 (.int .i64))), ((Ty.zero (.arr 6 (.sl YEvent))), ()))))))), (v200.2.2.1.2.1, ())), v201.2)
  else
  some ((v200.2.2.2.2, (0, ())), v200.2.2.2.1)
noncomputable def cellin_Take_b : AC :=
  (.seq (.region [⟨some 5, none, (.op (.box (.t 2))), []⟩,
    ⟨some 6, none, (.op (.alloc 34 (.tv YCell))), []⟩,
    ⟨some 7, none, (.op (.mv (.c (.tv (.int .i64) (0 : Int))))), []⟩])
  (.seq (.seq (.region [⟨some 14, none, (.op (.mv (.t 0))), []⟩,
    ⟨some 15, none, (.op (.eqp false (.t 14) (.c .nilp))), []⟩])
  (.cond (.t 15)
  (.seq (.region [⟨some 16, none, .op .bad, []⟩,
      ⟨none, none, .op .bad, []⟩,
      ⟨some 7, none, .op .bad, []⟩])
    .ret)
  .skip))
  (.seq (.region [⟨some 17, none, (.op (.mv (.t 0))), []⟩,
    ⟨some 18, none, (.call (.c (.fn 14 .nil .nil)) [((.t 17), none)]), []⟩,
    ⟨some 8, none, (.op (.mv (.t 18))), []⟩])
  (.seq (.region [⟨some 19, none, (.op (.mv (.t 0))), []⟩,
    ⟨some 20, none, (.op (.build 58 (.cons .nilp (.cons (.tv (.int .i64)) .nil)) [(0, (.fld 0 0), 1, (.t 19))])), []⟩,
    ⟨some 21, none, (.op (.box (.t 20))), []⟩,
    ⟨some 9, none, (.op (.mv (.t 21))), []⟩])
  (.seq (.region [⟨some 10, none, (.op (.alloc 34 (.tv YCell))), []⟩])
  (.seq (.seq (.region [⟨some 23, none, (.op (.mv (.t 9))), []⟩,
    ⟨some 24, none, (.op (.mv (.t 1))), []⟩,
    ⟨some 25, none, (.call (.c (.fn 24 .nil .nil)) [((.t 23), none), ((.t 24), none), ((.t 10), none)]), []⟩,
    ⟨some 22, none, (.op (.mv (.t 25))), []⟩,
    ⟨some 26, none, (.op (.ext (.t 22) 0)), []⟩,
    ⟨some 27, none, (.op (.ext (.t 22) 1)), []⟩,
    ⟨some 11, none, (.op (.mv (.t 26))), []⟩,
    ⟨some 12, none, (.op (.mv (.t 27))), []⟩])
  (.seq (.region [⟨some 28, none, (.op (.mv (.t 12))), []⟩])
  (.unit 0 cellin_Takeu0_d false cellin_Takeu0_b)))
  (.seq (.seq (.region [⟨some 38, none, (.op (.mv (.t 9))), []⟩,
    ⟨some 39, none, (.op (.nilc (.t 38))), []⟩,
    ⟨some 40, none, (.op (.fad 1 1 (.t 39))), []⟩,
    ⟨some 41, none, (.op (.load false 1 (.t 40))), []⟩,
    ⟨some 42, none, (.op (.bin .neq (.t 41) (.c (.tv (.int .i64) (0 : Int))))), []⟩])
  (.cond (.t 42)
  (.seq (.region [⟨some 43, none, (.op (.mv (.t 0))), []⟩,
      ⟨some 44, none, (.op (.mv (.t 8))), []⟩,
      ⟨some 45, none, (.call (.c (.fn 8 .nil .nil)) [((.t 43), none), ((.t 44), none)]), []⟩])
    (.seq (.draw [⟨some 46, none, (.op (.build 34 (.tv YCell) [])), []⟩,
      ⟨some 47, none, (.op (.mv (.t 9))), []⟩,
      ⟨some 48, none, (.op (.nilc (.t 47))), [1]⟩,
      ⟨some 49, none, (.op (.fad 1 1 (.t 48))), [1, 2]⟩,
      ⟨some 50, none, (.op (.load false 1 (.t 49))), [1, 2, 3]⟩,
      ⟨none, none, (.op (.store 18 none (.t 6) (.t 46))), [0]⟩,
      ⟨some 7, none, (.op (.mv (.t 50))), [0, 1, 2, 3, 4, 5]⟩])
    .ret))
  .skip))
  (.seq (.region [⟨some 51, none, (.op (.load true 18 (.t 10))), []⟩,
    ⟨none, none, (.op (.store 18 none (.t 6) (.t 51))), []⟩,
    ⟨some 7, none, (.op (.mv (.c (.tv (.int .i64) (0 : Int))))), []⟩])
  .ret))))))))
noncomputable def cellin_Take_f : FDef := ⟨3, 52, [.cell 6 18 true (some YCell), .tmp 7 none], cellin_Take_b⟩
noncomputable def cellin_Take_p : XPat := ⟨.normal, [(.ptr 0 []), (.tv .bool), (.tv (.arr 2 (.int .i64)))], [(.box (.tv YReader))]⟩
noncomputable def cellin_Take_x : List XPat := [⟨.ret, [(.tup (.cons (.tv YCell) (.cons (.tv (.int .i64)) .nil)))], [(.box (.tv YReader))]⟩]
noncomputable def cellin_Take_t (k : Nat) (d : cellin_Take_p.D) : Option (XD cellin_Take_x) := cellin_Take k d.1.2.1 d.1.2.2 d.2
noncomputable def cellin_Take_e (k : Nat) : UEntry := mkU cellin_Take_p cellin_Take_x (cellin_Take_t k) nilU
theorem cellin_Take_n (k : Nat) : UNat (cellin_Take_e k) := mkU_nat nilU_nat
theorem cellin_Take_m : mfn P cellin_Take_f Tryd.f10 = true := by kernel_rfl
theorem cellin_Take_fu (k : Nat) : FU P GL 10 (cellin_Take_e k) :=
  fn_typed (uorc := uorT (cellin_Take_U1 k)) hmo (T48_ok k).oo (cellin_Take_U1_ok k) (fd := cellin_Take_f) (AllU.seq (AllU.no (by kernel_rfl)) (AllU.seq (AllU.no (by kernel_rfl)) (AllU.seq (AllU.no (by kernel_rfl)) (AllU.seq (AllU.no (by kernel_rfl)) (AllU.seq (AllU.no (by kernel_rfl)) (AllU.seq (AllU.seq (AllU.no (by kernel_rfl)) (AllU.seq (AllU.no (by kernel_rfl)) (AllU.unit (uorc := uorT (cellin_Take_U1 k)) (u := 0) (cellin_Takeu0_ok k)))) (AllU.no (by kernel_rfl)))))))) (fn := Tryd.f10) (by kernel_rfl) cellin_Take_m (fun d => by kernel_rfl) FU_nil
noncomputable def T49 (k : Nat) : List (Nat × Ent) := (10, ⟨cellin_Take_e k⟩) :: T48 k
theorem T49_ok (k : Nat) : TabOK P GL (T49 k) := (T48_ok k).cons (cellin_Take_fu k) (cellin_Take_n k)
/-! ### overspill.overspilllaw21.lives -/
noncomputable def overspilllaw21_lives_U0 (_ : Nat) : List (Nat × Ent) := []
theorem overspilllaw21_lives_U0_ok (k : Nat) : UTab (overspilllaw21_lives_U0 k) := UTab.nil
noncomputable def overspilllaw21_lives (k : Nat) : Option (Bool) :=
  Option.bind (inbits_New k ([128] : List UInt8)) fun (v2 : (Unit) × (DReader)) =>
  Option.bind (cellin_Take k true (Ty.zero (.arr 2 (.int .i64))) v2.2) fun (v202 : ((DCell) × ((Int) × (Unit))) × (DReader)) =>
  Option.bind (inbits_New k ([124] : List UInt8)) fun (v203 : (Unit) × (DReader)) =>
  Option.bind (cellin_Take k true (List.set (List.set (Ty.zero (.arr 2 (.int .i64))) 0 3) 1 (-2)) v203.2) fun (v204 : ((DCell) × ((Int) × (Unit))) × (DReader)) =>
  bif v202.1.1.2.1 then
    bif (decide (v202.1.2.1 = 0)) then
      bif (decide (v204.1.1.2.2.1 = 0)) then
        bif (!v204.1.1.2.1) then
          bif (false ^^ Ty.eqB (.arr 2 (.int .i64)) v204.1.1.2.2.2.2.1 (List.set (List.set (Ty.zero (.arr 2 (.int .i64))) 0 3) 1 (-2))) then
            some (decide (v204.1.2.1 = 0))
          else
          some false
        else
        some false
      else
      some false
    else
    some false
  else
  some false
noncomputable def overspilllaw21_lives_b : AC :=
  (.seq (.region [⟨some 0, none, (.op (.mv (.c (.tv .bool (false : Bool))))), []⟩])
  (.seq (.region [⟨some 6, none, (.call (.c (.fn 7 .nil .nil)) [((.c (.tv .str (([128] : List UInt8) : List UInt8))), none)]), []⟩,
    ⟨some 7, none, (.op (.build 24 (.tv (.arr 2 (.int .i64))) [])), []⟩,
    ⟨some 8, none, (.call (.c (.fn 10 .nil .nil)) [((.t 6), none), ((.c (.tv .bool (true : Bool))), none), ((.t 7), some (.arr 2 (.int .i64)))]), []⟩,
    ⟨some 5, none, (.op (.mv (.t 8))), []⟩,
    ⟨some 9, none, (.op (.ext (.t 5) 0)), []⟩,
    ⟨some 10, none, (.op (.ext (.t 5) 1)), []⟩,
    ⟨some 1, none, (.op (.alloc 34 (.tv YCell))), []⟩,
    ⟨none, none, (.op (.store 18 none (.t 1) (.t 9))), []⟩,
    ⟨some 2, none, (.op (.mv (.t 10))), []⟩])
  (.seq (.region [⟨some 12, none, (.call (.c (.fn 7 .nil .nil)) [((.c (.tv .str (([124] : List UInt8) : List UInt8))), none)]), []⟩,
    ⟨some 13, none, (.op (.build 24 (.tv (.arr 2 (.int .i64))) [(0, (.idx 0 2 1), 1, (.c (.tv (.int .i64) (3 : Int)))), (1, (.idx 1 2 1), 1, (.c (.tv (.int .i64) ((-2) : Int))))])), []⟩,
    ⟨some 14, none, (.call (.c (.fn 10 .nil .nil)) [((.t 12), none), ((.c (.tv .bool (true : Bool))), none), ((.t 13), some (.arr 2 (.int .i64)))]), []⟩,
    ⟨some 11, none, (.op (.mv (.t 14))), []⟩,
    ⟨some 15, none, (.op (.ext (.t 11) 0)), []⟩,
    ⟨some 16, none, (.op (.ext (.t 11) 1)), []⟩,
    ⟨some 3, none, (.op (.alloc 34 (.tv YCell))), []⟩,
    ⟨none, none, (.op (.store 18 none (.t 3) (.t 15))), []⟩,
    ⟨some 4, none, (.op (.mv (.t 16))), []⟩])
  (.seq (.region [⟨some 17, none, (.op (.fad 1 1 (.t 1))), []⟩,
    ⟨some 18, none, (.op (.load false 1 (.t 17))), []⟩,
    ⟨some 19, none, (.op (.mv (.t 18))), []⟩,
    ⟨some 20, some (2, 19, true), (.op (.mv (.t 2))), []⟩,
    ⟨some 21, some (2, 19, true), (.op (.bin .eql (.t 20) (.c (.tv (.int .i64) (0 : Int))))), []⟩,
    ⟨some 22, none, (.op (.pick (.t 19) (.t 21) (.c (.tv .bool (false : Bool))))), []⟩,
    ⟨some 23, none, (.op (.mv (.t 22))), []⟩,
    ⟨some 24, some (6, 23, true), (.op (.fad 2 2 (.t 3))), []⟩,
    ⟨some 25, some (6, 23, true), (.op (.load false 1 (.t 24))), []⟩,
    ⟨some 26, some (6, 23, true), (.op (.bin .eql (.t 25) (.c (.tv (.int .i64) (0 : Int))))), []⟩,
    ⟨some 27, none, (.op (.pick (.t 23) (.t 26) (.c (.tv .bool (false : Bool))))), []⟩,
    ⟨some 28, none, (.op (.mv (.t 27))), []⟩,
    ⟨some 29, some (11, 28, true), (.op (.fad 1 1 (.t 3))), []⟩,
    ⟨some 30, some (11, 28, true), (.op (.load false 1 (.t 29))), []⟩,
    ⟨some 31, some (11, 28, true), (.op (.un .not (.t 30))), []⟩,
    ⟨some 32, none, (.op (.pick (.t 28) (.t 31) (.c (.tv .bool (false : Bool))))), []⟩,
    ⟨some 33, none, (.op (.mv (.t 32))), []⟩,
    ⟨some 34, some (16, 33, true), (.op (.fad 4 4 (.t 3))), []⟩,
    ⟨some 35, some (16, 33, true), (.op (.load true 2 (.t 34))), []⟩,
    ⟨some 36, some (16, 33, true), (.op (.build 24 (.tv (.arr 2 (.int .i64))) [(0, (.idx 0 2 1), 1, (.c (.tv (.int .i64) (3 : Int)))), (1, (.idx 1 2 1), 1, (.c (.tv (.int .i64) ((-2) : Int))))])), []⟩,
    ⟨some 37, some (16, 33, true), (.op (.eqa false (.arr 2 (.int .i64)) (.t 35) (.t 36))), []⟩,
    ⟨some 38, none, (.op (.pick (.t 33) (.t 37) (.c (.tv .bool (false : Bool))))), []⟩,
    ⟨some 39, none, (.op (.mv (.t 38))), []⟩,
    ⟨some 40, some (22, 39, true), (.op (.mv (.t 4))), []⟩,
    ⟨some 41, some (22, 39, true), (.op (.bin .eql (.t 40) (.c (.tv (.int .i64) (0 : Int))))), []⟩,
    ⟨some 42, none, (.op (.pick (.t 39) (.t 41) (.c (.tv .bool (false : Bool))))), []⟩,
    ⟨some 0, none, (.op (.mv (.t 42))), []⟩])
  .ret))))
noncomputable def overspilllaw21_lives_f : FDef := ⟨0, 43, [.tmp 0 none], overspilllaw21_lives_b⟩
noncomputable def overspilllaw21_lives_p : XPat := ⟨.normal, [], []⟩
noncomputable def overspilllaw21_lives_x : List XPat := [⟨.ret, [(.tv .bool)], []⟩]
noncomputable def overspilllaw21_lives_t (k : Nat) (d : overspilllaw21_lives_p.D) : Option (XD overspilllaw21_lives_x) := overspilllaw21_lives k
noncomputable def overspilllaw21_lives_e (k : Nat) : UEntry := mkU overspilllaw21_lives_p overspilllaw21_lives_x (overspilllaw21_lives_t k) nilU
theorem overspilllaw21_lives_n (k : Nat) : UNat (overspilllaw21_lives_e k) := mkU_nat nilU_nat
theorem overspilllaw21_lives_m : mfn P overspilllaw21_lives_f Tryd.f9 = true := by kernel_rfl
theorem overspilllaw21_lives_fu (k : Nat) : FU P GL 9 (overspilllaw21_lives_e k) :=
  fn_typed (uorc := uorT (overspilllaw21_lives_U0 k)) hmo (T49_ok k).oo (overspilllaw21_lives_U0_ok k) (fd := overspilllaw21_lives_f) (AllU.no (by kernel_rfl)) (fn := Tryd.f9) (by kernel_rfl) overspilllaw21_lives_m (fun d => by kernel_rfl) FU_nil
noncomputable def T50 (k : Nat) : List (Nat × Ent) := (9, ⟨overspilllaw21_lives_e k⟩) :: T49 k
theorem T50_ok (k : Nat) : TabOK P GL (T50 k) := (T49_ok k).cons (overspilllaw21_lives_fu k) (overspilllaw21_lives_n k)
/-! ### slices.Equal[[]overspill.api.Event,overspill.api.Event] -/
noncomputable def slices_Equal_Event_U0 (_ : Nat) : List (Nat × Ent) := []
theorem slices_Equal_Event_U0_ok (k : Nat) : UTab (slices_Equal_Event_U0 k) := UTab.nil
noncomputable def slices_Equal_Eventu0_d : UDef := ⟨[(0, none), (1, none), (12, none), (13, none)], [4, 5, 13, 14, 15, 16, 17, 18, 19, 20, 21, 22, 23, 24, 25], [(.ret, [(4, none)]), ((.exit 0), [])], []⟩
noncomputable def slices_Equal_Eventu0_p : XPat := ⟨.normal, [(.tv (.sl YEvent)), (.tv (.sl YEvent)), (.tv (.int .i64)), (.tv (.int .i64))], []⟩
noncomputable def slices_Equal_Eventu0_x : List XPat := [⟨.ret, [(.tv .bool)], []⟩, ⟨(.exit 0), [], []⟩]
noncomputable def slices_Equal_Eventu0 (k : Nat) : Nat → (List (DEvent)) → (List (DEvent)) → (Int) → (Int) → Option ((Bool) ⊕ (Unit))
  | 0, _, _, _, _ => none
  | n + 1, x0, x1, x2, x3 =>
    bif (decide (x3 < x2)) then
      bif (inR x3 (List.length x0)) then
        bif (inR x3 (List.length x1)) then
          bif (true ^^ Ty.eqB YEvent (List.getD x0 (Int.toNat x3) (false, (0, (0, ())))) (List.getD x1 (Int.toNat x3) (false, (0, (0, ()))))) then
            some (Sum.inl false)
          else
          Option.bind (slices_Equal_Eventu0 k n x0 x1 x2 (wr .i64 (x3 + 1))) fun r => Sum.elim (fun w => some (Sum.inl w)) (fun w => some (Sum.inr w)) r
        else
          none
      else
        none
    else
    some (Sum.inr ())
noncomputable def slices_Equal_Eventu0_b : AC :=
  (.seq (.region [⟨some 14, none, (.op (.bin .lss (.t 13) (.t 12))), []⟩])
  (.seq (.cond (.t 14)
  .skip
  (.exit 0))
  (.seq (.block 1 (.seq (.region [⟨some 15, none, (.op (.mv (.t 13))), []⟩,
    ⟨some 5, none, (.op (.mv (.t 15))), []⟩])
  (.seq (.draw [⟨some 16, none, (.op (.mv (.t 0))), []⟩,
    ⟨some 17, none, (.op (.mv (.t 5))), []⟩,
    ⟨some 18, none, (.op (.iads YEvent (.t 16) (.t 17))), [0, 1]⟩,
    ⟨some 19, none, (.op (.load true 3 (.t 18))), [0, 1, 2]⟩,
    ⟨some 20, none, (.op (.mv (.t 1))), []⟩,
    ⟨some 21, none, (.op (.mv (.t 5))), []⟩,
    ⟨some 22, none, (.op (.iads YEvent (.t 20) (.t 21))), [4, 5]⟩,
    ⟨some 23, none, (.op (.load true 3 (.t 22))), [4, 5, 6]⟩,
    ⟨some 24, none, (.op (.eqa true YEvent (.t 19) (.t 23))), [0, 1, 2, 3, 4, 5, 6, 7]⟩])
  (.cond (.t 24)
  (.seq (.region [⟨some 4, none, (.op (.mv (.c (.tv .bool (false : Bool))))), []⟩])
    .ret)
  .skip))))
  (.region [⟨some 25, none, (.op (.bin .add (.t 13) (.c (.tv (.int .i64) (1 : Int))))), []⟩,
    ⟨some 13, none, (.op (.mv (.t 25))), []⟩]))))
noncomputable def slices_Equal_Eventu0_t (k n : Nat) (d : slices_Equal_Eventu0_p.D) : Option (XD slices_Equal_Eventu0_x) := slices_Equal_Eventu0 k n d.1 d.2.1 d.2.2.1 d.2.2.2
theorem slices_Equal_Eventu0_ok (k : Nat) : UOK P GL (mkU slices_Equal_Eventu0_p slices_Equal_Eventu0_x (slices_Equal_Eventu0_t k k) nilU) slices_Equal_Eventu0_d true slices_Equal_Eventu0_b :=
  loop_typed (ud := slices_Equal_Eventu0_d) (body := slices_Equal_Eventu0_b) (uorc := uorT (slices_Equal_Event_U0 k)) hmo (T50_ok k).oo (slices_Equal_Event_U0_ok k) (AllU.no (by kernel_rfl)) (t := slices_Equal_Eventu0_t k) (fun d => by kernel_rfl) (fun n d => by kernel_rfl) k
noncomputable def slices_Equal_Event_U1 (k : Nat) : List (Nat × Ent) := (0, ⟨mkU slices_Equal_Eventu0_p slices_Equal_Eventu0_x (slices_Equal_Eventu0_t k k) nilU⟩) :: slices_Equal_Event_U0 k
theorem slices_Equal_Event_U1_ok (k : Nat) : UTab (slices_Equal_Event_U1 k) := (slices_Equal_Event_U0_ok k).cons (mkU_nat nilU_nat)
noncomputable def slices_Equal_Event (k : Nat) (x0 : List (DEvent)) (x1 : List (DEvent)) : Option (Bool) :=
  bif (!(decide (((List.length x0 : Nat) : Int) = ((List.length x1 : Nat) : Int)))) then
    some false
  else
  Option.bind (slices_Equal_Eventu0 k k x0 x1 ((List.length x0 : Nat) : Int) 0) fun r =>
  Sum.elim (fun (v211 : Bool) =>
    some v211)
    (fun (v212 : Unit) =>
    some true) r
noncomputable def slices_Equal_Event_b : AC :=
  (.seq (.region [⟨some 4, none, (.op (.mv (.c (.tv .bool (false : Bool))))), []⟩])
  (.seq (.seq (.region [⟨some 6, none, (.op (.mv (.t 0))), []⟩,
    ⟨some 7, none, (.op (.len (.t 6))), []⟩,
    ⟨some 8, none, (.op (.mv (.t 1))), []⟩,
    ⟨some 9, none, (.op (.len (.t 8))), []⟩,
    ⟨some 10, none, (.op (.bin .neq (.t 7) (.t 9))), []⟩])
  (.cond (.t 10)
  (.seq (.region [⟨some 4, none, (.op (.mv (.c (.tv .bool (false : Bool))))), []⟩])
    .ret)
  .skip))
  (.seq (.seq (.region [⟨some 11, none, (.op (.mv (.t 0))), []⟩,
    ⟨some 12, none, (.op (.len (.t 11))), []⟩,
    ⟨some 13, none, (.op (.mv (.c (.tv (.int .i64) (0 : Int))))), []⟩])
  (.block 0 (.unit 0 slices_Equal_Eventu0_d true slices_Equal_Eventu0_b)))
  (.seq (.region [⟨some 4, none, (.op (.mv (.c (.tv .bool (true : Bool))))), []⟩])
  .ret))))
noncomputable def slices_Equal_Event_f : FDef := ⟨2, 26, [.tmp 4 none], slices_Equal_Event_b⟩
noncomputable def slices_Equal_Event_p : XPat := ⟨.normal, [(.tv (.sl YEvent)), (.tv (.sl YEvent))], []⟩
noncomputable def slices_Equal_Event_x : List XPat := [⟨.ret, [(.tv .bool)], []⟩]
noncomputable def slices_Equal_Event_t (k : Nat) (d : slices_Equal_Event_p.D) : Option (XD slices_Equal_Event_x) := slices_Equal_Event k d.1 d.2
noncomputable def slices_Equal_Event_e (k : Nat) : UEntry := mkU slices_Equal_Event_p slices_Equal_Event_x (slices_Equal_Event_t k) nilU
theorem slices_Equal_Event_n (k : Nat) : UNat (slices_Equal_Event_e k) := mkU_nat nilU_nat
theorem slices_Equal_Event_m : mfn P slices_Equal_Event_f Tryd.f36 = true := by kernel_rfl
theorem slices_Equal_Event_fu (k : Nat) : FU P GL 36 (slices_Equal_Event_e k) :=
  fn_typed (uorc := uorT (slices_Equal_Event_U1 k)) hmo (T50_ok k).oo (slices_Equal_Event_U1_ok k) (fd := slices_Equal_Event_f) (AllU.seq (AllU.no (by kernel_rfl)) (AllU.seq (AllU.no (by kernel_rfl)) (AllU.seq (AllU.seq (AllU.no (by kernel_rfl)) (AllU.block (AllU.unit (uorc := uorT (slices_Equal_Event_U1 k)) (u := 0) (slices_Equal_Eventu0_ok k)))) (AllU.no (by kernel_rfl))))) (fn := Tryd.f36) (by kernel_rfl) slices_Equal_Event_m (fun d => by kernel_rfl) FU_nil
noncomputable def T51 (k : Nat) : List (Nat × Ent) := (36, ⟨slices_Equal_Event_e k⟩) :: T50 k
theorem T51_ok (k : Nat) : TabOK P GL (T51 k) := (T50_ok k).cons (slices_Equal_Event_fu k) (slices_Equal_Event_n k)
/-! ### overspill.cellin.Same -/
noncomputable def cellin_Same_U0 (_ : Nat) : List (Nat × Ent) := []
theorem cellin_Same_U0_ok (k : Nat) : UTab (cellin_Same_U0 k) := UTab.nil
noncomputable def cellin_Sameu0_d : UDef := ⟨[(2, none), (3, none)], [5, 7, 8, 9, 10, 11, 12, 13, 14, 15, 16, 17, 18, 19, 20, 21, 22, 23, 24, 25, 26, 27, 28, 29, 30, 31, 32, 33, 34, 35, 36, 37, 38, 39, 40, 41, 42, 43, 44, 45, 46], [(.normal, [(5, none)])], []⟩
noncomputable def cellin_Sameu0_p : XPat := ⟨.normal, [(.ptr 0 []), (.ptr 1 [])], [(.box (.tv YCell)), (.box (.tv YCell))]⟩
noncomputable def cellin_Sameu0_x : List XPat := [⟨.normal, [(.tv .bool)], [(.box (.tv YCell)), (.box (.tv YCell))]⟩]
noncomputable def cellin_Sameu0 (k : Nat) (x0 : DCell) (x1 : DCell) : Option ((Bool) × ((DCell) × (DCell))) :=
  bif (decide (x0.1 = x1.1)) then
    bif (false ^^ (x0.2.1 == x1.2.1)) then
      bif (decide (x0.2.2.1 = x1.2.2.1)) then
        bif (decide (x0.2.2.2.1 = x1.2.2.2.1)) then
          bif (false ^^ Ty.eqB (.arr 2 (.int .i64)) x0.2.2.2.2.1 x1.2.2.2.2.1) then
            some ((false ^^ Ty.eqB (.arr 6 (.int .i64)) x0.2.2.2.2.2.1 x1.2.2.2.2.2.1), (x0, x1))
          else
          some (false, (x0, x1))
        else
        some (false, (x0, x1))
      else
      some (false, (x0, x1))
    else
    some (false, (x0, x1))
  else
  some (false, (x0, x1))
noncomputable def cellin_Sameu0_b : AC :=
  (.region [⟨some 7, none, (.op (.fad 0 0 (.t 2))), []⟩,
    ⟨some 8, none, (.op (.load false 1 (.t 7))), []⟩,
    ⟨some 9, none, (.op (.fad 0 0 (.t 3))), []⟩,
    ⟨some 10, none, (.op (.load false 1 (.t 9))), []⟩,
    ⟨some 11, none, (.op (.bin .eql (.t 8) (.t 10))), []⟩,
    ⟨some 12, none, (.op (.mv (.t 11))), []⟩,
    ⟨some 13, some (5, 12, true), (.op (.fad 1 1 (.t 2))), []⟩,
    ⟨some 14, some (5, 12, true), (.op (.load false 1 (.t 13))), []⟩,
    ⟨some 15, some (5, 12, true), (.op (.fad 1 1 (.t 3))), []⟩,
    ⟨some 16, some (5, 12, true), (.op (.load false 1 (.t 15))), []⟩,
    ⟨some 17, some (5, 12, true), (.op (.eqb false (.t 14) (.t 16))), []⟩,
    ⟨some 18, none, (.op (.pick (.t 12) (.t 17) (.c (.tv .bool (false : Bool))))), []⟩,
    ⟨some 19, none, (.op (.mv (.t 18))), []⟩,
    ⟨some 20, some (12, 19, true), (.op (.fad 2 2 (.t 2))), []⟩,
    ⟨some 21, some (12, 19, true), (.op (.load false 1 (.t 20))), []⟩,
    ⟨some 22, some (12, 19, true), (.op (.fad 2 2 (.t 3))), []⟩,
    ⟨some 23, some (12, 19, true), (.op (.load false 1 (.t 22))), []⟩,
    ⟨some 24, some (12, 19, true), (.op (.bin .eql (.t 21) (.t 23))), []⟩,
    ⟨some 25, none, (.op (.pick (.t 19) (.t 24) (.c (.tv .bool (false : Bool))))), []⟩,
    ⟨some 26, none, (.op (.mv (.t 25))), []⟩,
    ⟨some 27, some (19, 26, true), (.op (.fad 3 3 (.t 2))), []⟩,
    ⟨some 28, some (19, 26, true), (.op (.load false 1 (.t 27))), []⟩,
    ⟨some 29, some (19, 26, true), (.op (.fad 3 3 (.t 3))), []⟩,
    ⟨some 30, some (19, 26, true), (.op (.load false 1 (.t 29))), []⟩,
    ⟨some 31, some (19, 26, true), (.op (.bin .eql (.t 28) (.t 30))), []⟩,
    ⟨some 32, none, (.op (.pick (.t 26) (.t 31) (.c (.tv .bool (false : Bool))))), []⟩,
    ⟨some 33, none, (.op (.mv (.t 32))), []⟩,
    ⟨some 34, some (26, 33, true), (.op (.fad 4 4 (.t 2))), []⟩,
    ⟨some 35, some (26, 33, true), (.op (.load true 2 (.t 34))), []⟩,
    ⟨some 36, some (26, 33, true), (.op (.fad 4 4 (.t 3))), []⟩,
    ⟨some 37, some (26, 33, true), (.op (.load true 2 (.t 36))), []⟩,
    ⟨some 38, some (26, 33, true), (.op (.eqa false (.arr 2 (.int .i64)) (.t 35) (.t 37))), []⟩,
    ⟨some 39, none, (.op (.pick (.t 33) (.t 38) (.c (.tv .bool (false : Bool))))), []⟩,
    ⟨some 40, none, (.op (.mv (.t 39))), []⟩,
    ⟨some 41, some (33, 40, true), (.op (.fad 5 6 (.t 2))), []⟩,
    ⟨some 42, some (33, 40, true), (.op (.load true 6 (.t 41))), []⟩,
    ⟨some 43, some (33, 40, true), (.op (.fad 5 6 (.t 3))), []⟩,
    ⟨some 44, some (33, 40, true), (.op (.load true 6 (.t 43))), []⟩,
    ⟨some 45, some (33, 40, true), (.op (.eqa false (.arr 6 (.int .i64)) (.t 42) (.t 44))), []⟩,
    ⟨some 46, none, (.op (.pick (.t 40) (.t 45) (.c (.tv .bool (false : Bool))))), []⟩,
    ⟨some 5, none, (.op (.mv (.t 46))), []⟩])
noncomputable def cellin_Sameu0_t (k : Nat) (d : cellin_Sameu0_p.D) : Option (XD cellin_Sameu0_x) := cellin_Sameu0 k d.2.1 d.2.2
theorem cellin_Sameu0_ok (k : Nat) : UOK P GL (mkU cellin_Sameu0_p cellin_Sameu0_x (cellin_Sameu0_t k) nilU) cellin_Sameu0_d false cellin_Sameu0_b :=
  unit_typed (ud := cellin_Sameu0_d) (body := cellin_Sameu0_b) (uorc := uorT (cellin_Same_U0 k)) hmo (T51_ok k).oo (cellin_Same_U0_ok k) (AllU.no (by kernel_rfl)) (fun d => by kernel_rfl)
noncomputable def cellin_Same_U1 (k : Nat) : List (Nat × Ent) := (0, ⟨mkU cellin_Sameu0_p cellin_Sameu0_x (cellin_Sameu0_t k) nilU⟩) :: cellin_Same_U0 k
theorem cellin_Same_U1_ok (k : Nat) : UTab (cellin_Same_U1 k) := (cellin_Same_U0_ok k).cons (mkU_nat nilU_nat)
noncomputable def cellin_Sameu1_d : UDef := ⟨[(2, none), (3, none), (5, none), (47, none)], [5, 6, 47, 48, 49, 50, 51, 52, 53, 54, 55, 56, 57, 58, 59, 60, 61, 62], [((.exit 0), [(5, none)])], []⟩
noncomputable def cellin_Sameu1_p : XPat := ⟨.normal, [(.ptr 0 []), (.ptr 1 []), (.tv .bool), (.tv (.int .i64))], [(.box (.tv YCell)), (.box (.tv YCell))]⟩
noncomputable def cellin_Sameu1_x : List XPat := [⟨(.exit 0), [(.tv .bool)], [(.box (.tv YCell)), (.box (.tv YCell))]⟩]
noncomputable def cellin_Sameu1 (k : Nat) : Nat → (Bool) → (Int) → (DCell) → (DCell) → Option ((Bool) × ((DCell) × (DCell)))
  | 0, _, _, _, _ => none
  | n + 1, x0, x1, x2, x3 =>
    bif (decide (x1 < 6)) then
      bif x0 then
        bif (inR x1 6) then
          bif (inR x1 6) then
            Option.bind (slices_Equal_Event k (List.getD x2.2.2.2.2.2.2.1 (Int.toNat x1) ([] : List (DEvent))) (List.getD x3.2.2.2.2.2.2.1 (Int.toNat x1) ([] : List (DEvent)))) fun (v214 : Bool) =>
            Option.bind (cellin_Sameu1 k n v214 (wr .i64 (x1 + 1)) x2 x3) fun r => some r
          else
            none
        else
          none
      else
      Option.bind (cellin_Sameu1 k n false (wr .i64 (x1 + 1)) x2 x3) fun r => some r
    else
    some (x0, (x2, x3))
noncomputable def cellin_Sameu1_b : AC :=
  (.seq (.region [⟨some 48, none, (.op (.bin .lss (.t 47) (.c (.tv (.int .i64) (6 : Int))))), []⟩])
  (.seq (.cond (.t 48)
  .skip
  (.exit 0))
  (.seq (.block 1 (.seq (.region [⟨some 49, none, (.op (.mv (.t 47))), []⟩,
    ⟨some 6, none, (.op (.mv (.t 49))), []⟩])
  (.draw [⟨some 50, none, (.op (.mv (.t 5))), []⟩,
    ⟨some 51, none, (.op (.mv (.t 50))), [0]⟩,
    ⟨some 52, some (1, 51, true), (.op (.mv (.t 6))), [0, 1]⟩,
    ⟨some 53, some (1, 51, true), (.op (.fad 6 12 (.t 2))), [0, 1]⟩,
    ⟨some 54, some (1, 51, true), (.op (.iad 6 1 (.t 53) (.t 52))), [0, 1, 2, 3]⟩,
    ⟨some 55, some (1, 51, true), (.op (.load false 1 (.t 54))), [0, 1, 2, 3, 4]⟩,
    ⟨some 56, some (1, 51, true), (.op (.mv (.t 6))), [0, 1]⟩,
    ⟨some 57, some (1, 51, true), (.op (.fad 6 12 (.t 3))), [0, 1]⟩,
    ⟨some 58, some (1, 51, true), (.op (.iad 6 1 (.t 57) (.t 56))), [0, 1, 6, 7]⟩,
    ⟨some 59, some (1, 51, true), (.op (.load false 1 (.t 58))), [0, 1, 6, 7, 8]⟩,
    ⟨some 60, some (1, 51, true), (.call (.c (.fn 36 .nil .nil)) [((.t 55), some (.sl YEvent)), ((.t 59), some (.sl YEvent))]), [0, 1, 2, 3, 4, 5, 6, 7, 8, 9]⟩,
    ⟨some 61, none, (.op (.pick (.t 51) (.t 60) (.c (.tv .bool (false : Bool))))), [0, 1, 2, 3, 4, 5, 6, 7, 8, 9, 10]⟩,
    ⟨some 5, none, (.op (.mv (.t 61))), [0, 1, 2, 3, 4, 5, 6, 7, 8, 9, 10, 11]⟩])))
  (.region [⟨some 62, none, (.op (.bin .add (.t 47) (.c (.tv (.int .i64) (1 : Int))))), []⟩,
    ⟨some 47, none, (.op (.mv (.t 62))), []⟩]))))
noncomputable def cellin_Sameu1_t (k n : Nat) (d : cellin_Sameu1_p.D) : Option (XD cellin_Sameu1_x) := cellin_Sameu1 k n d.1.2.2.1 d.1.2.2.2 d.2.1 d.2.2
theorem cellin_Sameu1_ok (k : Nat) : UOK P GL (mkU cellin_Sameu1_p cellin_Sameu1_x (cellin_Sameu1_t k k) nilU) cellin_Sameu1_d true cellin_Sameu1_b :=
  loop_typed (ud := cellin_Sameu1_d) (body := cellin_Sameu1_b) (uorc := uorT (cellin_Same_U1 k)) hmo (T51_ok k).oo (cellin_Same_U1_ok k) (AllU.no (by kernel_rfl)) (t := cellin_Sameu1_t k) (fun d => by kernel_rfl) (fun n d => by kernel_rfl) k
noncomputable def cellin_Same_U2 (k : Nat) : List (Nat × Ent) := (1, ⟨mkU cellin_Sameu1_p cellin_Sameu1_x (cellin_Sameu1_t k k) nilU⟩) :: cellin_Same_U1 k
theorem cellin_Same_U2_ok (k : Nat) : UTab (cellin_Same_U2 k) := (cellin_Same_U1_ok k).cons (mkU_nat nilU_nat)
noncomputable def cellin_Same (k : Nat) (x0 : DCell) (x1 : DCell) : Option (Bool) :=
  Option.bind (cellin_Sameu0 k x0 x1) fun (v210 : (Bool) × ((DCell) × (DCell))) =>
  Option.bind (cellin_Sameu1 k k v210.1 0 v210.2.1 v210.2.2) fun (v215 : (Bool) × ((DCell) × (DCell))) =>
  some v215.1
noncomputable def cellin_Same_b : AC :=
  (.seq (.region [⟨some 2, none, (.op (.box (.t 0))), []⟩,
    ⟨some 3, none, (.op (.box (.t 1))), []⟩,
    ⟨some 4, none, (.op (.mv (.c (.tv .bool (false : Bool))))), []⟩])
  (.seq (.unit 0 cellin_Sameu0_d false cellin_Sameu0_b)
  (.seq (.seq (.region [⟨some 47, none, (.op (.mv (.c (.tv (.int .i64) (0 : Int))))), []⟩])
  (.block 0 (.unit 1 cellin_Sameu1_d true cellin_Sameu1_b)))
  (.seq (.region [⟨some 63, none, (.op (.mv (.t 5))), []⟩,
    ⟨some 4, none, (.op (.mv (.t 63))), []⟩])
  .ret))))
noncomputable def cellin_Same_f : FDef := ⟨2, 64, [.tmp 4 none], cellin_Same_b⟩
noncomputable def cellin_Same_p : XPat := ⟨.normal, [(.tv YCell), (.tv YCell)], []⟩
noncomputable def cellin_Same_x : List XPat := [⟨.ret, [(.tv .bool)], []⟩]
noncomputable def cellin_Same_t (k : Nat) (d : cellin_Same_p.D) : Option (XD cellin_Same_x) := cellin_Same k d.1 d.2
noncomputable def cellin_Same_e (k : Nat) : UEntry := mkU cellin_Same_p cellin_Same_x (cellin_Same_t k) nilU
theorem cellin_Same_n (k : Nat) : UNat (cellin_Same_e k) := mkU_nat nilU_nat
theorem cellin_Same_m : mfn P cellin_Same_f Tryd.f15 = true := by kernel_rfl
theorem cellin_Same_fu (k : Nat) : FU P GL 15 (cellin_Same_e k) :=
  fn_typed (uorc := uorT (cellin_Same_U2 k)) hmo (T51_ok k).oo (cellin_Same_U2_ok k) (fd := cellin_Same_f) (AllU.seq (AllU.no (by kernel_rfl)) (AllU.seq (AllU.unit (uorc := uorT (cellin_Same_U2 k)) (u := 0) (cellin_Sameu0_ok k)) (AllU.seq (AllU.seq (AllU.no (by kernel_rfl)) (AllU.block (AllU.unit (uorc := uorT (cellin_Same_U2 k)) (u := 1) (cellin_Sameu1_ok k)))) (AllU.no (by kernel_rfl))))) (fn := Tryd.f15) (by kernel_rfl) cellin_Same_m (fun d => by kernel_rfl) FU_nil
noncomputable def T52 (k : Nat) : List (Nat × Ent) := (15, ⟨cellin_Same_e k⟩) :: T51 k
theorem T52_ok (k : Nat) : TabOK P GL (T52 k) := (T51_ok k).cons (cellin_Same_fu k) (cellin_Same_n k)
/-! ### overspill.overspillref10.Same -/
noncomputable def overspillref10_Same_U0 (_ : Nat) : List (Nat × Ent) := []
theorem overspillref10_Same_U0_ok (k : Nat) : UTab (overspillref10_Same_U0 k) := UTab.nil
noncomputable def overspillref10_Sameu0_d : UDef := ⟨[(0, none), (1, none), (5, none)], [4, 5, 11, 12, 13, 14, 15, 16, 17, 18, 19, 20, 21, 22, 23, 24, 25], [(.ret, [(4, none)]), ((.exit 0), [])], []⟩
noncomputable def overspillref10_Sameu0_p : XPat := ⟨.normal, [(.tv (.sl YEvent)), (.tv (.sl YEvent)), (.tv (.int .i64))], []⟩
noncomputable def overspillref10_Sameu0_x : List XPat := [⟨.ret, [(.tv .bool)], []⟩, ⟨(.exit 0), [], []⟩]
noncomputable def overspillref10_Sameu0 (k : Nat) : Nat → (List (DEvent)) → (List (DEvent)) → (Int) → Option ((Bool) ⊕ (Unit))
  | 0, _, _, _ => none
  | n + 1, x0, x1, x2 =>
    bif (decide (x2 < ((List.length x0 : Nat) : Int))) then
      bif (inR x2 (List.length x0)) then
        bif (inR x2 (List.length x1)) then
          bif (true ^^ Ty.eqB YEvent (List.getD x0 (Int.toNat x2) (false, (0, (0, ())))) (List.getD x1 (Int.toNat x2) (false, (0, (0, ()))))) then
            some (Sum.inl false)
          else
          Option.bind (overspillref10_Sameu0 k n x0 x1 (wr .i64 (x2 + 1))) fun r => Sum.elim (fun w => some (Sum.inl w)) (fun w => some (Sum.inr w)) r
        else
          none
      else
        none
    else
    some (Sum.inr ())
noncomputable def overspillref10_Sameu0_b : AC :=
  (.seq (.seq (.region [⟨some 11, none, (.op (.mv (.t 5))), []⟩,
    ⟨some 12, none, (.op (.mv (.t 0))), []⟩,
    ⟨some 13, none, (.op (.len (.t 12))), []⟩,
    ⟨some 14, none, (.op (.bin .lss (.t 11) (.t 13))), []⟩])
  (.cond (.t 14)
  .skip
  (.exit 0)))
  (.seq (.block 1 (.seq (.draw [⟨some 17, none, (.op (.mv (.t 0))), []⟩,
    ⟨some 18, none, (.op (.mv (.t 5))), []⟩,
    ⟨some 19, none, (.op (.iads YEvent (.t 17) (.t 18))), [0, 1]⟩,
    ⟨some 20, none, (.op (.load true 3 (.t 19))), [0, 1, 2]⟩,
    ⟨some 21, none, (.op (.mv (.t 1))), []⟩,
    ⟨some 22, none, (.op (.mv (.t 5))), []⟩,
    ⟨some 23, none, (.op (.iads YEvent (.t 21) (.t 22))), [4, 5]⟩,
    ⟨some 24, none, (.op (.load true 3 (.t 23))), [4, 5, 6]⟩,
    ⟨some 25, none, (.op (.eqa true YEvent (.t 20) (.t 24))), [0, 1, 2, 3, 4, 5, 6, 7]⟩])
  (.cond (.t 25)
  (.seq (.region [⟨some 4, none, (.op (.mv (.c (.tv .bool (false : Bool))))), []⟩])
    .ret)
  .skip)))
  (.region [⟨some 15, none, (.op (.mv (.t 5))), []⟩,
    ⟨some 16, none, (.op (.bin .add (.t 15) (.c (.tv (.int .i64) (1 : Int))))), []⟩,
    ⟨some 5, none, (.op (.mv (.t 16))), []⟩])))
noncomputable def overspillref10_Sameu0_t (k n : Nat) (d : overspillref10_Sameu0_p.D) : Option (XD overspillref10_Sameu0_x) := overspillref10_Sameu0 k n d.1 d.2.1 d.2.2
theorem overspillref10_Sameu0_ok (k : Nat) : UOK P GL (mkU overspillref10_Sameu0_p overspillref10_Sameu0_x (overspillref10_Sameu0_t k k) nilU) overspillref10_Sameu0_d true overspillref10_Sameu0_b :=
  loop_typed (ud := overspillref10_Sameu0_d) (body := overspillref10_Sameu0_b) (uorc := uorT (overspillref10_Same_U0 k)) hmo (T52_ok k).oo (overspillref10_Same_U0_ok k) (AllU.no (by kernel_rfl)) (t := overspillref10_Sameu0_t k) (fun d => by kernel_rfl) (fun n d => by kernel_rfl) k
noncomputable def overspillref10_Same_U1 (k : Nat) : List (Nat × Ent) := (0, ⟨mkU overspillref10_Sameu0_p overspillref10_Sameu0_x (overspillref10_Sameu0_t k k) nilU⟩) :: overspillref10_Same_U0 k
theorem overspillref10_Same_U1_ok (k : Nat) : UTab (overspillref10_Same_U1 k) := (overspillref10_Same_U0_ok k).cons (mkU_nat nilU_nat)
noncomputable def overspillref10_Same (k : Nat) (x0 : List (DEvent)) (x1 : List (DEvent)) : Option (Bool) :=
  bif (!(decide (((List.length x0 : Nat) : Int) = ((List.length x1 : Nat) : Int)))) then
    some false
  else
  Option.bind (overspillref10_Sameu0 k k x0 x1 0) fun r =>
  Sum.elim (fun (v218 : Bool) =>
    some v218)
    (fun (v219 : Unit) =>
    some true) r
noncomputable def overspillref10_Same_b : AC :=
  (.seq (.region [⟨some 4, none, (.op (.mv (.c (.tv .bool (false : Bool))))), []⟩])
  (.seq (.seq (.region [⟨some 6, none, (.op (.mv (.t 0))), []⟩,
    ⟨some 7, none, (.op (.len (.t 6))), []⟩,
    ⟨some 8, none, (.op (.mv (.t 1))), []⟩,
    ⟨some 9, none, (.op (.len (.t 8))), []⟩,
    ⟨some 10, none, (.op (.bin .neq (.t 7) (.t 9))), []⟩])
  (.cond (.t 10)
  (.seq (.region [⟨some 4, none, (.op (.mv (.c (.tv .bool (false : Bool))))), []⟩])
    .ret)
  .skip))
  (.seq (.seq (.region [⟨some 5, none, (.op (.mv (.c (.tv (.int .i64) (0 : Int))))), []⟩])
  (.block 0 (.unit 0 overspillref10_Sameu0_d true overspillref10_Sameu0_b)))
  (.seq (.region [⟨some 4, none, (.op (.mv (.c (.tv .bool (true : Bool))))), []⟩])
  .ret))))
noncomputable def overspillref10_Same_f : FDef := ⟨2, 26, [.tmp 4 none], overspillref10_Same_b⟩
noncomputable def overspillref10_Same_p : XPat := ⟨.normal, [(.tv (.sl YEvent)), (.tv (.sl YEvent))], []⟩
noncomputable def overspillref10_Same_x : List XPat := [⟨.ret, [(.tv .bool)], []⟩]
noncomputable def overspillref10_Same_t (k : Nat) (d : overspillref10_Same_p.D) : Option (XD overspillref10_Same_x) := overspillref10_Same k d.1 d.2
noncomputable def overspillref10_Same_e (k : Nat) : UEntry := mkU overspillref10_Same_p overspillref10_Same_x (overspillref10_Same_t k) nilU
theorem overspillref10_Same_n (k : Nat) : UNat (overspillref10_Same_e k) := mkU_nat nilU_nat
theorem overspillref10_Same_m : mfn P overspillref10_Same_f Tryd.f35 = true := by kernel_rfl
theorem overspillref10_Same_fu (k : Nat) : FU P GL 35 (overspillref10_Same_e k) :=
  fn_typed (uorc := uorT (overspillref10_Same_U1 k)) hmo (T52_ok k).oo (overspillref10_Same_U1_ok k) (fd := overspillref10_Same_f) (AllU.seq (AllU.no (by kernel_rfl)) (AllU.seq (AllU.no (by kernel_rfl)) (AllU.seq (AllU.seq (AllU.no (by kernel_rfl)) (AllU.block (AllU.unit (uorc := uorT (overspillref10_Same_U1 k)) (u := 0) (overspillref10_Sameu0_ok k)))) (AllU.no (by kernel_rfl))))) (fn := Tryd.f35) (by kernel_rfl) overspillref10_Same_m (fun d => by kernel_rfl) FU_nil
noncomputable def T53 (k : Nat) : List (Nat × Ent) := (35, ⟨overspillref10_Same_e k⟩) :: T52 k
theorem T53_ok (k : Nat) : TabOK P GL (T53 k) := (T52_ok k).cons (overspillref10_Same_fu k) (overspillref10_Same_n k)
/-! ### overspill.overspillref21.Same -/
noncomputable def overspillref21_Same_U0 (_ : Nat) : List (Nat × Ent) := []
theorem overspillref21_Same_U0_ok (k : Nat) : UTab (overspillref21_Same_U0 k) := UTab.nil
noncomputable def overspillref21_Sameu0_d : UDef := ⟨[(2, none), (3, none)], [6, 7, 8, 9, 10, 11, 12, 13, 14, 15, 16, 17, 18, 19, 20, 21, 22, 23, 24, 25, 26, 27, 28, 29, 30, 31, 32, 33, 34, 35, 36, 37, 38, 39, 40, 41, 42, 43, 44, 45], [(.normal, [(45, none)])], []⟩
noncomputable def overspillref21_Sameu0_p : XPat := ⟨.normal, [(.ptr 0 []), (.ptr 1 [])], [(.box (.tv YCell)), (.box (.tv YCell))]⟩
noncomputable def overspillref21_Sameu0_x : List XPat := [⟨.normal, [(.tv .bool)], [(.box (.tv YCell)), (.box (.tv YCell))]⟩]
noncomputable def overspillref21_Sameu0 (k : Nat) (x0 : DCell) (x1 : DCell) : Option ((Bool) × ((DCell) × (DCell))) :=
  bif (!(decide (x0.1 = x1.1))) then
    some (true, (x0, x1))
  else
  bif (true ^^ (x0.2.1 == x1.2.1)) then
    some (true, (x0, x1))
  else
  bif (!(decide (x0.2.2.1 = x1.2.2.1))) then
    some (true, (x0, x1))
  else
  bif (!(decide (x0.2.2.2.1 = x1.2.2.2.1))) then
    some (true, (x0, x1))
  else
  bif (true ^^ Ty.eqB (.arr 2 (.int .i64)) x0.2.2.2.2.1 x1.2.2.2.2.1) then
    some (true, (x0, x1))
  else
  some ((true ^^ Ty.eqB (.arr 6 (.int .i64)) x0.2.2.2.2.2.1 x1.2.2.2.2.2.1), (x0, x1))
noncomputable def overspillref21_Sameu0_b : AC :=
  (.region [⟨some 6, none, (.op (.fad 0 0 (.t 2))), []⟩,
    ⟨some 7, none, (.op (.load false 1 (.t 6))), []⟩,
    ⟨some 8, none, (.op (.fad 0 0 (.t 3))), []⟩,
    ⟨some 9, none, (.op (.load false 1 (.t 8))), []⟩,
    ⟨some 10, none, (.op (.bin .neq (.t 7) (.t 9))), []⟩,
    ⟨some 11, none, (.op (.mv (.t 10))), []⟩,
    ⟨some 12, some (5, 11, false), (.op (.fad 1 1 (.t 2))), []⟩,
    ⟨some 13, some (5, 11, false), (.op (.load false 1 (.t 12))), []⟩,
    ⟨some 14, some (5, 11, false), (.op (.fad 1 1 (.t 3))), []⟩,
    ⟨some 15, some (5, 11, false), (.op (.load false 1 (.t 14))), []⟩,
    ⟨some 16, some (5, 11, false), (.op (.eqb true (.t 13) (.t 15))), []⟩,
    ⟨some 17, none, (.op (.pick (.t 11) (.c (.tv .bool (true : Bool))) (.t 16))), []⟩,
    ⟨some 18, none, (.op (.mv (.t 17))), []⟩,
    ⟨some 19, some (12, 18, false), (.op (.fad 2 2 (.t 2))), []⟩,
    ⟨some 20, some (12, 18, false), (.op (.load false 1 (.t 19))), []⟩,
    ⟨some 21, some (12, 18, false), (.op (.fad 2 2 (.t 3))), []⟩,
    ⟨some 22, some (12, 18, false), (.op (.load false 1 (.t 21))), []⟩,
    ⟨some 23, some (12, 18, false), (.op (.bin .neq (.t 20) (.t 22))), []⟩,
    ⟨some 24, none, (.op (.pick (.t 18) (.c (.tv .bool (true : Bool))) (.t 23))), []⟩,
    ⟨some 25, none, (.op (.mv (.t 24))), []⟩,
    ⟨some 26, some (19, 25, false), (.op (.fad 3 3 (.t 2))), []⟩,
    ⟨some 27, some (19, 25, false), (.op (.load false 1 (.t 26))), []⟩,
    ⟨some 28, some (19, 25, false), (.op (.fad 3 3 (.t 3))), []⟩,
    ⟨some 29, some (19, 25, false), (.op (.load false 1 (.t 28))), []⟩,
    ⟨some 30, some (19, 25, false), (.op (.bin .neq (.t 27) (.t 29))), []⟩,
    ⟨some 31, none, (.op (.pick (.t 25) (.c (.tv .bool (true : Bool))) (.t 30))), []⟩,
    ⟨some 32, none, (.op (.mv (.t 31))), []⟩,
    ⟨some 33, some (26, 32, false), (.op (.fad 4 4 (.t 2))), []⟩,
    ⟨some 34, some (26, 32, false), (.op (.load true 2 (.t 33))), []⟩,
    ⟨some 35, some (26, 32, false), (.op (.fad 4 4 (.t 3))), []⟩,
    ⟨some 36, some (26, 32, false), (.op (.load true 2 (.t 35))), []⟩,
    ⟨some 37, some (26, 32, false), (.op (.eqa true (.arr 2 (.int .i64)) (.t 34) (.t 36))), []⟩,
    ⟨some 38, none, (.op (.pick (.t 32) (.c (.tv .bool (true : Bool))) (.t 37))), []⟩,
    ⟨some 39, none, (.op (.mv (.t 38))), []⟩,
    ⟨some 40, some (33, 39, false), (.op (.fad 5 6 (.t 2))), []⟩,
    ⟨some 41, some (33, 39, false), (.op (.load true 6 (.t 40))), []⟩,
    ⟨some 42, some (33, 39, false), (.op (.fad 5 6 (.t 3))), []⟩,
    ⟨some 43, some (33, 39, false), (.op (.load true 6 (.t 42))), []⟩,
    ⟨some 44, some (33, 39, false), (.op (.eqa true (.arr 6 (.int .i64)) (.t 41) (.t 43))), []⟩,
    ⟨some 45, none, (.op (.pick (.t 39) (.c (.tv .bool (true : Bool))) (.t 44))), []⟩])
noncomputable def overspillref21_Sameu0_t (k : Nat) (d : overspillref21_Sameu0_p.D) : Option (XD overspillref21_Sameu0_x) := overspillref21_Sameu0 k d.2.1 d.2.2
theorem overspillref21_Sameu0_ok (k : Nat) : UOK P GL (mkU overspillref21_Sameu0_p overspillref21_Sameu0_x (overspillref21_Sameu0_t k) nilU) overspillref21_Sameu0_d false overspillref21_Sameu0_b :=
  unit_typed (ud := overspillref21_Sameu0_d) (body := overspillref21_Sameu0_b) (uorc := uorT (overspillref21_Same_U0 k)) hmo (T53_ok k).oo (overspillref21_Same_U0_ok k) (AllU.no (by kernel_rfl)) (fun d => by kernel_rfl)
noncomputable def overspillref21_Same_U1 (k : Nat) : List (Nat × Ent) := (0, ⟨mkU overspillref21_Sameu0_p overspillref21_Sameu0_x (overspillref21_Sameu0_t k) nilU⟩) :: overspillref21_Same_U0 k
theorem overspillref21_Same_U1_ok (k : Nat) : UTab (overspillref21_Same_U1 k) := (overspillref21_Same_U0_ok k).cons (mkU_nat nilU_nat)
noncomputable def overspillref21_Sameu1_d : UDef := ⟨[(2, none), (3, none), (5, none)], [4, 5, 46, 47, 48, 49, 50, 51, 52, 53, 54, 55, 56, 57, 58, 59], [(.ret, [(4, none)]), ((.exit 0), [])], []⟩
noncomputable def overspillref21_Sameu1_p : XPat := ⟨.normal, [(.ptr 0 []), (.ptr 1 []), (.tv (.int .i64))], [(.box (.tv YCell)), (.box (.tv YCell))]⟩
noncomputable def overspillref21_Sameu1_x : List XPat := [⟨.ret, [(.tv .bool)], [(.box (.tv YCell)), (.box (.tv YCell))]⟩, ⟨(.exit 0), [], [(.box (.tv YCell)), (.box (.tv YCell))]⟩]
noncomputable def overspillref21_Sameu1 (k : Nat) : Nat → (Int) → (DCell) → (DCell) → Option (((Bool) × ((DCell) × (DCell))) ⊕ ((Unit) × ((DCell) × (DCell))))
  | 0, _, _, _ => none
  | n + 1, x0, x1, x2 =>
    bif (decide (x0 < 6)) then
      bif (inR x0 6) then
        bif (inR x0 6) then
          Option.bind (overspillref10_Same k (List.getD x1.2.2.2.2.2.2.1 (Int.toNat x0) ([] : List (DEvent))) (List.getD x2.2.2.2.2.2.2.1 (Int.toNat x0) ([] : List (DEvent)))) fun (v221 : Bool) =>
          bif (!v221) then
            some (Sum.inl (false, (x1, x2)))
          else
          Option.bind (overspillref21_Sameu1 k n (wr .i64 (x0 + 1)) x1 x2) fun r => Sum.elim (fun w => some (Sum.inl w)) (fun w => some (Sum.inr w)) r
        else
          none
      else
        none
    else
    some (Sum.inr ((), (x1, x2)))
noncomputable def overspillref21_Sameu1_b : AC :=
  (.seq (.seq (.region [⟨some 46, none, (.op (.mv (.t 5))), []⟩,
    ⟨some 47, none, (.op (.bin .lss (.t 46) (.c (.tv (.int .i64) (6 : Int))))), []⟩])
  (.cond (.t 47)
  .skip
  (.exit 0)))
  (.seq (.block 1 (.seq (.draw [⟨some 50, none, (.op (.mv (.t 5))), []⟩,
    ⟨some 51, none, (.op (.fad 6 12 (.t 2))), []⟩,
    ⟨some 52, none, (.op (.iad 6 1 (.t 51) (.t 50))), [0, 1]⟩,
    ⟨some 53, none, (.op (.load false 1 (.t 52))), [0, 1, 2]⟩,
    ⟨some 54, none, (.op (.mv (.t 5))), []⟩,
    ⟨some 55, none, (.op (.fad 6 12 (.t 3))), []⟩,
    ⟨some 56, none, (.op (.iad 6 1 (.t 55) (.t 54))), [4, 5]⟩,
    ⟨some 57, none, (.op (.load false 1 (.t 56))), [4, 5, 6]⟩,
    ⟨some 58, none, (.call (.c (.fn 35 .nil .nil)) [((.t 53), some (.sl YEvent)), ((.t 57), some (.sl YEvent))]), [0, 1, 2, 3, 4, 5, 6, 7]⟩,
    ⟨some 59, none, (.op (.un .not (.t 58))), [0, 1, 2, 3, 4, 5, 6, 7, 8]⟩])
  (.cond (.t 59)
  (.seq (.region [⟨some 4, none, (.op (.mv (.c (.tv .bool (false : Bool))))), []⟩])
    .ret)
  .skip)))
  (.region [⟨some 48, none, (.op (.mv (.t 5))), []⟩,
    ⟨some 49, none, (.op (.bin .add (.t 48) (.c (.tv (.int .i64) (1 : Int))))), []⟩,
    ⟨some 5, none, (.op (.mv (.t 49))), []⟩])))
noncomputable def overspillref21_Sameu1_t (k n : Nat) (d : overspillref21_Sameu1_p.D) : Option (XD overspillref21_Sameu1_x) := overspillref21_Sameu1 k n d.1.2.2 d.2.1 d.2.2
theorem overspillref21_Sameu1_ok (k : Nat) : UOK P GL (mkU overspillref21_Sameu1_p overspillref21_Sameu1_x (overspillref21_Sameu1_t k k) nilU) overspillref21_Sameu1_d true overspillref21_Sameu1_b :=
  loop_typed (ud := overspillref21_Sameu1_d) (body := overspillref21_Sameu1_b) (uorc := uorT (overspillref21_Same_U1 k)) hmo (T53_ok k).oo (overspillref21_Same_U1_ok k) (AllU.no (by kernel_rfl)) (t := overspillref21_Sameu1_t k) (fun d => by kernel_rfl) (fun n d => by kernel_rfl) k
noncomputable def overspillref21_Same_U2 (k : Nat) : List (Nat × Ent) := (1, ⟨mkU overspillref21_Sameu1_p overspillref21_Sameu1_x (overspillref21_Sameu1_t k k) nilU⟩) :: overspillref21_Same_U1 k
theorem overspillref21_Same_U2_ok (k : Nat) : UTab (overspillref21_Same_U2 k) := (overspillref21_Same_U1_ok k).cons (mkU_nat nilU_nat)
noncomputable def overspillref21_Same (k : Nat) (x0 : DCell) (x1 : DCell) : Option (Bool) :=
  Option.bind (overspillref21_Sameu0 k x0 x1) fun (v217 : (Bool) × ((DCell) × (DCell))) =>
  bif v217.1 then
    some false
  else
  Option.bind (overspillref21_Sameu1 k k 0 v217.2.1 v217.2.2) fun r =>
  Sum.elim (fun (v222 : (Bool) × ((DCell) × (DCell))) =>
    some v222.1)
    (fun (v223 : (Unit) × ((DCell) × (DCell))) =>
    some true) r
noncomputable def overspillref21_Same_b : AC :=
  (.seq (.region [⟨some 2, none, (.op (.box (.t 0))), []⟩,
    ⟨some 3, none, (.op (.box (.t 1))), []⟩,
    ⟨some 4, none, (.op (.mv (.c (.tv .bool (false : Bool))))), []⟩])
  (.seq (.seq (.unit 0 overspillref21_Sameu0_d false overspillref21_Sameu0_b)
  (.cond (.t 45)
  (.seq (.region [⟨some 4, none, (.op (.mv (.c (.tv .bool (false : Bool))))), []⟩])
    .ret)
  .skip))
  (.seq (.seq (.region [⟨some 5, none, (.op (.mv (.c (.tv (.int .i64) (0 : Int))))), []⟩])
  (.block 0 (.unit 1 overspillref21_Sameu1_d true overspillref21_Sameu1_b)))
  (.seq (.region [⟨some 4, none, (.op (.mv (.c (.tv .bool (true : Bool))))), []⟩])
  .ret))))
noncomputable def overspillref21_Same_f : FDef := ⟨2, 60, [.tmp 4 none], overspillref21_Same_b⟩
noncomputable def overspillref21_Same_p : XPat := ⟨.normal, [(.tv YCell), (.tv YCell)], []⟩
noncomputable def overspillref21_Same_x : List XPat := [⟨.ret, [(.tv .bool)], []⟩]
noncomputable def overspillref21_Same_t (k : Nat) (d : overspillref21_Same_p.D) : Option (XD overspillref21_Same_x) := overspillref21_Same k d.1 d.2
noncomputable def overspillref21_Same_e (k : Nat) : UEntry := mkU overspillref21_Same_p overspillref21_Same_x (overspillref21_Same_t k) nilU
theorem overspillref21_Same_n (k : Nat) : UNat (overspillref21_Same_e k) := mkU_nat nilU_nat
theorem overspillref21_Same_m : mfn P overspillref21_Same_f Tryd.f13 = true := by kernel_rfl
theorem overspillref21_Same_fu (k : Nat) : FU P GL 13 (overspillref21_Same_e k) :=
  fn_typed (uorc := uorT (overspillref21_Same_U2 k)) hmo (T53_ok k).oo (overspillref21_Same_U2_ok k) (fd := overspillref21_Same_f) (AllU.seq (AllU.no (by kernel_rfl)) (AllU.seq (AllU.seq (AllU.unit (uorc := uorT (overspillref21_Same_U2 k)) (u := 0) (overspillref21_Sameu0_ok k)) (AllU.no (by kernel_rfl))) (AllU.seq (AllU.seq (AllU.no (by kernel_rfl)) (AllU.block (AllU.unit (uorc := uorT (overspillref21_Same_U2 k)) (u := 1) (overspillref21_Sameu1_ok k)))) (AllU.no (by kernel_rfl))))) (fn := Tryd.f13) (by kernel_rfl) overspillref21_Same_m (fun d => by kernel_rfl) FU_nil
noncomputable def T54 (k : Nat) : List (Nat × Ent) := (13, ⟨overspillref21_Same_e k⟩) :: T53 k
theorem T54_ok (k : Nat) : TabOK P GL (T54 k) := (T53_ok k).cons (overspillref21_Same_fu k) (overspillref21_Same_n k)
/-! ### overspill.overspilllaw21.CellinSame -/
noncomputable def overspilllaw21_CellinSame_U0 (_ : Nat) : List (Nat × Ent) := []
theorem overspilllaw21_CellinSame_U0_ok (k : Nat) : UTab (overspilllaw21_CellinSame_U0 k) := UTab.nil
noncomputable def overspilllaw21_CellinSameu0_d : UDef := ⟨[(2, none), (3, none), (5, none)], [10, 11, 12, 13, 14, 15, 16, 17, 18, 19, 20, 21, 22, 23], [(.normal, [(23, none)])], []⟩
noncomputable def overspilllaw21_CellinSameu0_p : XPat := ⟨.normal, [(.ptr 0 []), (.ptr 1 []), (.tv (.int .i64))], [(.box (.tv YCell)), (.box (.tv YCell))]⟩
noncomputable def overspilllaw21_CellinSameu0_x : List XPat := [⟨.normal, [(.tv .bool)], [(.box (.tv YCell)), (.box (.tv YCell))]⟩]
noncomputable def overspilllaw21_CellinSameu0 (k : Nat) (x0 : Int) (x1 : DCell) (x2 : DCell) : Option ((Bool) × ((DCell) × (DCell))) :=
  bif (inR x0 6) then
    bif (decide ((100 : Int) < ((List.length (List.getD x1.2.2.2.2.2.2.1 (Int.toNat x0) ([] : List (DEvent))) : Nat) : Int))) then
      some (true, (x1, x2))
    else
    bif (inR x0 6) then
      some ((decide ((100 : Int) < ((List.length (List.getD x2.2.2.2.2.2.2.1 (Int.toNat x0) ([] : List (DEvent))) : Nat) : Int))), (x1, x2))
    else
      none
  else
    none
noncomputable def overspilllaw21_CellinSameu0_b : AC :=
  (.region [⟨some 10, none, (.op (.mv (.t 5))), []⟩,
    ⟨some 11, none, (.op (.fad 6 12 (.t 2))), []⟩,
    ⟨some 12, none, (.op (.iad 6 1 (.t 11) (.t 10))), []⟩,
    ⟨some 13, none, (.op (.load false 1 (.t 12))), []⟩,
    ⟨some 14, none, (.op (.len (.t 13))), []⟩,
    ⟨some 15, none, (.op (.bin .gtr (.t 14) (.c (.tv (.int .i64) (100 : Int))))), []⟩,
    ⟨some 16, none, (.op (.mv (.t 15))), []⟩,
    ⟨some 17, some (6, 16, false), (.op (.mv (.t 5))), []⟩,
    ⟨some 18, some (6, 16, false), (.op (.fad 6 12 (.t 3))), []⟩,
    ⟨some 19, some (6, 16, false), (.op (.iad 6 1 (.t 18) (.t 17))), []⟩,
    ⟨some 20, some (6, 16, false), (.op (.load false 1 (.t 19))), []⟩,
    ⟨some 21, some (6, 16, false), (.op (.len (.t 20))), []⟩,
    ⟨some 22, some (6, 16, false), (.op (.bin .gtr (.t 21) (.c (.tv (.int .i64) (100 : Int))))), []⟩,
    ⟨some 23, none, (.op (.pick (.t 16) (.c (.tv .bool (true : Bool))) (.t 22))), []⟩])
noncomputable def overspilllaw21_CellinSameu0_t (k : Nat) (d : overspilllaw21_CellinSameu0_p.D) : Option (XD overspilllaw21_CellinSameu0_x) := overspilllaw21_CellinSameu0 k d.1.2.2 d.2.1 d.2.2
theorem overspilllaw21_CellinSameu0_ok (k : Nat) : UOK P GL (mkU overspilllaw21_CellinSameu0_p overspilllaw21_CellinSameu0_x (overspilllaw21_CellinSameu0_t k) nilU) overspilllaw21_CellinSameu0_d false overspilllaw21_CellinSameu0_b :=
  unit_typed (ud := overspilllaw21_CellinSameu0_d) (body := overspilllaw21_CellinSameu0_b) (uorc := uorT (overspilllaw21_CellinSame_U0 k)) hmo (T54_ok k).oo (overspilllaw21_CellinSame_U0_ok k) (AllU.no (by kernel_rfl)) (fun d => by kernel_rfl)
noncomputable def overspilllaw21_CellinSame_U1 (k : Nat) : List (Nat × Ent) := (0, ⟨mkU overspilllaw21_CellinSameu0_p overspilllaw21_CellinSameu0_x (overspilllaw21_CellinSameu0_t k) nilU⟩) :: overspilllaw21_CellinSame_U0 k
theorem overspilllaw21_CellinSame_U1_ok (k : Nat) : UTab (overspilllaw21_CellinSame_U1 k) := (overspilllaw21_CellinSame_U0_ok k).cons (mkU_nat nilU_nat)
noncomputable def overspilllaw21_CellinSameu1_d : UDef := ⟨[(2, none), (3, none), (5, none)], [4, 5, 6, 7, 8, 9, 10, 11, 12, 13, 14, 15, 16, 17, 18, 19, 20, 21, 22, 23, 24], [(.ret, [(4, none)]), ((.exit 0), [])], []⟩
noncomputable def overspilllaw21_CellinSameu1_p : XPat := ⟨.normal, [(.ptr 0 []), (.ptr 1 []), (.tv (.int .i64))], [(.box (.tv YCell)), (.box (.tv YCell))]⟩
noncomputable def overspilllaw21_CellinSameu1_x : List XPat := [⟨.ret, [(.tv .bool)], [(.box (.tv YCell)), (.box (.tv YCell))]⟩, ⟨(.exit 0), [], [(.box (.tv YCell)), (.box (.tv YCell))]⟩]
noncomputable def overspilllaw21_CellinSameu1 (k : Nat) : Nat → (Int) → (DCell) → (DCell) → Option (((Bool) × ((DCell) × (DCell))) ⊕ ((Unit) × ((DCell) × (DCell))))
  | 0, _, _, _ => none
  | n + 1, x0, x1, x2 =>
    bif (decide (x0 < 6)) then
      Option.bind (overspilllaw21_CellinSameu0 k x0 x1 x2) fun (v206 : (Bool) × ((DCell) × (DCell))) =>
      bif v206.1 then
        Option.bind (overspilllaw21_lives k) fun (v207 : Bool) =>
        some (Sum.inl (v207, (v206.2.1, v206.2.2)))
      else
      Option.bind (overspilllaw21_CellinSameu1 k n (wr .i64 (x0 + 1)) v206.2.1 v206.2.2) fun r => Sum.elim (fun w => some (Sum.inl w)) (fun w => some (Sum.inr w)) r
    else
    some (Sum.inr ((), (x1, x2)))
noncomputable def overspilllaw21_CellinSameu1_b : AC :=
  (.seq (.seq (.region [⟨some 6, none, (.op (.mv (.t 5))), []⟩,
    ⟨some 7, none, (.op (.bin .lss (.t 6) (.c (.tv (.int .i64) (6 : Int))))), []⟩])
  (.cond (.t 7)
  .skip
  (.exit 0)))
  (.seq (.block 1 (.seq (.unit 0 overspilllaw21_CellinSameu0_d false overspilllaw21_CellinSameu0_b)
  (.cond (.t 23)
  (.seq (.region [⟨some 24, none, (.call (.c (.fn 9 .nil .nil)) []), []⟩,
      ⟨some 4, none, (.op (.mv (.t 24))), []⟩])
    .ret)
  .skip)))
  (.region [⟨some 8, none, (.op (.mv (.t 5))), []⟩,
    ⟨some 9, none, (.op (.bin .add (.t 8) (.c (.tv (.int .i64) (1 : Int))))), []⟩,
    ⟨some 5, none, (.op (.mv (.t 9))), []⟩])))
noncomputable def overspilllaw21_CellinSameu1_t (k n : Nat) (d : overspilllaw21_CellinSameu1_p.D) : Option (XD overspilllaw21_CellinSameu1_x) := overspilllaw21_CellinSameu1 k n d.1.2.2 d.2.1 d.2.2
theorem overspilllaw21_CellinSameu1_ok (k : Nat) : UOK P GL (mkU overspilllaw21_CellinSameu1_p overspilllaw21_CellinSameu1_x (overspilllaw21_CellinSameu1_t k k) nilU) overspilllaw21_CellinSameu1_d true overspilllaw21_CellinSameu1_b :=
  loop_typed (ud := overspilllaw21_CellinSameu1_d) (body := overspilllaw21_CellinSameu1_b) (uorc := uorT (overspilllaw21_CellinSame_U1 k)) hmo (T54_ok k).oo (overspilllaw21_CellinSame_U1_ok k) (AllU.seq (AllU.no (by kernel_rfl)) (AllU.seq (AllU.block (AllU.seq (AllU.unit (uorc := uorT (overspilllaw21_CellinSame_U1 k)) (u := 0) (overspilllaw21_CellinSameu0_ok k)) (AllU.no (by kernel_rfl)))) (AllU.no (by kernel_rfl)))) (t := overspilllaw21_CellinSameu1_t k) (fun d => by kernel_rfl) (fun n d => by kernel_rfl) k
noncomputable def overspilllaw21_CellinSame_U2 (k : Nat) : List (Nat × Ent) := (1, ⟨mkU overspilllaw21_CellinSameu1_p overspilllaw21_CellinSameu1_x (overspilllaw21_CellinSameu1_t k k) nilU⟩) :: overspilllaw21_CellinSame_U1 k
theorem overspilllaw21_CellinSame_U2_ok (k : Nat) : UTab (overspilllaw21_CellinSame_U2 k) := (overspilllaw21_CellinSame_U1_ok k).cons (mkU_nat nilU_nat)
noncomputable def overspilllaw21_CellinSame (k : Nat) (x0 : DCell) (x1 : DCell) : Option (Bool) :=
  Option.bind (overspilllaw21_CellinSameu1 k k 0 x0 x1) fun r =>
  Sum.elim (fun (v208 : (Bool) × ((DCell) × (DCell))) =>
    some v208.1)
    (fun (v209 : (Unit) × ((DCell) × (DCell))) =>
    Option.bind (cellin_Same k v209.2.1 v209.2.2) fun (v216 : Bool) =>
    Option.bind (overspillref21_Same k v209.2.1 v209.2.2) fun (v224 : Bool) =>
    bif (false ^^ (v216 == v224)) then
      Option.bind (cellin_Same k v209.2.1 v209.2.1) fun (v225 : Bool) =>
      bif v225 then
        Option.bind (cellin_Same k v209.2.2 v209.2.2) fun (v226 : Bool) =>
        bif v226 then
          Option.bind (overspilllaw21_lives k) fun (v227 : Bool) =>
          some v227
        else
        some false
      else
      some false
    else
    some false) r
noncomputable def overspilllaw21_CellinSame_b : AC :=
  (.seq (.region [⟨some 2, none, (.op (.box (.t 0))), []⟩,
    ⟨some 3, none, (.op (.box (.t 1))), []⟩,
    ⟨some 4, none, (.op (.mv (.c (.tv .bool (false : Bool))))), []⟩])
  (.seq (.seq (.region [⟨some 5, none, (.op (.mv (.c (.tv (.int .i64) (0 : Int))))), []⟩])
  (.block 0 (.unit 1 overspilllaw21_CellinSameu1_d true overspilllaw21_CellinSameu1_b)))
  (.seq (.draw [⟨some 25, none, (.op (.load true 18 (.t 2))), []⟩,
    ⟨some 26, none, (.op (.load true 18 (.t 3))), []⟩,
    ⟨some 27, none, (.call (.c (.fn 15 .nil .nil)) [((.t 25), some YCell), ((.t 26), some YCell)]), [0, 1]⟩,
    ⟨some 28, none, (.op (.load true 18 (.t 2))), []⟩,
    ⟨some 29, none, (.op (.load true 18 (.t 3))), []⟩,
    ⟨some 30, none, (.call (.c (.fn 13 .nil .nil)) [((.t 28), some YCell), ((.t 29), some YCell)]), [0, 1, 2, 3, 4]⟩,
    ⟨some 31, none, (.op (.eqb false (.t 27) (.t 30))), [0, 1, 2, 3, 4, 5]⟩,
    ⟨some 32, none, (.op (.mv (.t 31))), [0, 1, 2, 3, 4, 5, 6]⟩,
    ⟨some 33, some (7, 32, true), (.op (.load true 18 (.t 2))), [0, 1, 2, 3, 4, 5, 6, 7]⟩,
    ⟨some 34, some (7, 32, true), (.op (.load true 18 (.t 2))), [0, 1, 2, 3, 4, 5, 6, 7]⟩,
    ⟨some 35, some (7, 32, true), (.call (.c (.fn 15 .nil .nil)) [((.t 33), some YCell), ((.t 34), some YCell)]), [0, 1, 2, 3, 4, 5, 6, 7, 8, 9]⟩,
    ⟨some 36, none, (.op (.pick (.t 32) (.t 35) (.c (.tv .bool (false : Bool))))), [0, 1, 2, 3, 4, 5, 6, 7, 8, 9, 10]⟩,
    ⟨some 37, none, (.op (.mv (.t 36))), [0, 1, 2, 3, 4, 5, 6, 7, 8, 9, 10, 11]⟩,
    ⟨some 38, some (12, 37, true), (.op (.load true 18 (.t 3))), [0, 1, 2, 3, 4, 5, 6, 7, 8, 9, 10, 11, 12]⟩,
    ⟨some 39, some (12, 37, true), (.op (.load true 18 (.t 3))), [0, 1, 2, 3, 4, 5, 6, 7, 8, 9, 10, 11, 12]⟩,
    ⟨some 40, some (12, 37, true), (.call (.c (.fn 15 .nil .nil)) [((.t 38), some YCell), ((.t 39), some YCell)]), [0, 1, 2, 3, 4, 5, 6, 7, 8, 9, 10, 11, 12, 13, 14]⟩,
    ⟨some 41, none, (.op (.pick (.t 37) (.t 40) (.c (.tv .bool (false : Bool))))), [0, 1, 2, 3, 4, 5, 6, 7, 8, 9, 10, 11, 12, 13, 14, 15]⟩,
    ⟨some 42, none, (.op (.mv (.t 41))), [0, 1, 2, 3, 4, 5, 6, 7, 8, 9, 10, 11, 12, 13, 14, 15, 16]⟩,
    ⟨some 43, some (17, 42, true), (.call (.c (.fn 9 .nil .nil)) []), [0, 1, 2, 3, 4, 5, 6, 7, 8, 9, 10, 11, 12, 13, 14, 15, 16, 17]⟩,
    ⟨some 44, none, (.op (.pick (.t 42) (.t 43) (.c (.tv .bool (false : Bool))))), [0, 1, 2, 3, 4, 5, 6, 7, 8, 9, 10, 11, 12, 13, 14, 15, 16, 17, 18]⟩,
    ⟨some 4, none, (.op (.mv (.t 44))), [0, 1, 2, 3, 4, 5, 6, 7, 8, 9, 10, 11, 12, 13, 14, 15, 16, 17, 18, 19]⟩])
  .ret)))
noncomputable def overspilllaw21_CellinSame_f : FDef := ⟨2, 45, [.tmp 4 none], overspilllaw21_CellinSame_b⟩
noncomputable def overspilllaw21_CellinSame_p : XPat := ⟨.normal, [(.tv YCell), (.tv YCell)], []⟩
noncomputable def overspilllaw21_CellinSame_x : List XPat := [⟨.ret, [(.tv .bool)], []⟩]
noncomputable def overspilllaw21_CellinSame_t (k : Nat) (d : overspilllaw21_CellinSame_p.D) : Option (XD overspilllaw21_CellinSame_x) := overspilllaw21_CellinSame k d.1 d.2
noncomputable def overspilllaw21_CellinSame_e (k : Nat) : UEntry := mkU overspilllaw21_CellinSame_p overspilllaw21_CellinSame_x (overspilllaw21_CellinSame_t k) nilU
theorem overspilllaw21_CellinSame_n (k : Nat) : UNat (overspilllaw21_CellinSame_e k) := mkU_nat nilU_nat
theorem overspilllaw21_CellinSame_m : mfn P overspilllaw21_CellinSame_f Tryd.f4 = true := by kernel_rfl
theorem overspilllaw21_CellinSame_fu (k : Nat) : FU P GL 4 (overspilllaw21_CellinSame_e k) :=
  fn_typed (uorc := uorT (overspilllaw21_CellinSame_U2 k)) hmo (T54_ok k).oo (overspilllaw21_CellinSame_U2_ok k) (fd := overspilllaw21_CellinSame_f) (AllU.seq (AllU.no (by kernel_rfl)) (AllU.seq (AllU.seq (AllU.no (by kernel_rfl)) (AllU.block (AllU.unit (uorc := uorT (overspilllaw21_CellinSame_U2 k)) (u := 1) (overspilllaw21_CellinSameu1_ok k)))) (AllU.no (by kernel_rfl)))) (fn := Tryd.f4) (by kernel_rfl) overspilllaw21_CellinSame_m (fun d => by kernel_rfl) FU_nil
noncomputable def T55 (k : Nat) : List (Nat × Ent) := (4, ⟨overspilllaw21_CellinSame_e k⟩) :: T54 k
theorem T55_ok (k : Nat) : TabOK P GL (T55 k) := (T54_ok k).cons (overspilllaw21_CellinSame_fu k) (overspilllaw21_CellinSame_n k)
end Go.Proofs.YtlemoepklgfjoaaDoor
