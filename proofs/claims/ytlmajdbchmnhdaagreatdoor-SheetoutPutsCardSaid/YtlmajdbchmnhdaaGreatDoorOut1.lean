/-
  The functions of the program as typed functions; each is what the machine's call tells. Printed by a program of mine.
-/
import Derived.Test.YtlmajdbchmnhdaaGreatDoorM3
import Derived.Test.YtlmajdbchmnhdaaGreatDoorProg
set_option maxRecDepth 100000
namespace Go.Proofs.YtlmajdbchmnhdaaGreatDoor
open Go Go.Av

noncomputable abbrev P : Program := Tryz.prog
theorem hmo : P.follows .mixedOrders = true := by kernel_rfl
abbrev wr (k : IntKind) (x : Int) : Int := k.wrap x
def tbl0 : List Int := [1, 1, 1, 1, 3, 5, 4, 3, 11, 10, 9, 17, 16, 15, 14, 13, 12, 11, 10, 9, 8, 7, 6, 5, 4, 7, 6, 5, 4, 3, 2, 3, 2]
def tbl1 : List Int := [2, 15, 21, 23, 31, 37, 36, 33, 32, 7, 6, 32, 6, 20, 30, 15, 33, 80, 14, 29, 14, 81, 13, 35, 13, 12, 34, 82, 11, 12, 83, 19, 11, 84, 18, 10, 17, 9, 16, 8, 22, 85, 21, 20, 28, 27, 33, 32, 31, 30, 29, 28, 27, 26, 34, 35, 86, 87, 7, 25, 5, 15, 4, 14, 13, 12, 19, 18, 17, 16, 26, 25, 24, 23, 22, 21, 20, 19, 24, 23, 22, 21, 20, 19, 18, 17, 7, 6, 5, 4, 36, 37, 38, 39, 88, 89, 90, 91, 92, 93, 94, 95]
def tbl2 : List Int := [2, 4, 6, 7, 8, 9, 9, 10, 10, 11, 11, 11, 3, 6, 8, 10, 11, 12, 4, 8, 10, 12, 5, 9, 10, 5, 9, 12, 5, 10, 12, 6, 10, 12, 6, 10, 6, 10, 6, 10, 7, 12, 7, 7, 8, 8, 9, 9, 9, 9, 9, 9, 9, 9, 11, 11, 12, 12, 4, 9, 11, 6, 11, 6, 6, 6, 7, 7, 7, 7, 8, 8, 8, 8, 8, 8, 8, 8, 9, 9, 9, 9, 9, 9, 9, 9, 10, 10, 10, 10, 11, 11, 11, 11, 12, 12, 12, 12, 12, 12, 12, 12]
def tbl3 : List Int := [0, 0, 0, 0, 0, 0, 0, 0, 0, 1, 1, 1, 1, 1, 0, 0, 0, 0, 0, 0, 0, 0, 0, 0, 0, 0, 0, 0, 0, 0, 0, 0, 1, 0, 0, 0, 0, 0, 0, 0, 0, 0, 0, 0, 0, 0, 0, 0, 0, 0, 0, 0, 0, 0, 0, 0, 0, 0, 0, 0, 0, 0, 0, 0, 0, 0, 0, 0, 0, 0, 0, 0, 0, 0, 0, 0, 0, 0, 0, 0, 0, 0, 0, 0, 0, 0, 0, 0, 0, 0, 0, 0, 0, 0, 0, 0, 0, 0, 0, 0, 0, 0, 0, 0, 0, 0, 0, 0, 0, 0, 0, 0, 0, 0, 0, 0, 0, 0, 0, 0, 0, 0, 0, 0, 0, 0, 0, 0, 0, 0, 0, 0, 0, 0, 0, 0, 0, 0, 0, 0, 0, 0, 0, 0, 0, 0, 0, 0, 0, 0, 0, 0, 0, 0, 0, 0, 0, 0, 0, 0, 0, 0, 0, 0, 0, 0, 0, 0, 0, 0, 0, 0, 0, 0, 0, 0, 0, 0, 0, 0, 0, 0, 0, 0, 0, 0, 0, 0, 0, 0, 0, 0, 0, 0, 0, 0, 0, 0, 0, 0, 0, 0, 0, 0, 0, 0, 0, 0, 0, 0, 0, 0, 0, 0, 0, 0, 0, 0, 0, 0, 0, 0, 0, 0, 0, 0, 0, 0, 0, 0, 0, 0, 0, 0, 0, 0, 0, 0, 0, 0, 0, 0, 0, 0, 0, 0, 0, 0, 0, 0, 0, 0, 0, 0, 0, 0]
noncomputable def GL : Nat → AV := fun n => bif Nat.beq n 0 then .fp (.arr 33 (.int .i64)) tbl0 else bif Nat.beq n 1 then .fp (.arr 102 (.int .i64)) tbl1 else bif Nat.beq n 2 then .fp (.arr 102 (.int .i64)) tbl2 else bif Nat.beq n 3 then .fp (.arr 256 (.int .u8)) tbl3 else .dead
noncomputable def T0 (_ : Nat) : List (Nat × Ent) := []
theorem T0_ok (k : Nat) : TabOK P GL (T0 k) := TabOK.nil
abbrev YEvent : Ty := (.pr .bool (.pr (.int .i64) (.pr (.int .i64) .nil)))
abbrev YCell : Ty := (.pr (.int .i64) (.pr .bool (.pr (.int .i64) (.pr (.int .i64) (.pr (.arr 2 (.int .i64)) (.pr (.arr 6 (.int .i64)) (.pr (.arr 6 (.sl YEvent)) .nil)))))))
abbrev YRow : Ty := (.pr .bool (.pr (.int .i64) (.pr (.int .i64) (.pr (.sl YCell) .nil))))
abbrev YSheet : Ty := (.pr (.int .i64) (.pr (.int .i64) (.pr (.int .i64) (.pr .bool (.pr (.int .i64) (.pr (.sl (.int .i64)) (.pr (.sl YRow) (.pr (.int .i64) .nil))))))))
abbrev DEvent : Type := Bool × Int × Int × Unit
abbrev DCell : Type := Int × Bool × Int × Int × (List (Int)) × (List (Int)) × (List (List (DEvent))) × Unit
abbrev DRow : Type := Bool × Int × Int × (List (DCell)) × Unit
abbrev DSheet : Type := Int × Int × Int × Bool × Int × (List (Int)) × (List (DRow)) × Int × Unit
/-! ### overspill.overspilllaw25.Light -/
noncomputable def z1U0 (_ : Nat) : List (Nat × Ent) := []
theorem z1U0_k (k : Nat) : UTab (z1U0 k) := UTab.nil
noncomputable def z1u0d : UDef := ⟨[(1, none)], [7, 8, 9, 10, 11, 12, 13, 14, 15, 16], [(.normal, [(16, none)])], []⟩
noncomputable def z1u0p : XPat := ⟨.normal, [(.ptr 0 [])], [(.box (.tv YSheet))]⟩
noncomputable def z1u0x : List XPat := [⟨.normal, [(.tv .bool)], [(.box (.tv YSheet))]⟩]
noncomputable def overspilllaw25_Lightu0 (k : Nat) (x0 : DSheet) : Option ((Bool) × (DSheet)) :=
  bif (decide ((30 : Int) < ((List.length x0.2.2.2.2.2.2.1 : Nat) : Int))) then
    some (true, x0)
  else
  some ((decide ((100 : Int) < ((List.length x0.2.2.2.2.2.1 : Nat) : Int))), x0)
noncomputable def z1u0b : AC :=
  (.region [(iO 7 (.fad 6 6 (.t 1))),
    (iO 8 (.load false 1 (.t 7))),
    (iO 9 (.len (.t 8))),
    (iO 10 (.bin .gtr (.t 9) (nI 30))),
    (iO 11 (.mv (.t 10))),
    ⟨some 12, some (4, 11, false), (.op (.fad 5 5 (.t 1))), []⟩,
    ⟨some 13, some (4, 11, false), (.op (.load false 1 (.t 12))), []⟩,
    ⟨some 14, some (4, 11, false), (.op (.len (.t 13))), []⟩,
    ⟨some 15, some (4, 11, false), (.op (.bin .gtr (.t 14) (nI 100))), []⟩,
    (iO 16 (.pick (.t 11) (.c (.tv .bool (true : Bool))) (.t 15)))])
noncomputable def z1u0t (k : Nat) (d : z1u0p.D) : Option (XD z1u0x) := overspilllaw25_Lightu0 k d.2
theorem z1u0_k (k : Nat) : UOK P GL (mkU z1u0p z1u0x (z1u0t k) nilU) z1u0d false z1u0b :=
  unit_typed (ud := z1u0d) (body := z1u0b) (uorc := uorT (z1U0 k)) hmo (T0_ok k).oo (z1U0_k k) (AllU.no (by kernel_rfl)) (fun d => by kernel_rfl)
noncomputable def z1U1 (k : Nat) : List (Nat × Ent) := (0, ⟨mkU z1u0p z1u0x (z1u0t k) nilU⟩) :: z1U0 k
theorem z1U1_k (k : Nat) : UTab (z1U1 k) := (z1U0_k k).cons (mkU_nat nilU_nat)
noncomputable def z1u1d : UDef := ⟨[(1, none), (4, none), (5, none), (6, none)], [2, 6, 43, 44, 45, 46, 47, 48, 49, 50, 51, 52, 53, 54, 55, 56, 57, 58, 59, 60], [(.ret, [(2, none)]), ((.exit 4), [])], []⟩
noncomputable def z1u1p : XPat := ⟨.normal, [(.ptr 0 []), (.tv (.int .i64)), (.tv (.int .i64)), (.tv (.int .i64))], [(.box (.tv YSheet))]⟩
noncomputable def z1u1x : List XPat := [⟨.ret, [(.tv .bool)], [(.box (.tv YSheet))]⟩, ⟨(.exit 4), [], [(.box (.tv YSheet))]⟩]
noncomputable def overspilllaw25_Lightu1 (k : Nat) : Nat → (Int) → (Int) → (Int) → (DSheet) → Option (((Bool) × (DSheet)) ⊕ ((Unit) × (DSheet)))
  | 0, _, _, _, _ => none
  | n + 1, x0, x1, x2, x3 =>
    bif (decide (x2 < 6)) then
      bif (inR x0 (List.length x3.2.2.2.2.2.2.1)) then
        bif (inR x1 (List.length (List.getD x3.2.2.2.2.2.2.1 (Int.toNat x0) (false, (0, (0, (([] : List (DCell)), ()))))).2.2.2.1)) then
          bif (inR x2 6) then
            bif (decide ((100 : Int) < ((List.length (List.getD (List.getD (List.getD x3.2.2.2.2.2.2.1 (Int.toNat x0) (false, (0, (0, (([] : List (DCell)), ()))))).2.2.2.1 (Int.toNat x1) (0, (false, (0, (0, ((Ty.zero (.arr 2 (.int .i64))), ((Ty.zero (.arr 6 (.int .i64))), ((Ty.zero (.arr 6 (.sl YEvent))), ())))))))).2.2.2.2.2.2.1 (Int.toNat x2) ([] : List (DEvent))) : Nat) : Int))) then
              some (Sum.inl (false, x3))
            else
            Option.bind (overspilllaw25_Lightu1 k n x0 x1 (wr .i64 (x2 + 1)) x3) fun r => Sum.elim (fun w => some (Sum.inl w)) (fun w => some (Sum.inr w)) r
          else
            none
        else
          none
      else
        none
    else
    some (Sum.inr ((), x3))
noncomputable def z1u1b : AC :=
  (.seq (.seq (.region [(iO 43 (.mv (.t 6))),
    (iO 44 (.bin .lss (.t 43) (nI 6)))])
  (.cond (.t 44)
  .skip
  (.exit 4)))
  (.seq (.block 5 (.seq (.region [(iO 47 (.fad 6 6 (.t 1))),
    (iO 48 (.load false 1 (.t 47))),
    (iO 49 (.mv (.t 4))),
    (iO 50 (.iads YRow (.t 48) (.t 49))),
    (iO 51 (.fad 3 3 (.t 50))),
    (iO 52 (.load false 1 (.t 51))),
    (iO 53 (.mv (.t 5))),
    (iO 54 (.mv (.t 6))),
    (iO 55 (.iads YCell (.t 52) (.t 53))),
    (iO 56 (.fad 6 12 (.t 55))),
    (iO 57 (.iad 6 1 (.t 56) (.t 54))),
    (iO 58 (.load false 1 (.t 57))),
    (iO 59 (.len (.t 58))),
    (iO 60 (.bin .gtr (.t 59) (nI 100)))])
  (.cond (.t 60)
  (.seq (.region [(iO 2 (.mv (.c (.tv .bool (false : Bool)))))])
    .ret)
  .skip)))
  (.region [(iO 45 (.mv (.t 6))),
    (iO 46 (.bin .add (.t 45) (nI 1))),
    (iO 6 (.mv (.t 46)))])))
noncomputable def z1u1t (k n : Nat) (d : z1u1p.D) : Option (XD z1u1x) := overspilllaw25_Lightu1 k n d.1.2.1 d.1.2.2.1 d.1.2.2.2 d.2
theorem z1u1_k (k : Nat) : UOK P GL (mkU z1u1p z1u1x (z1u1t k k) nilU) z1u1d true z1u1b :=
  loop_typed (ud := z1u1d) (body := z1u1b) (uorc := uorT (z1U1 k)) hmo (T0_ok k).oo (z1U1_k k) (AllU.no (by kernel_rfl)) (t := z1u1t k) (fun d => by kernel_rfl) (fun n d => by kernel_rfl) k
noncomputable def z1U2 (k : Nat) : List (Nat × Ent) := (1, ⟨mkU z1u1p z1u1x (z1u1t k k) nilU⟩) :: z1U1 k
theorem z1U2_k (k : Nat) : UTab (z1U2 k) := (z1U1_k k).cons (mkU_nat nilU_nat)
noncomputable def z1u2d : UDef := ⟨[(1, none), (3, none), (4, none), (5, none)], [2, 3, 5, 6, 32, 33, 34, 35, 36, 37, 38, 39, 40, 41, 42, 43, 44, 45, 46, 47, 48, 49, 50, 51, 52, 53, 54, 55, 56, 57, 58, 59, 60, 61, 62], [(.ret, [(2, none)]), ((.exit 2), [(3, none)])], []⟩
noncomputable def z1u2p : XPat := ⟨.normal, [(.ptr 0 []), (.tv (.int .i64)), (.tv (.int .i64)), (.tv (.int .i64))], [(.box (.tv YSheet))]⟩
noncomputable def z1u2x : List XPat := [⟨.ret, [(.tv .bool)], [(.box (.tv YSheet))]⟩, ⟨(.exit 2), [(.tv (.int .i64))], [(.box (.tv YSheet))]⟩]
noncomputable def overspilllaw25_Lightu2 (k : Nat) : Nat → (Int) → (Int) → (Int) → (DSheet) → Option (((Bool) × (DSheet)) ⊕ ((Int) × (DSheet)))
  | 0, _, _, _, _ => none
  | n + 1, x0, x1, x2, x3 =>
    bif (inR x1 (List.length x3.2.2.2.2.2.2.1)) then
      bif (decide (x2 < ((List.length (List.getD x3.2.2.2.2.2.2.1 (Int.toNat x1) (false, (0, (0, (([] : List (DCell)), ()))))).2.2.2.1 : Nat) : Int))) then
        Option.bind (overspilllaw25_Lightu1 k k x1 x2 0 x3) fun r =>
        Sum.elim (fun (v4 : (Bool) × (DSheet)) =>
          some (Sum.inl (v4.1, v4.2)))
          (fun (v5 : (Unit) × (DSheet)) =>
          Option.bind (overspilllaw25_Lightu2 k n (wr .i64 (x0 + 1)) x1 (wr .i64 (x2 + 1)) v5.2) fun r => Sum.elim (fun w => some (Sum.inl w)) (fun w => some (Sum.inr w)) r) r
      else
      some (Sum.inr (x0, x3))
    else
      none
noncomputable def z1u2b : AC :=
  (.seq (.seq (.region [(iO 32 (.mv (.t 5))),
    (iO 33 (.fad 6 6 (.t 1))),
    (iO 34 (.load false 1 (.t 33))),
    (iO 35 (.mv (.t 4))),
    (iO 36 (.iads YRow (.t 34) (.t 35))),
    (iO 37 (.fad 3 3 (.t 36))),
    (iO 38 (.load false 1 (.t 37))),
    (iO 39 (.len (.t 38))),
    (iO 40 (.bin .lss (.t 32) (.t 39)))])
  (.cond (.t 40)
  .skip
  (.exit 2)))
  (.seq (.block 3 (.seq (.seq (.region [(iO 6 (.mv (nI 0)))])
  (.block 4 (.unit 1 z1u1d true z1u1b)))
  (.region [(iO 61 (.mv (.t 3))),
    (iO 62 (.bin .add (.t 61) (nI 1))),
    (iO 3 (.mv (.t 62)))])))
  (.region [(iO 41 (.mv (.t 5))),
    (iO 42 (.bin .add (.t 41) (nI 1))),
    (iO 5 (.mv (.t 42)))])))
noncomputable def z1u2t (k n : Nat) (d : z1u2p.D) : Option (XD z1u2x) := overspilllaw25_Lightu2 k n d.1.2.1 d.1.2.2.1 d.1.2.2.2 d.2
theorem z1u2_k (k : Nat) : UOK P GL (mkU z1u2p z1u2x (z1u2t k k) nilU) z1u2d true z1u2b :=
  loop_typed (ud := z1u2d) (body := z1u2b) (uorc := uorT (z1U2 k)) hmo (T0_ok k).oo (z1U2_k k) (AllU.seq (AllU.no (by kernel_rfl)) (AllU.seq (AllU.block (AllU.seq (AllU.seq (AllU.no (by kernel_rfl)) (AllU.block (AllU.unit (uorc := uorT (z1U2 k)) (u := 1) (z1u1_k k)))) (AllU.no (by kernel_rfl)))) (AllU.no (by kernel_rfl)))) (t := z1u2t k) (fun d => by kernel_rfl) (fun n d => by kernel_rfl) k
noncomputable def z1U3 (k : Nat) : List (Nat × Ent) := (2, ⟨mkU z1u2p z1u2x (z1u2t k k) nilU⟩) :: z1U2 k
theorem z1U3_k (k : Nat) : UTab (z1U3 k) := (z1U2_k k).cons (mkU_nat nilU_nat)
noncomputable def z1u3d : UDef := ⟨[(1, none), (3, none), (4, none)], [2, 3, 4, 5, 6, 17, 18, 19, 20, 21, 22, 23, 24, 25, 26, 27, 28, 29, 30, 31, 32, 33, 34, 35, 36, 37, 38, 39, 40, 41, 42, 43, 44, 45, 46, 47, 48, 49, 50, 51, 52, 53, 54, 55, 56, 57, 58, 59, 60, 61, 62], [(.ret, [(2, none)]), ((.exit 0), [(3, none)])], []⟩
noncomputable def z1u3p : XPat := ⟨.normal, [(.ptr 0 []), (.tv (.int .i64)), (.tv (.int .i64))], [(.box (.tv YSheet))]⟩
noncomputable def z1u3x : List XPat := [⟨.ret, [(.tv .bool)], [(.box (.tv YSheet))]⟩, ⟨(.exit 0), [(.tv (.int .i64))], [(.box (.tv YSheet))]⟩]
noncomputable def overspilllaw25_Lightu3 (k : Nat) : Nat → (Int) → (Int) → (DSheet) → Option (((Bool) × (DSheet)) ⊕ ((Int) × (DSheet)))
  | 0, _, _, _ => none
  | n + 1, x0, x1, x2 =>
    bif (decide (x1 < ((List.length x2.2.2.2.2.2.2.1 : Nat) : Int))) then
      bif (inR x1 (List.length x2.2.2.2.2.2.2.1)) then
        bif (decide ((200 : Int) < ((List.length (List.getD x2.2.2.2.2.2.2.1 (Int.toNat x1) (false, (0, (0, (([] : List (DCell)), ()))))).2.2.2.1 : Nat) : Int))) then
          some (Sum.inl (false, x2))
        else
        Option.bind (overspilllaw25_Lightu2 k k x0 x1 0 x2) fun r =>
        Sum.elim (fun (v8 : (Bool) × (DSheet)) =>
          some (Sum.inl (v8.1, v8.2)))
          (fun (v9 : (Int) × (DSheet)) =>
          Option.bind (overspilllaw25_Lightu3 k n v9.1 (wr .i64 (x1 + 1)) v9.2) fun r => Sum.elim (fun w => some (Sum.inl w)) (fun w => some (Sum.inr w)) r) r
      else
        none
    else
    some (Sum.inr (x0, x2))
noncomputable def z1u3b : AC :=
  (.seq (.seq (.region [(iO 17 (.mv (.t 4))),
    (iO 18 (.fad 6 6 (.t 1))),
    (iO 19 (.load false 1 (.t 18))),
    (iO 20 (.len (.t 19))),
    (iO 21 (.bin .lss (.t 17) (.t 20)))])
  (.cond (.t 21)
  .skip
  (.exit 0)))
  (.seq (.block 1 (.seq (.seq (.region [(iO 24 (.fad 6 6 (.t 1))),
    (iO 25 (.load false 1 (.t 24))),
    (iO 26 (.mv (.t 4))),
    (iO 27 (.iads YRow (.t 25) (.t 26))),
    (iO 28 (.fad 3 3 (.t 27))),
    (iO 29 (.load false 1 (.t 28))),
    (iO 30 (.len (.t 29))),
    (iO 31 (.bin .gtr (.t 30) (nI 200)))])
  (.cond (.t 31)
  (.seq (.region [(iO 2 (.mv (.c (.tv .bool (false : Bool)))))])
    .ret)
  .skip))
  (.seq (.region [(iO 5 (.mv (nI 0)))])
  (.block 2 (.unit 2 z1u2d true z1u2b)))))
  (.region [(iO 22 (.mv (.t 4))),
    (iO 23 (.bin .add (.t 22) (nI 1))),
    (iO 4 (.mv (.t 23)))])))
noncomputable def z1u3t (k n : Nat) (d : z1u3p.D) : Option (XD z1u3x) := overspilllaw25_Lightu3 k n d.1.2.1 d.1.2.2 d.2
theorem z1u3_k (k : Nat) : UOK P GL (mkU z1u3p z1u3x (z1u3t k k) nilU) z1u3d true z1u3b :=
  loop_typed (ud := z1u3d) (body := z1u3b) (uorc := uorT (z1U3 k)) hmo (T0_ok k).oo (z1U3_k k) (AllU.seq (AllU.no (by kernel_rfl)) (AllU.seq (AllU.block (AllU.seq (AllU.no (by kernel_rfl)) (AllU.seq (AllU.no (by kernel_rfl)) (AllU.block (AllU.unit (uorc := uorT (z1U3 k)) (u := 2) (z1u2_k k)))))) (AllU.no (by kernel_rfl)))) (t := z1u3t k) (fun d => by kernel_rfl) (fun n d => by kernel_rfl) k
noncomputable def z1U4 (k : Nat) : List (Nat × Ent) := (3, ⟨mkU z1u3p z1u3x (z1u3t k k) nilU⟩) :: z1U3 k
theorem z1U4_k (k : Nat) : UTab (z1U4 k) := (z1U3_k k).cons (mkU_nat nilU_nat)
noncomputable def overspilllaw25_Light (k : Nat) (x0 : DSheet) : Option (Bool) :=
  Option.bind (overspilllaw25_Lightu0 k x0) fun (v1 : (Bool) × (DSheet)) =>
  bif v1.1 then
    some false
  else
  Option.bind (overspilllaw25_Lightu3 k k 0 0 v1.2) fun r =>
  Sum.elim (fun (v10 : (Bool) × (DSheet)) =>
    some v10.1)
    (fun (v11 : (Int) × (DSheet)) =>
    some (decide (v11.1 ≤ 200))) r
noncomputable def z1b : AC :=
  (.seq (.region [(iO 1 (.box (.t 0))),
    (iO 2 (.mv (.c (.tv .bool (false : Bool)))))])
  (.seq (.seq (.unit 0 z1u0d false z1u0b)
  (.cond (.t 16)
  (.seq (.region [(iO 2 (.mv (.c (.tv .bool (false : Bool)))))])
    .ret)
  .skip))
  (.seq (.region [(iO 3 (.mv (nI 0)))])
  (.seq (.seq (.region [(iO 4 (.mv (nI 0)))])
  (.block 0 (.unit 3 z1u3d true z1u3b)))
  (.seq (.region [(iO 63 (.mv (.t 3))),
    (iO 64 (.bin .leq (.t 63) (nI 200))),
    (iO 2 (.mv (.t 64)))])
  .ret)))))
noncomputable def z1f : FDef := ⟨1, 65, [.tmp 2 none], z1b⟩
noncomputable def z1p : XPat := ⟨.normal, [(.tv YSheet)], []⟩
noncomputable def z1x : List XPat := [⟨.ret, [(.tv .bool)], []⟩]
noncomputable def z1t (k : Nat) (d : z1p.D) : Option (XD z1x) := overspilllaw25_Light k d
noncomputable def z1_e (k : Nat) : UEntry := mkU z1p z1x (z1t k) nilU
theorem z1_n (k : Nat) : UNat (z1_e k) := mkU_nat nilU_nat
theorem z1_fu (k : Nat) : FU P GL 17 (z1_e k) :=
  fn_typed (uorc := uorT (z1U4 k)) hmo (T0_ok k).oo (z1U4_k k) (fd := z1f) (AllU.seq (AllU.no (by kernel_rfl)) (AllU.seq (AllU.seq (AllU.unit (uorc := uorT (z1U4 k)) (u := 0) (z1u0_k k)) (AllU.no (by kernel_rfl))) (AllU.seq (AllU.no (by kernel_rfl)) (AllU.seq (AllU.seq (AllU.no (by kernel_rfl)) (AllU.block (AllU.unit (uorc := uorT (z1U4 k)) (u := 3) (z1u3_k k)))) (AllU.no (by kernel_rfl)))))) (fn := Tryz.f17) (by kernel_rfl) (by kernel_rfl) (fun d => by kernel_rfl) FU_nil
noncomputable def T1 (k : Nat) : List (Nat × Ent) := (17, ⟨z1_e k⟩) :: T0 k
theorem T1_ok (k : Nat) : TabOK P GL (T1 k) := (T0_ok k).cons (z1_fu k) (z1_n k)
/-! ### overspill.overspilllaw27.light -/
noncomputable def z2U0 (_ : Nat) : List (Nat × Ent) := []
theorem z2U0_k (k : Nat) : UTab (z2U0 k) := UTab.nil
noncomputable def overspilllaw27_light (k : Nat) (x0 : DSheet) : Option (Bool) :=
  Option.bind (overspilllaw25_Light k x0) fun (v12 : Bool) =>
  bif v12 then
    some (decide (x0.2.2.2.2.2.2.2.1 ≤ 1000))
  else
  some false
noncomputable def z2b : AC :=
  (.seq (.region [(iO 1 (.box (.t 0))),
    (iO 2 (.mv (.c (.tv .bool (false : Bool)))))])
  (.seq (.region [(iO 3 (.load true 8 (.t 1))),
    (iC 4 17 [((.t 3), some YSheet)]),
    (iO 5 (.mv (.t 4))),
    ⟨some 6, some (2, 5, true), (.op (.fad 7 7 (.t 1))), []⟩,
    ⟨some 7, some (2, 5, true), (.op (.load false 1 (.t 6))), []⟩,
    ⟨some 8, some (2, 5, true), (.op (.bin .leq (.t 7) (nI 1000))), []⟩,
    (iO 9 (.pick (.t 5) (.t 8) (.c (.tv .bool (false : Bool))))),
    (iO 2 (.mv (.t 9)))])
  .ret))
noncomputable def z2f : FDef := ⟨1, 10, [.tmp 2 none], z2b⟩
noncomputable def z2p : XPat := ⟨.normal, [(.tv YSheet)], []⟩
noncomputable def z2x : List XPat := [⟨.ret, [(.tv .bool)], []⟩]
noncomputable def z2t (k : Nat) (d : z2p.D) : Option (XD z2x) := overspilllaw27_light k d
noncomputable def z2_e (k : Nat) : UEntry := mkU z2p z2x (z2t k) nilU
theorem z2_n (k : Nat) : UNat (z2_e k) := mkU_nat nilU_nat
theorem z2_fu (k : Nat) : FU P GL 4 (z2_e k) :=
  fn_typed (uorc := uorT (z2U0 k)) hmo (T1_ok k).oo (z2U0_k k) (fd := z2f) (AllU.no (by kernel_rfl)) (fn := Tryz.f4) (by kernel_rfl) (by kernel_rfl) (fun d => by kernel_rfl) FU_nil
noncomputable def T2 (k : Nat) : List (Nat × Ent) := (4, ⟨z2_e k⟩) :: T1 k
theorem T2_ok (k : Nat) : TabOK P GL (T2 k) := (T1_ok k).cons (z2_fu k) (z2_n k)
/-! ### overspill.overspillref02.Plain -/
noncomputable def z3U0 (_ : Nat) : List (Nat × Ent) := []
theorem z3U0_k (k : Nat) : UTab (z3U0 k) := UTab.nil
noncomputable def z3u0d : UDef := ⟨[(0, none), (3, none)], [2, 3, 4, 5, 6, 7, 8, 9, 10, 11, 12, 13, 14, 15, 16, 17, 18, 19], [(.ret, [(2, none)]), ((.exit 0), [])], []⟩
noncomputable def z3u0p : XPat := ⟨.normal, [(.tv .str), (.tv (.int .i64))], []⟩
noncomputable def z3u0x : List XPat := [⟨.ret, [(.tv .bool)], []⟩, ⟨(.exit 0), [], []⟩]
noncomputable def overspillref02_Plainu0 (k : Nat) : Nat → (List UInt8) → (Int) → Option ((Bool) ⊕ (Unit))
  | 0, _, _ => none
  | n + 1, x0, x1 =>
    bif (decide (x1 < ((List.length x0 : Nat) : Int))) then
      bif (inR x1 (List.length x0)) then
        bif (!(decide (((UInt8.toNat (List.getD x0 (Int.toNat x1) 0) : Nat) : Int) = 48))) then
          bif (inR x1 (List.length x0)) then
            bif (!(decide (((UInt8.toNat (List.getD x0 (Int.toNat x1) 0) : Nat) : Int) = 49))) then
              some (Sum.inl false)
            else
            Option.bind (overspillref02_Plainu0 k n x0 (wr .i64 (x1 + 1))) fun r => Sum.elim (fun w => some (Sum.inl w)) (fun w => some (Sum.inr w)) r
          else
            none
        else
        Option.bind (overspillref02_Plainu0 k n x0 (wr .i64 (x1 + 1))) fun r => Sum.elim (fun w => some (Sum.inl w)) (fun w => some (Sum.inr w)) r
      else
        none
    else
    some (Sum.inr ())
noncomputable def z3u0b : AC :=
  (.seq (.seq (.region [(iO 4 (.mv (.t 3))),
    (iO 5 (.mv (.t 0))),
    (iO 6 (.lens (.t 5))),
    (iO 7 (.bin .lss (.t 4) (.t 6)))])
  (.cond (.t 7)
  .skip
  (.exit 0)))
  (.seq (.block 1 (.seq (.region [(iO 10 (.mv (.t 0))),
    (iO 11 (.mv (.t 3))),
    (iO 12 (.ixs (.t 10) (.t 11))),
    (iO 13 (.bin .neq (.t 12) (.c (.tv (.int .u8) (48 : Int))))),
    (iO 14 (.mv (.t 13))),
    ⟨some 15, some (4, 14, true), (.op (.mv (.t 0))), []⟩,
    ⟨some 16, some (4, 14, true), (.op (.mv (.t 3))), []⟩,
    ⟨some 17, some (4, 14, true), (.op (.ixs (.t 15) (.t 16))), []⟩,
    ⟨some 18, some (4, 14, true), (.op (.bin .neq (.t 17) (.c (.tv (.int .u8) (49 : Int))))), []⟩,
    (iO 19 (.pick (.t 14) (.t 18) (.c (.tv .bool (false : Bool)))))])
  (.cond (.t 19)
  (.seq (.region [(iO 2 (.mv (.c (.tv .bool (false : Bool)))))])
    .ret)
  .skip)))
  (.region [(iO 8 (.mv (.t 3))),
    (iO 9 (.bin .add (.t 8) (nI 1))),
    (iO 3 (.mv (.t 9)))])))
noncomputable def z3u0t (k n : Nat) (d : z3u0p.D) : Option (XD z3u0x) := overspillref02_Plainu0 k n d.1 d.2
theorem z3u0_k (k : Nat) : UOK P GL (mkU z3u0p z3u0x (z3u0t k k) nilU) z3u0d true z3u0b :=
  loop_typed (ud := z3u0d) (body := z3u0b) (uorc := uorT (z3U0 k)) hmo (T2_ok k).oo (z3U0_k k) (AllU.no (by kernel_rfl)) (t := z3u0t k) (fun d => by kernel_rfl) (fun n d => by kernel_rfl) k
noncomputable def z3U1 (k : Nat) : List (Nat × Ent) := (0, ⟨mkU z3u0p z3u0x (z3u0t k k) nilU⟩) :: z3U0 k
theorem z3U1_k (k : Nat) : UTab (z3U1 k) := (z3U0_k k).cons (mkU_nat nilU_nat)
noncomputable def overspillref02_Plain (k : Nat) (x0 : List UInt8) : Option (Bool) :=
  Option.bind (overspillref02_Plainu0 k k x0 0) fun r =>
  Sum.elim (fun (v14 : Bool) =>
    some v14)
    (fun (v15 : Unit) =>
    some true) r
noncomputable def z3b : AC :=
  (.seq (.region [(iO 2 (.mv (.c (.tv .bool (false : Bool)))))])
  (.seq (.seq (.region [(iO 3 (.mv (nI 0)))])
  (.block 0 (.unit 0 z3u0d true z3u0b)))
  (.seq (.region [(iO 2 (.mv (.c (.tv .bool (true : Bool)))))])
  .ret)))
noncomputable def z3f : FDef := ⟨1, 20, [.tmp 2 none], z3b⟩
noncomputable def z3p : XPat := ⟨.normal, [(.tv .str)], []⟩
noncomputable def z3x : List XPat := [⟨.ret, [(.tv .bool)], []⟩]
noncomputable def z3t (k : Nat) (d : z3p.D) : Option (XD z3x) := overspillref02_Plain k d
noncomputable def z3_e (k : Nat) : UEntry := mkU z3p z3x (z3t k) nilU
theorem z3_n (k : Nat) : UNat (z3_e k) := mkU_nat nilU_nat
theorem z3_fu (k : Nat) : FU P GL 5 (z3_e k) :=
  fn_typed (uorc := uorT (z3U1 k)) hmo (T2_ok k).oo (z3U1_k k) (fd := z3f) (AllU.seq (AllU.no (by kernel_rfl)) (AllU.seq (AllU.seq (AllU.no (by kernel_rfl)) (AllU.block (AllU.unit (uorc := uorT (z3U1 k)) (u := 0) (z3u0_k k)))) (AllU.no (by kernel_rfl)))) (fn := Tryz.f5) (by kernel_rfl) (by kernel_rfl) (fun d => by kernel_rfl) FU_nil
noncomputable def T3 (k : Nat) : List (Nat × Ent) := (5, ⟨z3_e k⟩) :: T2 k
theorem T3_ok (k : Nat) : TabOK P GL (T3 k) := (T2_ok k).cons (z3_fu k) (z3_n k)
/-! ### overspill.outbits.New -/
noncomputable def z4U0 (_ : Nat) : List (Nat × Ent) := []
theorem z4U0_k (k : Nat) : UTab (z4U0 k) := UTab.nil
noncomputable def outbits_New (k : Nat) : Option ((Unit) × (((Unit) × ((Int) × (Unit))) × (List (Int)))) :=
  some ((), (((), (0, ())), ([] : List (Int))))
noncomputable def z4b : AC :=
  (.seq (.region [(iO 0 (.mv (.c .nilp)))])
  (.seq (.region [(iO 1 (.build 53 (.cons (.row (.int .u8)) (.cons (.tv (.int .i64)) .nil)) [])),
    (iO 2 (.box (.t 1))),
    (iO 0 (.mv (.t 2)))])
  .ret))
noncomputable def z4f : FDef := ⟨0, 3, [.tmp 0 none], z4b⟩
noncomputable def z4p : XPat := ⟨.normal, [], []⟩
noncomputable def z4x : List XPat := [⟨.ret, [(.ptr 0 [])], [(.box (.cons (.row 1) (.cons (.tv (.int .i64)) .nil))), (.row (.int .u8) false)]⟩]
noncomputable def z4t (k : Nat) (d : z4p.D) : Option (XD z4x) := outbits_New k
noncomputable def z4_e (k : Nat) : UEntry := mkU z4p z4x (z4t k) nilU
theorem z4_n (k : Nat) : UNat (z4_e k) := mkU_nat nilU_nat
theorem z4_fu (k : Nat) : FU P GL 7 (z4_e k) :=
  fn_typed (uorc := uorT (z4U0 k)) hmo (T3_ok k).oo (z4U0_k k) (fd := z4f) (AllU.no (by kernel_rfl)) (fn := Tryz.f7) (by kernel_rfl) (by kernel_rfl) (fun d => by kernel_rfl) FU_nil
noncomputable def T4 (k : Nat) : List (Nat × Ent) := (7, ⟨z4_e k⟩) :: T3 k
theorem T4_ok (k : Nat) : TabOK P GL (T4 k) := (T3_ok k).cons (z4_fu k) (z4_n k)
/-! ### overspill.formats.Size -/
noncomputable def z5U0 (_ : Nat) : List (Nat × Ent) := []
theorem z5U0_k (k : Nat) : UTab (z5U0 k) := UTab.nil
noncomputable def formats_Size (k : Nat) (x0 : Int) : Option ((Int) × ((Int) × ((Bool) × (Unit)))) :=
  bif (decide (x0 = 1)) then
    some (128, (96, (true, ())))
  else
  bif (decide (x0 = 2)) then
    some (176, (144, (true, ())))
  else
  bif (decide (x0 = 3)) then
    some (352, (288, (true, ())))
  else
  bif (decide (x0 = 4)) then
    some (704, (576, (true, ())))
  else
  bif (decide (x0 = 5)) then
    some (1408, (1152, (true, ())))
  else
  bif (decide (x0 = 6)) then
    some (32, (32, (true, ())))
  else
  some (0, (0, (false, ())))
noncomputable def z5b : AC :=
  (.seq (.region [(iO 2 (.mv (nI 0))),
    (iO 3 (.mv (nI 0))),
    (iO 4 (.mv (.c (.tv .bool (false : Bool)))))])
  (.seq (.seq (.region [(iO 5 (.mv (.t 0)))])
  (.block 0 (.seq (.region [(iO 7 (.bin .eql (.t 5) (nI 1))),
    (iO 6 (.mv (.t 7)))])
  (.cond (.t 6)
  (.seq (.region [(iO 2 (.mv (nI 128))),
      (iO 3 (.mv (nI 96))),
      (iO 4 (.mv (.c (.tv .bool (true : Bool)))))])
    .ret)
  (.seq (.region [(iO 9 (.bin .eql (.t 5) (nI 2))),
      (iO 8 (.mv (.t 9)))])
    (.cond (.t 8)
    (.seq (.region [(iO 2 (.mv (nI 176))),
        (iO 3 (.mv (nI 144))),
        (iO 4 (.mv (.c (.tv .bool (true : Bool)))))])
      .ret)
    (.seq (.region [(iO 11 (.bin .eql (.t 5) (nI 3))),
        (iO 10 (.mv (.t 11)))])
      (.cond (.t 10)
      (.seq (.region [(iO 2 (.mv (nI 352))),
          (iO 3 (.mv (nI 288))),
          (iO 4 (.mv (.c (.tv .bool (true : Bool)))))])
        .ret)
      (.seq (.region [(iO 13 (.bin .eql (.t 5) (nI 4))),
          (iO 12 (.mv (.t 13)))])
        (.cond (.t 12)
        (.seq (.region [(iO 2 (.mv (nI 704))),
            (iO 3 (.mv (nI 576))),
            (iO 4 (.mv (.c (.tv .bool (true : Bool)))))])
          .ret)
        (.seq (.region [(iO 15 (.bin .eql (.t 5) (nI 5))),
            (iO 14 (.mv (.t 15)))])
          (.cond (.t 14)
          (.seq (.region [(iO 2 (.mv (nI 1408))),
              (iO 3 (.mv (nI 1152))),
              (iO 4 (.mv (.c (.tv .bool (true : Bool)))))])
            .ret)
          (.seq (.region [(iO 17 (.bin .eql (.t 5) (nI 6))),
              (iO 16 (.mv (.t 17)))])
            (.cond (.t 16)
            (.seq (.region [(iO 2 (.mv (nI 32))),
                (iO 3 (.mv (nI 32))),
                (iO 4 (.mv (.c (.tv .bool (true : Bool)))))])
              .ret)
            .skip))))))))))))))
  (.seq (.region [(iO 2 (.mv (nI 0))),
    (iO 3 (.mv (nI 0))),
    (iO 4 (.mv (.c (.tv .bool (false : Bool)))))])
  .ret)))
noncomputable def z5f : FDef := ⟨1, 18, [.tmp 2 none, .tmp 3 none, .tmp 4 none], z5b⟩
noncomputable def z5p : XPat := ⟨.normal, [(.tv (.int .i64))], []⟩
noncomputable def z5x : List XPat := [⟨.ret, [(.tup (.cons (.tv (.int .i64)) (.cons (.tv (.int .i64)) (.cons (.tv .bool) .nil))))], []⟩]
noncomputable def z5t (k : Nat) (d : z5p.D) : Option (XD z5x) := formats_Size k d
noncomputable def z5_e (k : Nat) : UEntry := mkU z5p z5x (z5t k) nilU
theorem z5_n (k : Nat) : UNat (z5_e k) := mkU_nat nilU_nat
theorem z5_fu (k : Nat) : FU P GL 48 (z5_e k) :=
  fn_typed (uorc := uorT (z5U0 k)) hmo (T4_ok k).oo (z5U0_k k) (fd := z5f) (AllU.no (by kernel_rfl)) (fn := Tryz.f48) (by kernel_rfl) (by kernel_rfl) (fun d => by kernel_rfl) FU_nil
noncomputable def T5 (k : Nat) : List (Nat × Ent) := (48, ⟨z5_e k⟩) :: T4 k
theorem T5_ok (k : Nat) : TabOK P GL (T5 k) := (T4_ok k).cons (z5_fu k) (z5_n k)
/-! ### overspill.formats.Cells -/
noncomputable def z6U0 (_ : Nat) : List (Nat × Ent) := []
theorem z6U0_k (k : Nat) : UTab (z6U0 k) := UTab.nil
noncomputable def formats_Cells (k : Nat) (x0 : Int) : Option ((Int) × ((Int) × (Unit))) :=
  Option.bind (formats_Size k x0) fun (v21 : (Int) × ((Int) × ((Bool) × (Unit)))) =>
  some ((wr .i64 (Int.tdiv v21.1 16)), ((wr .i64 (Int.tdiv v21.2.1 16)), ()))
noncomputable def z6b : AC :=
  (.seq (.region [(iO 2 (.mv (nI 0))),
    (iO 3 (.mv (nI 0)))])
  (.seq (.region [(iO 8 (.mv (.t 0))),
    (iC 9 48 [((.t 8), none)]),
    (iO 7 (.mv (.t 9))),
    (iO 10 (.ext (.t 7) 0)),
    (iO 11 (.ext (.t 7) 1)),
    (iO 12 (.ext (.t 7) 2)),
    (iO 4 (.mv (.t 10))),
    (iO 5 (.mv (.t 11))),
    (iO 6 (.mv (.t 12)))])
  (.seq (.region [(iO 13 (.mv (.t 4))),
    (iO 14 (.bin .quo (.t 13) (nI 16))),
    (iO 15 (.mv (.t 5))),
    (iO 16 (.bin .quo (.t 15) (nI 16))),
    (iO 2 (.mv (.t 14))),
    (iO 3 (.mv (.t 16)))])
  .ret)))
noncomputable def z6f : FDef := ⟨1, 17, [.tmp 2 none, .tmp 3 none], z6b⟩
noncomputable def z6p : XPat := ⟨.normal, [(.tv (.int .i64))], []⟩
noncomputable def z6x : List XPat := [⟨.ret, [(.tup (.cons (.tv (.int .i64)) (.cons (.tv (.int .i64)) .nil)))], []⟩]
noncomputable def z6t (k : Nat) (d : z6p.D) : Option (XD z6x) := formats_Cells k d
noncomputable def z6_e (k : Nat) : UEntry := mkU z6p z6x (z6t k) nilU
theorem z6_n (k : Nat) : UNat (z6_e k) := mkU_nat nilU_nat
theorem z6_fu (k : Nat) : FU P GL 22 (z6_e k) :=
  fn_typed (uorc := uorT (z6U0 k)) hmo (T5_ok k).oo (z6U0_k k) (fd := z6f) (AllU.no (by kernel_rfl)) (fn := Tryz.f22) (by kernel_rfl) (by kernel_rfl) (fun d => by kernel_rfl) FU_nil
noncomputable def T6 (k : Nat) : List (Nat × Ent) := (22, ⟨z6_e k⟩) :: T5 k
theorem T6_ok (k : Nat) : TabOK P GL (T6 k) := (T5_ok k).cons (z6_fu k) (z6_n k)
/-! ### overspill.formats.Rows -/
noncomputable def z7U0 (_ : Nat) : List (Nat × Ent) := []
theorem z7U0_k (k : Nat) : UTab (z7U0 k) := UTab.nil
noncomputable def z7u0d : UDef := ⟨[(6, none), (12, none)], [6, 13, 14, 15, 16], [(.normal, [(6, none)])], []⟩
noncomputable def z7u0p : XPat := ⟨.normal, [(.tv (.int .i64)), (.tv (.int .i64))], []⟩
noncomputable def z7u0x : List XPat := [⟨.normal, [(.tv (.int .i64))], []⟩]
noncomputable def formats_Rowsu0 (k : Nat) (x0 : Int) (x1 : Int) : Option (Int) :=
  bif (decide (x1 = 4)) then
    some 2
  else
  bif (decide (x1 = 5)) then
    some 4
  else
  some x0
noncomputable def z7u0b : AC :=
  (.block 0 (.seq (.region [(iO 14 (.bin .eql (.t 12) (nI 4))),
    (iO 13 (.mv (.t 14)))])
  (.cond (.t 13)
  (.region [(iO 6 (.mv (nI 2)))])
  (.seq (.region [(iO 16 (.bin .eql (.t 12) (nI 5))),
      (iO 15 (.mv (.t 16)))])
    (.cond (.t 15)
    (.region [(iO 6 (.mv (nI 4)))])
    .skip)))))
noncomputable def z7u0t (k : Nat) (d : z7u0p.D) : Option (XD z7u0x) := formats_Rowsu0 k d.1 d.2
theorem z7u0_k (k : Nat) : UOK P GL (mkU z7u0p z7u0x (z7u0t k) nilU) z7u0d false z7u0b :=
  unit_typed (ud := z7u0d) (body := z7u0b) (uorc := uorT (z7U0 k)) hmo (T6_ok k).oo (z7U0_k k) (AllU.no (by kernel_rfl)) (fun d => by kernel_rfl)
noncomputable def z7U1 (k : Nat) : List (Nat × Ent) := (0, ⟨mkU z7u0p z7u0x (z7u0t k) nilU⟩) :: z7U0 k
theorem z7U1_k (k : Nat) : UTab (z7U1 k) := (z7U0_k k).cons (mkU_nat nilU_nat)
noncomputable def formats_Rows (k : Nat) (x0 : Int) : Option ((Int) × ((Int) × (Unit))) :=
  Option.bind (formats_Cells k x0) fun (v22 : (Int) × ((Int) × (Unit))) =>
  Option.bind (formats_Rowsu0 k 1 x0) fun (v23 : Int) =>
  bif (decide (v22.2.1 = 0)) then
    some (0, (0, ()))
  else
  bif (decide (v23 = 0)) then
    none
  else
  some ((wr .i64 (Int.tdiv v22.2.1 v23)), (v23, ()))
noncomputable def z7b : AC :=
  (.seq (.region [(iO 2 (.mv (nI 0))),
    (iO 3 (.mv (nI 0)))])
  (.seq (.region [(iO 8 (.mv (.t 0))),
    (iC 9 22 [((.t 8), none)]),
    (iO 7 (.mv (.t 9))),
    (iO 10 (.ext (.t 7) 0)),
    (iO 11 (.ext (.t 7) 1)),
    (iO 4 (.mv (.t 10))),
    (iO 5 (.mv (.t 11)))])
  (.seq (.region [(iO 6 (.mv (nI 1)))])
  (.seq (.seq (.region [(iO 12 (.mv (.t 0)))])
  (.unit 0 z7u0d false z7u0b))
  (.seq (.seq (.region [(iO 17 (.mv (.t 5))),
    (iO 18 (.bin .eql (.t 17) (nI 0)))])
  (.cond (.t 18)
  (.seq (.region [(iO 2 (.mv (nI 0))),
      (iO 3 (.mv (nI 0)))])
    .ret)
  .skip))
  (.seq (.region [(iO 19 (.mv (.t 5))),
    (iO 20 (.mv (.t 6))),
    (iO 21 (.bin .quo (.t 19) (.t 20))),
    (iO 22 (.mv (.t 6))),
    (iO 2 (.mv (.t 21))),
    (iO 3 (.mv (.t 22)))])
  .ret))))))
noncomputable def z7f : FDef := ⟨1, 23, [.tmp 2 none, .tmp 3 none], z7b⟩
noncomputable def z7p : XPat := ⟨.normal, [(.tv (.int .i64))], []⟩
noncomputable def z7x : List XPat := [⟨.ret, [(.tup (.cons (.tv (.int .i64)) (.cons (.tv (.int .i64)) .nil)))], []⟩]
noncomputable def z7t (k : Nat) (d : z7p.D) : Option (XD z7x) := formats_Rows k d
noncomputable def z7_e (k : Nat) : UEntry := mkU z7p z7x (z7t k) nilU
theorem z7_n (k : Nat) : UNat (z7_e k) := mkU_nat nilU_nat
theorem z7_fu (k : Nat) : FU P GL 23 (z7_e k) :=
  fn_typed (uorc := uorT (z7U1 k)) hmo (T6_ok k).oo (z7U1_k k) (fd := z7f) (AllU.seq (AllU.no (by kernel_rfl)) (AllU.seq (AllU.no (by kernel_rfl)) (AllU.seq (AllU.no (by kernel_rfl)) (AllU.seq (AllU.seq (AllU.no (by kernel_rfl)) (AllU.unit (uorc := uorT (z7U1 k)) (u := 0) (z7u0_k k))) (AllU.no (by kernel_rfl)))))) (fn := Tryz.f23) (by kernel_rfl) (by kernel_rfl) (fun d => by kernel_rfl) FU_nil
noncomputable def T7 (k : Nat) : List (Nat × Ent) := (23, ⟨z7_e k⟩) :: T6 k
theorem T7_ok (k : Nat) : TabOK P GL (T7 k) := (T6_ok k).cons (z7_fu k) (z7_n k)
/-! ### overspill.sheethead.may -/
noncomputable def z8U0 (_ : Nat) : List (Nat × Ent) := []
theorem z8U0_k (k : Nat) : UTab (z8U0 k) := UTab.nil
noncomputable def z8u0d : UDef := ⟨[(1, none), (5, none)], [5, 15, 16, 17, 18, 19, 20, 21, 22, 23, 24, 25, 26, 27, 28, 29, 30, 31, 32, 33, 34, 35, 36, 37, 38, 39, 40, 41, 42, 43, 44, 45, 46, 47, 48, 49, 50, 51], [(.normal, [(5, none)])], []⟩
noncomputable def z8u0p : XPat := ⟨.normal, [(.ptr 0 []), (.tv .bool)], [(.box (.tv YSheet))]⟩
noncomputable def z8u0x : List XPat := [⟨.normal, [(.tv .bool)], [(.box (.tv YSheet))]⟩]
noncomputable def sheethead_mayu0 (k : Nat) (x0 : Bool) (x1 : DSheet) : Option ((Bool) × (DSheet)) :=
  bif x0 then
    bif (decide ((0 : Int) ≤ x1.1)) then
      bif (decide (x1.1 ≤ 255)) then
        bif (decide ((0 : Int) ≤ x1.2.1)) then
          bif (decide (x1.2.1 ≤ 7)) then
            bif (decide ((1 : Int) ≤ x1.2.2.2.2.1)) then
              bif (decide (x1.2.2.2.2.1 ≤ 31)) then
                some ((decide (((List.length x1.2.2.2.2.2.1 : Nat) : Int) ≤ 8)), x1)
              else
              some (false, x1)
            else
            some (false, x1)
          else
          some (false, x1)
        else
        some (false, x1)
      else
      some (false, x1)
    else
    some (false, x1)
  else
  some (false, x1)
noncomputable def z8u0b : AC :=
  (.region [(iO 15 (.mv (.t 5))),
    (iO 16 (.mv (.t 15))),
    ⟨some 17, some (1, 16, true), (.op (.fad 0 0 (.t 1))), []⟩,
    ⟨some 18, some (1, 16, true), (.op (.load false 1 (.t 17))), []⟩,
    ⟨some 19, some (1, 16, true), (.op (.bin .geq (.t 18) (nI 0))), []⟩,
    (iO 20 (.pick (.t 16) (.t 19) (.c (.tv .bool (false : Bool))))),
    (iO 21 (.mv (.t 20))),
    ⟨some 22, some (6, 21, true), (.op (.fad 0 0 (.t 1))), []⟩,
    ⟨some 23, some (6, 21, true), (.op (.load false 1 (.t 22))), []⟩,
    ⟨some 24, some (6, 21, true), (.op (.bin .leq (.t 23) (nI 255))), []⟩,
    (iO 25 (.pick (.t 21) (.t 24) (.c (.tv .bool (false : Bool))))),
    (iO 26 (.mv (.t 25))),
    ⟨some 27, some (11, 26, true), (.op (.fad 1 1 (.t 1))), []⟩,
    ⟨some 28, some (11, 26, true), (.op (.load false 1 (.t 27))), []⟩,
    ⟨some 29, some (11, 26, true), (.op (.bin .geq (.t 28) (nI 0))), []⟩,
    (iO 30 (.pick (.t 26) (.t 29) (.c (.tv .bool (false : Bool))))),
    (iO 31 (.mv (.t 30))),
    ⟨some 32, some (16, 31, true), (.op (.fad 1 1 (.t 1))), []⟩,
    ⟨some 33, some (16, 31, true), (.op (.load false 1 (.t 32))), []⟩,
    ⟨some 34, some (16, 31, true), (.op (.bin .leq (.t 33) (nI 7))), []⟩,
    (iO 35 (.pick (.t 31) (.t 34) (.c (.tv .bool (false : Bool))))),
    (iO 36 (.mv (.t 35))),
    ⟨some 37, some (21, 36, true), (.op (.fad 4 4 (.t 1))), []⟩,
    ⟨some 38, some (21, 36, true), (.op (.load false 1 (.t 37))), []⟩,
    ⟨some 39, some (21, 36, true), (.op (.bin .geq (.t 38) (nI 1))), []⟩,
    (iO 40 (.pick (.t 36) (.t 39) (.c (.tv .bool (false : Bool))))),
    (iO 41 (.mv (.t 40))),
    ⟨some 42, some (26, 41, true), (.op (.fad 4 4 (.t 1))), []⟩,
    ⟨some 43, some (26, 41, true), (.op (.load false 1 (.t 42))), []⟩,
    ⟨some 44, some (26, 41, true), (.op (.bin .leq (.t 43) (nI 31))), []⟩,
    (iO 45 (.pick (.t 41) (.t 44) (.c (.tv .bool (false : Bool))))),
    (iO 46 (.mv (.t 45))),
    ⟨some 47, some (31, 46, true), (.op (.fad 5 5 (.t 1))), []⟩,
    ⟨some 48, some (31, 46, true), (.op (.load false 1 (.t 47))), []⟩,
    ⟨some 49, some (31, 46, true), (.op (.len (.t 48))), []⟩,
    ⟨some 50, some (31, 46, true), (.op (.bin .leq (.t 49) (nI 8))), []⟩,
    (iO 51 (.pick (.t 46) (.t 50) (.c (.tv .bool (false : Bool))))),
    (iO 5 (.mv (.t 51)))])
noncomputable def z8u0t (k : Nat) (d : z8u0p.D) : Option (XD z8u0x) := sheethead_mayu0 k d.1.2 d.2
theorem z8u0_k (k : Nat) : UOK P GL (mkU z8u0p z8u0x (z8u0t k) nilU) z8u0d false z8u0b :=
  unit_typed (ud := z8u0d) (body := z8u0b) (uorc := uorT (z8U0 k)) hmo (T7_ok k).oo (z8U0_k k) (AllU.no (by kernel_rfl)) (fun d => by kernel_rfl)
noncomputable def z8U1 (k : Nat) : List (Nat × Ent) := (0, ⟨mkU z8u0p z8u0x (z8u0t k) nilU⟩) :: z8U0 k
theorem z8U1_k (k : Nat) : UTab (z8U1 k) := (z8U0_k k).cons (mkU_nat nilU_nat)
noncomputable def z8u1d : UDef := ⟨[(5, none), (53, none), (54, none), (55, none)], [5, 7, 55, 56, 57, 58, 59, 60, 61, 62, 63, 64, 65, 66, 67, 68], [((.exit 0), [(5, none)])], []⟩
noncomputable def z8u1p : XPat := ⟨.normal, [(.tv .bool), (.tv (.sl (.int .i64))), (.tv (.int .i64)), (.tv (.int .i64))], []⟩
noncomputable def z8u1x : List XPat := [⟨(.exit 0), [(.tv .bool)], []⟩]
noncomputable def sheethead_mayu1 (k : Nat) : Nat → (Bool) → (List (Int)) → (Int) → (Int) → Option (Bool)
  | 0, _, _, _, _ => none
  | n + 1, x0, x1, x2, x3 =>
    bif (decide (x3 < x2)) then
      bif (inR x3 (List.length x1)) then
        bif x0 then
          bif (decide ((0 : Int) ≤ (List.getD x1 (Int.toNat x3) 0))) then
            Option.bind (sheethead_mayu1 k n (decide ((List.getD x1 (Int.toNat x3) 0) ≤ 255)) x1 x2 (wr .i64 (x3 + 1))) fun r => some r
          else
          Option.bind (sheethead_mayu1 k n false x1 x2 (wr .i64 (x3 + 1))) fun r => some r
        else
        Option.bind (sheethead_mayu1 k n false x1 x2 (wr .i64 (x3 + 1))) fun r => some r
      else
        none
    else
    some x0
noncomputable def z8u1b : AC :=
  (.seq (.region [(iO 56 (.bin .lss (.t 55) (.t 54)))])
  (.seq (.cond (.t 56)
  .skip
  (.exit 0))
  (.seq (.block 1 (.seq (.region [(iO 57 (.iads (.int .i64) (.t 53) (.t 55))),
    (iO 58 (.load false 1 (.t 57))),
    (iO 7 (.mv (.t 58)))])
  (.region [(iO 59 (.mv (.t 5))),
    (iO 60 (.mv (.t 59))),
    ⟨some 61, some (1, 60, true), (.op (.mv (.t 7))), []⟩,
    ⟨some 62, some (1, 60, true), (.op (.bin .geq (.t 61) (nI 0))), []⟩,
    (iO 63 (.pick (.t 60) (.t 62) (.c (.tv .bool (false : Bool))))),
    (iO 64 (.mv (.t 63))),
    ⟨some 65, some (5, 64, true), (.op (.mv (.t 7))), []⟩,
    ⟨some 66, some (5, 64, true), (.op (.bin .leq (.t 65) (nI 255))), []⟩,
    (iO 67 (.pick (.t 64) (.t 66) (.c (.tv .bool (false : Bool))))),
    (iO 5 (.mv (.t 67)))])))
  (.region [(iO 68 (.bin .add (.t 55) (nI 1))),
    (iO 55 (.mv (.t 68)))]))))
noncomputable def z8u1t (k n : Nat) (d : z8u1p.D) : Option (XD z8u1x) := sheethead_mayu1 k n d.1 d.2.1 d.2.2.1 d.2.2.2
theorem z8u1_k (k : Nat) : UOK P GL (mkU z8u1p z8u1x (z8u1t k k) nilU) z8u1d true z8u1b :=
  loop_typed (ud := z8u1d) (body := z8u1b) (uorc := uorT (z8U1 k)) hmo (T7_ok k).oo (z8U1_k k) (AllU.no (by kernel_rfl)) (t := z8u1t k) (fun d => by kernel_rfl) (fun n d => by kernel_rfl) k
noncomputable def z8U2 (k : Nat) : List (Nat × Ent) := (1, ⟨mkU z8u1p z8u1x (z8u1t k k) nilU⟩) :: z8U1 k
theorem z8U2_k (k : Nat) : UTab (z8U2 k) := (z8U1_k k).cons (mkU_nat nilU_nat)
noncomputable def sheethead_may (k : Nat) (x0 : DSheet) : Option (Bool) :=
  Option.bind (formats_Size k x0.2.2.1) fun (v26 : (Int) × ((Int) × ((Bool) × (Unit)))) =>
  Option.bind (sheethead_mayu0 k v26.2.2.1 x0) fun (v27 : (Bool) × (DSheet)) =>
  Option.bind (sheethead_mayu1 k k v27.1 v27.2.2.2.2.2.2.1 ((List.length v27.2.2.2.2.2.2.1 : Nat) : Int) 0) fun (v28 : Bool) =>
  some v28
noncomputable def z8b : AC :=
  (.seq (.region [(iO 1 (.box (.t 0))),
    (iO 2 (.mv (.c (.tv .bool (false : Bool)))))])
  (.seq (.region [(iO 9 (.fad 2 2 (.t 1))),
    (iO 10 (.load false 1 (.t 9))),
    (iC 11 48 [((.t 10), none)]),
    (iO 8 (.mv (.t 11))),
    (iO 12 (.ext (.t 8) 0)),
    (iO 13 (.ext (.t 8) 1)),
    (iO 14 (.ext (.t 8) 2)),
    (iO 3 (.mv (.t 12))),
    (iO 4 (.mv (.t 13))),
    (iO 5 (.mv (.t 14)))])
  (.seq (.unit 0 z8u0d false z8u0b)
  (.seq (.seq (.region [(iO 52 (.fad 5 5 (.t 1))),
    (iO 53 (.load false 1 (.t 52))),
    (iO 54 (.len (.t 53))),
    (iO 55 (.mv (nI 0)))])
  (.block 0 (.unit 1 z8u1d true z8u1b)))
  (.seq (.region [(iO 69 (.mv (.t 5))),
    (iO 2 (.mv (.t 69)))])
  .ret)))))
noncomputable def z8f : FDef := ⟨1, 70, [.tmp 2 none], z8b⟩
noncomputable def z8p : XPat := ⟨.normal, [(.tv YSheet)], []⟩
noncomputable def z8x : List XPat := [⟨.ret, [(.tv .bool)], []⟩]
noncomputable def z8t (k : Nat) (d : z8p.D) : Option (XD z8x) := sheethead_may k d
noncomputable def z8_e (k : Nat) : UEntry := mkU z8p z8x (z8t k) nilU
theorem z8_n (k : Nat) : UNat (z8_e k) := mkU_nat nilU_nat
theorem z8_fu (k : Nat) : FU P GL 46 (z8_e k) :=
  fn_typed (uorc := uorT (z8U2 k)) hmo (T7_ok k).oo (z8U2_k k) (fd := z8f) (AllU.seq (AllU.no (by kernel_rfl)) (AllU.seq (AllU.no (by kernel_rfl)) (AllU.seq (AllU.unit (uorc := uorT (z8U2 k)) (u := 0) (z8u0_k k)) (AllU.seq (AllU.seq (AllU.no (by kernel_rfl)) (AllU.block (AllU.unit (uorc := uorT (z8U2 k)) (u := 1) (z8u1_k k)))) (AllU.no (by kernel_rfl)))))) (fn := Tryz.f46) (by kernel_rfl) (by kernel_rfl) (fun d => by kernel_rfl) FU_nil
noncomputable def T8 (k : Nat) : List (Nat × Ent) := (46, ⟨z8_e k⟩) :: T7 k
theorem T8_ok (k : Nat) : TabOK P GL (T8 k) := (T7_ok k).cons (z8_fu k) (z8_n k)
/-! ### (*overspill.outbits.Writer).Fill -/
noncomputable def z9U0 (_ : Nat) : List (Nat × Ent) := []
theorem z9U0_k (k : Nat) : UTab (z9U0 k) := UTab.nil
noncomputable def outbits_Writer_Fill (k : Nat) (x0 : Int) (x1 : List (Int)) : Option ((Int) × (((Unit) × ((Int) × (Unit))) × (List (Int)))) :=
  some ((Int.tmod (wr .i64 (8 - (Int.tmod x0 8))) 8), (((), ((wr .i64 (x0 + (Int.tmod (wr .i64 (8 - (Int.tmod x0 8))) 8))), ())), x1))
noncomputable def z9b : AC :=
  (.seq (.region [(iO 2 (.mv (nI 0)))])
  (.seq (.seq (.region [(iO 4 (.mv (.t 0))),
    (iO 5 (.eqp false (.t 4) (.c .nilp)))])
  (.cond (.t 5)
  (.seq (.region [(iO 2 .bad)])
    .ret)
  .skip))
  (.seq (.region [(iO 6 (.mv (.t 0))),
    (iO 7 (.nilc (.t 6))),
    (iO 8 (.fad 1 1 (.t 7))),
    (iO 9 (.load false 1 (.t 8))),
    (iO 10 (.bin .rem (.t 9) (nI 8))),
    (iO 11 (.bin .sub (nI 8) (.t 10))),
    (iO 12 (.bin .rem (.t 11) (nI 8))),
    (iO 3 (.mv (.t 12)))])
  (.seq (.region [(iO 13 (.mv (.t 0))),
    (iO 14 (.nilc (.t 13))),
    (iO 15 (.fad 1 1 (.t 14))),
    (iO 16 (.load false 1 (.t 15))),
    (iO 17 (.mv (.t 3))),
    (iO 18 (.bin .add (.t 16) (.t 17))),
    (iO 19 (.nilc (.t 13))),
    (iO 20 (.fad 1 1 (.t 19))),
    (iS (.store 1 none (.t 20) (.t 18)))])
  (.seq (.region [(iO 21 (.mv (.t 3))),
    (iO 2 (.mv (.t 21)))])
  .ret)))))
noncomputable def z9f : FDef := ⟨1, 22, [.tmp 2 none], z9b⟩
noncomputable def z9p : XPat := ⟨.normal, [(.ptr 0 [])], [(.box (.cons (.row 1) (.cons (.tv (.int .i64)) .nil))), (.row (.int .u8) false)]⟩
noncomputable def z9x : List XPat := [⟨.ret, [(.tv (.int .i64))], [(.box (.cons (.row 1) (.cons (.tv (.int .i64)) .nil))), (.row (.int .u8) false)]⟩]
noncomputable def z9t (k : Nat) (d : z9p.D) : Option (XD z9x) := outbits_Writer_Fill k d.2.1.2.1 d.2.2
noncomputable def z9_e (k : Nat) : UEntry := mkU z9p z9x (z9t k) nilU
theorem z9_n (k : Nat) : UNat (z9_e k) := mkU_nat nilU_nat
theorem z9_fu (k : Nat) : FU P GL 28 (z9_e k) :=
  fn_typed (uorc := uorT (z9U0 k)) hmo (T8_ok k).oo (z9U0_k k) (fd := z9f) (AllU.no (by kernel_rfl)) (fn := Tryz.f28) (by kernel_rfl) (by kernel_rfl) (fun d => by kernel_rfl) FU_nil
noncomputable def T9 (k : Nat) : List (Nat × Ent) := (28, ⟨z9_e k⟩) :: T8 k
theorem T9_ok (k : Nat) : TabOK P GL (T9 k) := (T8_ok k).cons (z9_fu k) (z9_n k)
/-! ### overspill.outbits.fits -/
noncomputable def z10U0 (_ : Nat) : List (Nat × Ent) := []
theorem z10U0_k (k : Nat) : UTab (z10U0 k) := UTab.nil
noncomputable def outbits_fits (k : Nat) (x0 : Int) (x1 : Int) : Option (Bool) :=
  bif (decide ((0 : Int) ≤ x1)) then
    bif (decide (x1 ≤ 32)) then
      bif (decide ((0 : Int) ≤ x0)) then
        bif (decide ((wr .u64 x1) < 0)) then
          none
        else
        some (decide (x0 < (shlI .i64 1 (wr .u64 x1))))
      else
      some false
    else
    some false
  else
  some false
noncomputable def z10b : AC :=
  (.seq (.region [(iO 4 (.mv (.c (.tv .bool (false : Bool)))))])
  (.seq (.region [(iO 5 (.mv (.t 1))),
    (iO 6 (.bin .geq (.t 5) (nI 0))),
    (iO 7 (.mv (.t 6))),
    ⟨some 8, some (2, 7, true), (.op (.mv (.t 1))), []⟩,
    ⟨some 9, some (2, 7, true), (.op (.bin .leq (.t 8) (nI 32))), []⟩,
    (iO 10 (.pick (.t 7) (.t 9) (.c (.tv .bool (false : Bool))))),
    (iO 11 (.mv (.t 10))),
    ⟨some 12, some (6, 11, true), (.op (.mv (.t 0))), []⟩,
    ⟨some 13, some (6, 11, true), (.op (.bin .geq (.t 12) (nI 0))), []⟩,
    (iO 14 (.pick (.t 11) (.t 13) (.c (.tv .bool (false : Bool))))),
    (iO 15 (.mv (.t 14))),
    ⟨some 16, some (10, 15, true), (.op (.mv (.t 0))), []⟩,
    ⟨some 17, some (10, 15, true), (.op (.mv (.t 1))), []⟩,
    ⟨some 18, some (10, 15, true), (.op (.conv .u64 (.t 17))), []⟩,
    ⟨some 19, some (10, 15, true), (.op (.bin .shl (nI 1) (.t 18))), []⟩,
    ⟨some 20, some (10, 15, true), (.op (.bin .lss (.t 16) (.t 19))), []⟩,
    (iO 21 (.pick (.t 15) (.t 20) (.c (.tv .bool (false : Bool))))),
    (iO 4 (.mv (.t 21)))])
  .ret))
noncomputable def z10f : FDef := ⟨2, 22, [.tmp 4 none], z10b⟩
noncomputable def z10p : XPat := ⟨.normal, [(.tv (.int .i64)), (.tv (.int .i64))], []⟩
noncomputable def z10x : List XPat := [⟨.ret, [(.tv .bool)], []⟩]
noncomputable def z10t (k : Nat) (d : z10p.D) : Option (XD z10x) := outbits_fits k d.1 d.2
noncomputable def z10_e (k : Nat) : UEntry := mkU z10p z10x (z10t k) nilU
theorem z10_n (k : Nat) : UNat (z10_e k) := mkU_nat nilU_nat
theorem z10_fu (k : Nat) : FU P GL 61 (z10_e k) :=
  fn_typed (uorc := uorT (z10U0 k)) hmo (T9_ok k).oo (z10U0_k k) (fd := z10f) (AllU.no (by kernel_rfl)) (fn := Tryz.f61) (by kernel_rfl) (by kernel_rfl) (fun d => by kernel_rfl) FU_nil
noncomputable def T10 (k : Nat) : List (Nat × Ent) := (61, ⟨z10_e k⟩) :: T9 k
theorem T10_ok (k : Nat) : TabOK P GL (T10 k) := (T9_ok k).cons (z10_fu k) (z10_n k)
/-! ### (*overspill.outbits.Writer).bit -/
noncomputable def z11U0 (_ : Nat) : List (Nat × Ent) := []
theorem z11U0_k (k : Nat) : UTab (z11U0 k) := UTab.nil
noncomputable def z11u0d : UDef := ⟨[(0, none), (9, none)], [10, 11, 12, 13, 14, 15, 16, 17, 18], [(.normal, [])], []⟩
noncomputable def z11u0p : XPat := ⟨.normal, [(.ptr 0 []), (.tv .bool)], [(.box (.cons (.row 1) (.cons (.tv (.int .i64)) .nil))), (.row (.int .u8) false)]⟩
noncomputable def z11u0x : List XPat := [⟨.normal, [], [(.box (.cons (.row 1) (.cons (.tv (.int .i64)) .nil))), (.row (.int .u8) false)]⟩]
noncomputable def outbits_Writer_bitu0 (k : Nat) (x0 : Bool) (x1 : Int) (x2 : List (Int)) : Option ((Unit) × (((Unit) × ((Int) × (Unit))) × (List (Int)))) :=
  bif x0 then
    bif (decide ((List.length x2) + 1 ≤ rowMax)) then
      some ((), (((), (x1, ())), (x2 ++ ([0] : List (Int)))))
    else
      none
  else
  some ((), (((), (x1, ())), x2))
noncomputable def z11u0b : AC :=
  (.cond (.t 9)
  (.region [(iO 10 (.mv (.t 0))),
      (iO 11 (.mv (.t 0))),
      (iO 12 (.nilc (.t 11))),
      (iO 13 (.fad 0 0 (.t 12))),
      (iO 14 (.load false 1 (.t 13))),
      (iO 15 (.bslice (.int .u8) [(.c (.tv (.int .u8) (0 : Int)))])),
      (iO 16 (.app (.int .u8) (.t 14) (.t 15))),
      (iO 17 (.nilc (.t 10))),
      (iO 18 (.fad 0 0 (.t 17))),
      (iS (.store 1 none (.t 18) (.t 16)))])
  .skip)
noncomputable def z11u0t (k : Nat) (d : z11u0p.D) : Option (XD z11u0x) := outbits_Writer_bitu0 k d.1.2 d.2.1.2.1 d.2.2
theorem z11u0_k (k : Nat) : UOK P GL (mkU z11u0p z11u0x (z11u0t k) nilU) z11u0d false z11u0b :=
  unit_typed (ud := z11u0d) (body := z11u0b) (uorc := uorT (z11U0 k)) hmo (T10_ok k).oo (z11U0_k k) (AllU.no (by kernel_rfl)) (fun d => by kernel_rfl)
noncomputable def z11U1 (k : Nat) : List (Nat × Ent) := (0, ⟨mkU z11u0p z11u0x (z11u0t k) nilU⟩) :: z11U0 k
theorem z11U1_k (k : Nat) : UTab (z11U1 k) := (z11U0_k k).cons (mkU_nat nilU_nat)
noncomputable def z11u1d : UDef := ⟨[(0, none), (19, none)], [20, 21, 22, 23, 24, 25, 26, 27, 28, 29, 30, 31, 32, 33, 34, 35, 36, 37, 38, 39, 40], [(.normal, [])], []⟩
noncomputable def z11u1p : XPat := ⟨.normal, [(.ptr 0 []), (.tv .bool)], [(.box (.cons (.row 1) (.cons (.tv (.int .i64)) .nil))), (.row (.int .u8) false)]⟩
noncomputable def z11u1x : List XPat := [⟨.normal, [], [(.box (.cons (.row 1) (.cons (.tv (.int .i64)) .nil))), (.row (.int .u8) false)]⟩]
noncomputable def outbits_Writer_bitu1 (k : Nat) (x0 : Bool) (x1 : Int) (x2 : List (Int)) : Option ((Unit) × (((Unit) × ((Int) × (Unit))) × (List (Int)))) :=
  bif x0 then
    bif (inR (wr .i64 (Int.tdiv x1 8)) (List.length x2)) then
      bif (decide ((wr .u64 (wr .i64 (7 - (Int.tmod x1 8)))) < 0)) then
        none
      else
      bif (inR (wr .i64 (Int.tdiv x1 8)) (List.length x2)) then
        some ((), (((), (x1, ())), (List.set x2 (Int.toNat (wr .i64 (Int.tdiv x1 8))) (bitop .or .u8 (List.getD x2 (Int.toNat (wr .i64 (Int.tdiv x1 8))) 0) (shlI .u8 1 (wr .u64 (wr .i64 (7 - (Int.tmod x1 8)))))))))
      else
        none
    else
      none
  else
  some ((), (((), (x1, ())), x2))
noncomputable def z11u1b : AC :=
  (.cond (.t 19)
  (.draw [(iO 20 (.mv (.t 0))),
      (iOa 21 (.nilc (.t 20)) [0]),
      (iOa 22 (.fad 0 0 (.t 21)) [0, 1]),
      (iOa 23 (.load false 1 (.t 22)) [0, 1, 2]),
      (iO 24 (.mv (.t 0))),
      (iOa 25 (.nilc (.t 24)) [4]),
      (iOa 26 (.fad 1 1 (.t 25)) [4, 5]),
      (iOa 27 (.load false 1 (.t 26)) [4, 5, 6]),
      (iOa 28 (.bin .quo (.t 27) (nI 8)) (rg [4, 4])),
      (iOa 29 (.iads (.int .u8) (.t 23) (.t 28)) (rg [0, 9])),
      (iOa 30 (.load false 1 (.t 29)) (rg [0, 10])),
      (iO 31 (.mv (.t 0))),
      (iOa 32 (.nilc (.t 31)) [11]),
      (iOa 33 (.fad 1 1 (.t 32)) [11, 12]),
      (iOa 34 (.load false 1 (.t 33)) [11, 12, 13]),
      (iOa 35 (.bin .rem (.t 34) (nI 8)) (rg [11, 4])),
      (iOa 36 (.bin .sub (nI 7) (.t 35)) (rg [11, 5])),
      (iOa 37 (.conv .u64 (.t 36)) (rg [11, 6])),
      (iOa 38 (.bin .shl (.c (.tv (.int .u8) (1 : Int))) (.t 37)) (rg [11, 7])),
      (iOa 39 (.bin .or (.t 30) (.t 38)) (rg [0, 19])),
      (iOa 40 (.iads (.int .u8) (.t 23) (.t 28)) (rg [0, 20])),
      (iSa (.store 1 none (.t 40) (.t 39)) (rg [0, 21]))])
  .skip)
noncomputable def z11u1t (k : Nat) (d : z11u1p.D) : Option (XD z11u1x) := outbits_Writer_bitu1 k d.1.2 d.2.1.2.1 d.2.2
theorem z11u1_k (k : Nat) : UOK P GL (mkU z11u1p z11u1x (z11u1t k) nilU) z11u1d false z11u1b :=
  unit_typed (ud := z11u1d) (body := z11u1b) (uorc := uorT (z11U1 k)) hmo (T10_ok k).oo (z11U1_k k) (AllU.no (by kernel_rfl)) (fun d => by kernel_rfl)
noncomputable def z11U2 (k : Nat) : List (Nat × Ent) := (1, ⟨mkU z11u1p z11u1x (z11u1t k) nilU⟩) :: z11U1 k
theorem z11U2_k (k : Nat) : UTab (z11U2 k) := (z11U1_k k).cons (mkU_nat nilU_nat)
noncomputable def outbits_Writer_bit (k : Nat) (x0 : Bool) (x1 : Int) (x2 : List (Int)) : Option ((Unit) × (((Unit) × ((Int) × (Unit))) × (List (Int)))) :=
  Option.bind (outbits_Writer_bitu0 k (decide ((Int.tmod x1 8) = 0)) x1 x2) fun (v36 : (Unit) × (((Unit) × ((Int) × (Unit))) × (List (Int)))) =>
  Option.bind (outbits_Writer_bitu1 k x0 v36.2.1.2.1 v36.2.2) fun (v37 : (Unit) × (((Unit) × ((Int) × (Unit))) × (List (Int)))) =>
  some ((), (((), ((wr .i64 (v37.2.1.2.1 + 1)), ())), v37.2.2))
noncomputable def z11b : AC :=
  (.seq (.seq (.region [(iO 4 (.mv (.t 0))),
    (iO 5 (.nilc (.t 4))),
    (iO 6 (.fad 1 1 (.t 5))),
    (iO 7 (.load false 1 (.t 6))),
    (iO 8 (.bin .rem (.t 7) (nI 8))),
    (iO 9 (.bin .eql (.t 8) (nI 0)))])
  (.unit 0 z11u0d false z11u0b))
  (.seq (.seq (.region [(iO 19 (.mv (.t 1)))])
  (.unit 1 z11u1d false z11u1b))
  (.region [(iO 41 (.mv (.t 0))),
    (iO 42 (.nilc (.t 41))),
    (iO 43 (.fad 1 1 (.t 42))),
    (iO 44 (.load false 1 (.t 43))),
    (iO 45 (.bin .add (.t 44) (nI 1))),
    (iO 46 (.nilc (.t 41))),
    (iO 47 (.fad 1 1 (.t 46))),
    (iS (.store 1 none (.t 47) (.t 45)))])))
noncomputable def z11f : FDef := ⟨2, 48, [], z11b⟩
noncomputable def z11p : XPat := ⟨.normal, [(.ptr 0 []), (.tv .bool)], [(.box (.cons (.row 1) (.cons (.tv (.int .i64)) .nil))), (.row (.int .u8) false)]⟩
noncomputable def z11x : List XPat := [⟨.ret, [(.tup .nil)], [(.box (.cons (.row 1) (.cons (.tv (.int .i64)) .nil))), (.row (.int .u8) false)]⟩]
noncomputable def z11t (k : Nat) (d : z11p.D) : Option (XD z11x) := outbits_Writer_bit k d.1.2 d.2.1.2.1 d.2.2
noncomputable def z11_e (k : Nat) : UEntry := mkU z11p z11x (z11t k) nilU
theorem z11_n (k : Nat) : UNat (z11_e k) := mkU_nat nilU_nat
theorem z11_fu (k : Nat) : FU P GL 19 (z11_e k) :=
  fn_typed (uorc := uorT (z11U2 k)) hmo (T10_ok k).oo (z11U2_k k) (fd := z11f) (AllU.seq (AllU.seq (AllU.no (by kernel_rfl)) (AllU.unit (uorc := uorT (z11U2 k)) (u := 0) (z11u0_k k))) (AllU.seq (AllU.seq (AllU.no (by kernel_rfl)) (AllU.unit (uorc := uorT (z11U2 k)) (u := 1) (z11u1_k k))) (AllU.no (by kernel_rfl)))) (fn := Tryz.f19) (by kernel_rfl) (by kernel_rfl) (fun d => by kernel_rfl) FU_nil
noncomputable def T11 (k : Nat) : List (Nat × Ent) := (19, ⟨z11_e k⟩) :: T10 k
theorem T11_ok (k : Nat) : TabOK P GL (T11 k) := (T10_ok k).cons (z11_fu k) (z11_n k)
/-! ### (*overspill.outbits.Writer).Put -/
noncomputable def z12U0 (_ : Nat) : List (Nat × Ent) := []
theorem z12U0_k (k : Nat) : UTab (z12U0 k) := UTab.nil
noncomputable def z12u0d : UDef := ⟨[(0, none), (1, none), (2, none)], [8, 9, 10, 11, 12, 13, 14, 15], [(.normal, [(15, none)])], []⟩
noncomputable def z12u0p : XPat := ⟨.normal, [(.ptr 0 []), (.tv (.int .i64)), (.tv (.int .i64))], [(.box (.cons (.row 1) (.cons (.tv (.int .i64)) .nil))), (.row (.int .u8) false)]⟩
noncomputable def z12u0x : List XPat := [⟨.normal, [(.tv .bool)], [(.box (.cons (.row 1) (.cons (.tv (.int .i64)) .nil))), (.row (.int .u8) false)]⟩]
noncomputable def outbits_Writer_Putu0 (k : Nat) (x0 : Int) (x1 : Int) (x2 : Int) (x3 : List (Int)) : Option ((Bool) × (((Unit) × ((Int) × (Unit))) × (List (Int)))) :=
  Option.bind (outbits_fits k x0 x1) fun (v34 : Bool) =>
  some ((!v34), (((), (x2, ())), x3))
noncomputable def z12u0b : AC :=
  (.region [(iO 8 (.mv (.t 0))),
    (iO 9 (.eqp false (.t 8) (.c .nilp))),
    (iO 10 (.mv (.t 9))),
    ⟨some 11, some (2, 10, false), (.op (.mv (.t 1))), []⟩,
    ⟨some 12, some (2, 10, false), (.op (.mv (.t 2))), []⟩,
    ⟨some 13, some (2, 10, false), (.call (.c (.fn 61 .nil .nil)) [((.t 11), none), ((.t 12), none)]), []⟩,
    ⟨some 14, some (2, 10, false), (.op (.un .not (.t 13))), []⟩,
    (iO 15 (.pick (.t 10) (.c (.tv .bool (true : Bool))) (.t 14)))])
noncomputable def z12u0t (k : Nat) (d : z12u0p.D) : Option (XD z12u0x) := outbits_Writer_Putu0 k d.1.2.1 d.1.2.2 d.2.1.2.1 d.2.2
theorem z12u0_k (k : Nat) : UOK P GL (mkU z12u0p z12u0x (z12u0t k) nilU) z12u0d false z12u0b :=
  unit_typed (ud := z12u0d) (body := z12u0b) (uorc := uorT (z12U0 k)) hmo (T11_ok k).oo (z12U0_k k) (AllU.no (by kernel_rfl)) (fun d => by kernel_rfl)
noncomputable def z12U1 (k : Nat) : List (Nat × Ent) := (0, ⟨mkU z12u0p z12u0x (z12u0t k) nilU⟩) :: z12U0 k
theorem z12U1_k (k : Nat) : UTab (z12U1 k) := (z12U0_k k).cons (mkU_nat nilU_nat)
noncomputable def z12u1d : UDef := ⟨[(0, none), (1, none), (7, none)], [7, 18, 19, 20, 21, 22, 23, 24, 25, 26, 27, 28, 29], [((.exit 0), [])], []⟩
noncomputable def z12u1p : XPat := ⟨.normal, [(.ptr 0 []), (.tv (.int .i64)), (.tv (.int .i64))], [(.box (.cons (.row 1) (.cons (.tv (.int .i64)) .nil))), (.row (.int .u8) false)]⟩
noncomputable def z12u1x : List XPat := [⟨(.exit 0), [], [(.box (.cons (.row 1) (.cons (.tv (.int .i64)) .nil))), (.row (.int .u8) false)]⟩]
noncomputable def outbits_Writer_Putu1 (k : Nat) : Nat → (Int) → (Int) → (Int) → (List (Int)) → Option ((Unit) × (((Unit) × ((Int) × (Unit))) × (List (Int))))
  | 0, _, _, _, _ => none
  | n + 1, x0, x1, x2, x3 =>
    bif (decide ((0 : Int) ≤ x1)) then
      bif (decide ((wr .u64 x1) < 0)) then
        none
      else
      Option.bind (outbits_Writer_bit k (decide ((bitop .and .i64 (shrI .i64 x0 (wr .u64 x1)) 1) = 1)) x2 x3) fun (v39 : (Unit) × (((Unit) × ((Int) × (Unit))) × (List (Int)))) =>
      Option.bind (outbits_Writer_Putu1 k n x0 (wr .i64 (x1 - 1)) v39.2.1.2.1 v39.2.2) fun r => some r
    else
    some ((), (((), (x2, ())), x3))
noncomputable def z12u1b : AC :=
  (.seq (.seq (.region [(iO 18 (.mv (.t 7))),
    (iO 19 (.bin .geq (.t 18) (nI 0)))])
  (.cond (.t 19)
  .skip
  (.exit 0)))
  (.seq (.block 1 (.region [(iO 22 (.mv (.t 0))),
    (iO 23 (.mv (.t 1))),
    (iO 24 (.mv (.t 7))),
    (iO 25 (.conv .u64 (.t 24))),
    (iO 26 (.bin .shr (.t 23) (.t 25))),
    (iO 27 (.bin .and (.t 26) (nI 1))),
    (iO 28 (.bin .eql (.t 27) (nI 1))),
    (iC 29 19 [((.t 22), none), ((.t 28), none)])]))
  (.region [(iO 20 (.mv (.t 7))),
    (iO 21 (.bin .sub (.t 20) (nI 1))),
    (iO 7 (.mv (.t 21)))])))
noncomputable def z12u1t (k n : Nat) (d : z12u1p.D) : Option (XD z12u1x) := outbits_Writer_Putu1 k n d.1.2.1 d.1.2.2 d.2.1.2.1 d.2.2
theorem z12u1_k (k : Nat) : UOK P GL (mkU z12u1p z12u1x (z12u1t k k) nilU) z12u1d true z12u1b :=
  loop_typed (ud := z12u1d) (body := z12u1b) (uorc := uorT (z12U1 k)) hmo (T11_ok k).oo (z12U1_k k) (AllU.no (by kernel_rfl)) (t := z12u1t k) (fun d => by kernel_rfl) (fun n d => by kernel_rfl) k
noncomputable def z12U2 (k : Nat) : List (Nat × Ent) := (1, ⟨mkU z12u1p z12u1x (z12u1t k k) nilU⟩) :: z12U1 k
theorem z12U2_k (k : Nat) : UTab (z12U2 k) := (z12U1_k k).cons (mkU_nat nilU_nat)
noncomputable def outbits_Writer_Put (k : Nat) (x0 : Int) (x1 : Int) (x2 : Int) (x3 : List (Int)) : Option ((Int) × (((Unit) × ((Int) × (Unit))) × (List (Int)))) :=
  Option.bind (outbits_Writer_Putu0 k x0 x1 x2 x3) fun (v35 : (Bool) × (((Unit) × ((Int) × (Unit))) × (List (Int)))) =>
  bif v35.1 then
    some (1, (((), (v35.2.1.2.1, ())), v35.2.2))
  else
  Option.bind (outbits_Writer_Putu1 k k x0 (wr .i64 (x1 - 1)) v35.2.1.2.1 v35.2.2) fun (v40 : (Unit) × (((Unit) × ((Int) × (Unit))) × (List (Int)))) =>
  some (0, (((), (v40.2.1.2.1, ())), v40.2.2))
noncomputable def z12b : AC :=
  (.seq (.region [(iO 6 (.mv (nI 0)))])
  (.seq (.seq (.unit 0 z12u0d false z12u0b)
  (.cond (.t 15)
  (.seq (.region [(iO 6 (.mv (nI 1)))])
    .ret)
  .skip))
  (.seq (.seq (.region [(iO 16 (.mv (.t 2))),
    (iO 17 (.bin .sub (.t 16) (nI 1))),
    (iO 7 (.mv (.t 17)))])
  (.block 0 (.unit 1 z12u1d true z12u1b)))
  (.seq (.region [(iO 6 (.mv (nI 0)))])
  .ret))))
noncomputable def z12f : FDef := ⟨3, 30, [.tmp 6 none], z12b⟩
noncomputable def z12p : XPat := ⟨.normal, [(.ptr 0 []), (.tv (.int .i64)), (.tv (.int .i64))], [(.box (.cons (.row 1) (.cons (.tv (.int .i64)) .nil))), (.row (.int .u8) false)]⟩
noncomputable def z12x : List XPat := [⟨.ret, [(.tv (.int .i64))], [(.box (.cons (.row 1) (.cons (.tv (.int .i64)) .nil))), (.row (.int .u8) false)]⟩]
noncomputable def z12t (k : Nat) (d : z12p.D) : Option (XD z12x) := outbits_Writer_Put k d.1.2.1 d.1.2.2 d.2.1.2.1 d.2.2
noncomputable def z12_e (k : Nat) : UEntry := mkU z12p z12x (z12t k) nilU
theorem z12_n (k : Nat) : UNat (z12_e k) := mkU_nat nilU_nat
theorem z12_fu (k : Nat) : FU P GL 29 (z12_e k) :=
  fn_typed (uorc := uorT (z12U2 k)) hmo (T11_ok k).oo (z12U2_k k) (fd := z12f) (AllU.seq (AllU.no (by kernel_rfl)) (AllU.seq (AllU.seq (AllU.unit (uorc := uorT (z12U2 k)) (u := 0) (z12u0_k k)) (AllU.no (by kernel_rfl))) (AllU.seq (AllU.seq (AllU.no (by kernel_rfl)) (AllU.block (AllU.unit (uorc := uorT (z12U2 k)) (u := 1) (z12u1_k k)))) (AllU.no (by kernel_rfl))))) (fn := Tryz.f29) (by kernel_rfl) (by kernel_rfl) (fun d => by kernel_rfl) FU_nil
noncomputable def T12 (k : Nat) : List (Nat × Ent) := (29, ⟨z12_e k⟩) :: T11 k
theorem T12_ok (k : Nat) : TabOK P GL (T12 k) := (T11_ok k).cons (z12_fu k) (z12_n k)
/-! ### overspill.marks.Put -/
noncomputable def z13U0 (_ : Nat) : List (Nat × Ent) := []
theorem z13U0_k (k : Nat) : UTab (z13U0 k) := UTab.nil
noncomputable def z13u0d : UDef := ⟨[(0, none), (1, none)], [5, 6, 7, 8, 9, 10, 11, 12, 13, 14], [(.normal, [(14, none)])], []⟩
noncomputable def z13u0p : XPat := ⟨.normal, [(.ptr 0 []), (.tv (.int .i64))], [(.box (.cons (.row 1) (.cons (.tv (.int .i64)) .nil))), (.row (.int .u8) false)]⟩
noncomputable def z13u0x : List XPat := [⟨.normal, [(.tv .bool)], [(.box (.cons (.row 1) (.cons (.tv (.int .i64)) .nil))), (.row (.int .u8) false)]⟩]
noncomputable def marks_Putu0 (k : Nat) (x0 : Int) (x1 : Int) (x2 : List (Int)) : Option ((Bool) × (((Unit) × ((Int) × (Unit))) × (List (Int)))) :=
  bif (decide (x0 < 0)) then
    some (true, (((), (x1, ())), x2))
  else
  some ((decide ((31 : Int) < x0)), (((), (x1, ())), x2))
noncomputable def z13u0b : AC :=
  (.region [(iO 5 (.mv (.t 0))),
    (iO 6 (.eqp false (.t 5) (.c .nilp))),
    (iO 7 (.mv (.t 6))),
    ⟨some 8, some (2, 7, false), (.op (.mv (.t 1))), []⟩,
    ⟨some 9, some (2, 7, false), (.op (.bin .lss (.t 8) (nI 0))), []⟩,
    (iO 10 (.pick (.t 7) (.c (.tv .bool (true : Bool))) (.t 9))),
    (iO 11 (.mv (.t 10))),
    ⟨some 12, some (6, 11, false), (.op (.mv (.t 1))), []⟩,
    ⟨some 13, some (6, 11, false), (.op (.bin .gtr (.t 12) (nI 31))), []⟩,
    (iO 14 (.pick (.t 11) (.c (.tv .bool (true : Bool))) (.t 13)))])
noncomputable def z13u0t (k : Nat) (d : z13u0p.D) : Option (XD z13u0x) := marks_Putu0 k d.1.2 d.2.1.2.1 d.2.2
theorem z13u0_k (k : Nat) : UOK P GL (mkU z13u0p z13u0x (z13u0t k) nilU) z13u0d false z13u0b :=
  unit_typed (ud := z13u0d) (body := z13u0b) (uorc := uorT (z13U0 k)) hmo (T12_ok k).oo (z13U0_k k) (AllU.no (by kernel_rfl)) (fun d => by kernel_rfl)
noncomputable def z13U1 (k : Nat) : List (Nat × Ent) := (0, ⟨mkU z13u0p z13u0x (z13u0t k) nilU⟩) :: z13U0 k
theorem z13U1_k (k : Nat) : UTab (z13U1 k) := (z13U0_k k).cons (mkU_nat nilU_nat)
noncomputable def marks_Put (k : Nat) (x0 : Int) (x1 : Int) (x2 : List (Int)) : Option ((Int) × (((Unit) × ((Int) × (Unit))) × (List (Int)))) :=
  Option.bind (marks_Putu0 k x0 x1 x2) fun (v31 : (Bool) × (((Unit) × ((Int) × (Unit))) × (List (Int)))) =>
  bif v31.1 then
    some (1, (((), (v31.2.1.2.1, ())), v31.2.2))
  else
  Option.bind (outbits_Writer_Fill k v31.2.1.2.1 v31.2.2) fun (v32 : (Int) × (((Unit) × ((Int) × (Unit))) × (List (Int)))) =>
  Option.bind (outbits_Writer_Put k (bitop .or .i64 32 x0) 22 v32.2.1.2.1 v32.2.2) fun (v41 : (Int) × (((Unit) × ((Int) × (Unit))) × (List (Int)))) =>
  some (v41.1, (((), (v41.2.1.2.1, ())), v41.2.2))
noncomputable def z13b : AC :=
  (.seq (.region [(iO 4 (.mv (nI 0)))])
  (.seq (.seq (.unit 0 z13u0d false z13u0b)
  (.cond (.t 14)
  (.seq (.region [(iO 4 (.mv (nI 1)))])
    .ret)
  .skip))
  (.seq (.region [(iO 15 (.mv (.t 0))),
    (iC 16 28 [((.t 15), none)])])
  (.seq (.region [(iO 17 (.mv (.t 0))),
    (iO 18 (.mv (.t 1))),
    (iO 19 (.bin .or (nI 32) (.t 18))),
    (iC 20 29 [((.t 17), none), ((.t 19), none), ((nI 22), none)]),
    (iO 4 (.mv (.t 20)))])
  .ret))))
noncomputable def z13f : FDef := ⟨2, 21, [.tmp 4 none], z13b⟩
noncomputable def z13p : XPat := ⟨.normal, [(.ptr 0 []), (.tv (.int .i64))], [(.box (.cons (.row 1) (.cons (.tv (.int .i64)) .nil))), (.row (.int .u8) false)]⟩
noncomputable def z13x : List XPat := [⟨.ret, [(.tv (.int .i64))], [(.box (.cons (.row 1) (.cons (.tv (.int .i64)) .nil))), (.row (.int .u8) false)]⟩]
noncomputable def z13t (k : Nat) (d : z13p.D) : Option (XD z13x) := marks_Put k d.1.2 d.2.1.2.1 d.2.2
noncomputable def z13_e (k : Nat) : UEntry := mkU z13p z13x (z13t k) nilU
theorem z13_n (k : Nat) : UNat (z13_e k) := mkU_nat nilU_nat
theorem z13_fu (k : Nat) : FU P GL 47 (z13_e k) :=
  fn_typed (uorc := uorT (z13U1 k)) hmo (T12_ok k).oo (z13U1_k k) (fd := z13f) (AllU.seq (AllU.no (by kernel_rfl)) (AllU.seq (AllU.seq (AllU.unit (uorc := uorT (z13U1 k)) (u := 0) (z13u0_k k)) (AllU.no (by kernel_rfl))) (AllU.no (by kernel_rfl)))) (fn := Tryz.f47) (by kernel_rfl) (by kernel_rfl) (fun d => by kernel_rfl) FU_nil
noncomputable def T13 (k : Nat) : List (Nat × Ent) := (47, ⟨z13_e k⟩) :: T12 k
theorem T13_ok (k : Nat) : TabOK P GL (T13 k) := (T12_ok k).cons (z13_fu k) (z13_n k)
/-! ### overspill.sheethead.Put -/
noncomputable def z14U0 (_ : Nat) : List (Nat × Ent) := []
theorem z14U0_k (k : Nat) : UTab (z14U0 k) := UTab.nil
noncomputable def z14u0d : UDef := ⟨[(5, none), (16, none)], [5], [(.normal, [(5, none)])], []⟩
noncomputable def z14u0p : XPat := ⟨.normal, [(.tv (.int .i64)), (.tv .bool)], []⟩
noncomputable def z14u0x : List XPat := [⟨.normal, [(.tv (.int .i64))], []⟩]
noncomputable def sheethead_Putu0 (k : Nat) (x0 : Int) (x1 : Bool) : Option (Int) :=
  bif x1 then
    some 1
  else
  some x0
noncomputable def z14u0b : AC :=
  (.cond (.t 16)
  (.region [(iO 5 (.mv (nI 1)))])
  .skip)
noncomputable def z14u0t (k : Nat) (d : z14u0p.D) : Option (XD z14u0x) := sheethead_Putu0 k d.1 d.2
theorem z14u0_k (k : Nat) : UOK P GL (mkU z14u0p z14u0x (z14u0t k) nilU) z14u0d false z14u0b :=
  unit_typed (ud := z14u0d) (body := z14u0b) (uorc := uorT (z14U0 k)) hmo (T13_ok k).oo (z14U0_k k) (AllU.no (by kernel_rfl)) (fun d => by kernel_rfl)
noncomputable def z14U1 (k : Nat) : List (Nat × Ent) := (0, ⟨mkU z14u0p z14u0x (z14u0t k) nilU⟩) :: z14U0 k
theorem z14U1_k (k : Nat) : UTab (z14U1 k) := (z14U0_k k).cons (mkU_nat nilU_nat)
noncomputable def z14u1d : UDef := ⟨[(0, none), (45, none), (46, none), (47, none)], [7, 47, 48, 49, 50, 51, 52, 53, 54, 55], [((.exit 1), [])], []⟩
noncomputable def z14u1p : XPat := ⟨.normal, [(.ptr 0 []), (.tv (.sl (.int .i64))), (.tv (.int .i64)), (.tv (.int .i64))], [(.box (.cons (.row 1) (.cons (.tv (.int .i64)) .nil))), (.row (.int .u8) false)]⟩
noncomputable def z14u1x : List XPat := [⟨(.exit 1), [], [(.box (.cons (.row 1) (.cons (.tv (.int .i64)) .nil))), (.row (.int .u8) false)]⟩]
noncomputable def sheethead_Putu1 (k : Nat) : Nat → (List (Int)) → (Int) → (Int) → (Int) → (List (Int)) → Option ((Unit) × (((Unit) × ((Int) × (Unit))) × (List (Int))))
  | 0, _, _, _, _, _ => none
  | n + 1, x0, x1, x2, x3, x4 =>
    bif (decide (x2 < x1)) then
      bif (inR x2 (List.length x0)) then
        Option.bind (outbits_Writer_Put k (bitop .or .i64 256 (List.getD x0 (Int.toNat x2) 0)) 9 x3 x4) fun (v52 : (Int) × (((Unit) × ((Int) × (Unit))) × (List (Int)))) =>
        Option.bind (sheethead_Putu1 k n x0 x1 (wr .i64 (x2 + 1)) v52.2.1.2.1 v52.2.2) fun r => some r
      else
        none
    else
    some ((), (((), (x3, ())), x4))
noncomputable def z14u1b : AC :=
  (.seq (.region [(iO 48 (.bin .lss (.t 47) (.t 46)))])
  (.seq (.cond (.t 48)
  .skip
  (.exit 1))
  (.seq (.block 2 (.seq (.region [(iO 49 (.iads (.int .i64) (.t 45) (.t 47))),
    (iO 50 (.load false 1 (.t 49))),
    (iO 7 (.mv (.t 50)))])
  (.region [(iO 51 (.mv (.t 0))),
    (iO 52 (.mv (.t 7))),
    (iO 53 (.bin .or (nI 256) (.t 52))),
    (iC 54 29 [((.t 51), none), ((.t 53), none), ((nI 9), none)])])))
  (.region [(iO 55 (.bin .add (.t 47) (nI 1))),
    (iO 47 (.mv (.t 55)))]))))
noncomputable def z14u1t (k n : Nat) (d : z14u1p.D) : Option (XD z14u1x) := sheethead_Putu1 k n d.1.2.1 d.1.2.2.1 d.1.2.2.2 d.2.1.2.1 d.2.2
theorem z14u1_k (k : Nat) : UOK P GL (mkU z14u1p z14u1x (z14u1t k k) nilU) z14u1d true z14u1b :=
  loop_typed (ud := z14u1d) (body := z14u1b) (uorc := uorT (z14U1 k)) hmo (T13_ok k).oo (z14U1_k k) (AllU.no (by kernel_rfl)) (t := z14u1t k) (fun d => by kernel_rfl) (fun n d => by kernel_rfl) k
noncomputable def z14U2 (k : Nat) : List (Nat × Ent) := (1, ⟨mkU z14u1p z14u1x (z14u1t k k) nilU⟩) :: z14U1 k
theorem z14U2_k (k : Nat) : UTab (z14U2 k) := (z14U1_k k).cons (mkU_nat nilU_nat)
noncomputable def sheethead_Put (k : Nat) (x0 : DSheet) (x1 : Int) (x2 : List (Int)) : Option ((Int) × (((Unit) × ((Int) × (Unit))) × (List (Int)))) :=
  Option.bind (sheethead_may k x0) fun (v29 : Bool) =>
  bif (!v29) then
    some (12, (((), (x1, ())), x2))
  else
  Option.bind (sheethead_Putu0 k 0 x0.2.2.2.1) fun (v30 : Int) =>
  Option.bind (marks_Put k 0 x1 x2) fun (v42 : (Int) × (((Unit) × ((Int) × (Unit))) × (List (Int)))) =>
  Option.bind (outbits_Writer_Put k x0.1 8 v42.2.1.2.1 v42.2.2) fun (v43 : (Int) × (((Unit) × ((Int) × (Unit))) × (List (Int)))) =>
  Option.bind (outbits_Writer_Put k 2 2 v43.2.1.2.1 v43.2.2) fun (v44 : (Int) × (((Unit) × ((Int) × (Unit))) × (List (Int)))) =>
  Option.bind (outbits_Writer_Put k x0.2.1 3 v44.2.1.2.1 v44.2.2) fun (v45 : (Int) × (((Unit) × ((Int) × (Unit))) × (List (Int)))) =>
  Option.bind (outbits_Writer_Put k x0.2.2.1 3 v45.2.1.2.1 v45.2.2) fun (v46 : (Int) × (((Unit) × ((Int) × (Unit))) × (List (Int)))) =>
  Option.bind (outbits_Writer_Put k v30 1 v46.2.1.2.1 v46.2.2) fun (v47 : (Int) × (((Unit) × ((Int) × (Unit))) × (List (Int)))) =>
  Option.bind (outbits_Writer_Put k 0 4 v47.2.1.2.1 v47.2.2) fun (v48 : (Int) × (((Unit) × ((Int) × (Unit))) × (List (Int)))) =>
  Option.bind (outbits_Writer_Put k x0.2.2.2.2.1 5 v48.2.1.2.1 v48.2.2) fun (v49 : (Int) × (((Unit) × ((Int) × (Unit))) × (List (Int)))) =>
  Option.bind (outbits_Writer_Put k 0 1 v49.2.1.2.1 v49.2.2) fun (v50 : (Int) × (((Unit) × ((Int) × (Unit))) × (List (Int)))) =>
  Option.bind (sheethead_Putu1 k k x0.2.2.2.2.2.1 ((List.length x0.2.2.2.2.2.1 : Nat) : Int) 0 v50.2.1.2.1 v50.2.2) fun (v53 : (Unit) × (((Unit) × ((Int) × (Unit))) × (List (Int)))) =>
  Option.bind (outbits_Writer_Put k 0 1 v53.2.1.2.1 v53.2.2) fun (v54 : (Int) × (((Unit) × ((Int) × (Unit))) × (List (Int)))) =>
  some (v54.1, (((), (v54.2.1.2.1, ())), v54.2.2))
noncomputable def z14b : AC :=
  (.seq (.region [(iO 3 (.box (.t 1))),
    (iO 4 (.mv (nI 0)))])
  (.seq (.block 0 (.seq (.region [(iO 9 (.mv (.t 0))),
    (iO 10 (.eqp false (.t 9) (.c .nilp))),
    (iO 8 (.mv (.t 10)))])
  (.cond (.t 8)
  (.seq (.region [(iO 4 .bad)])
    .ret)
  (.seq (.region [(iO 12 (.load true 8 (.t 3))),
      (iC 13 46 [((.t 12), some YSheet)]),
      (iO 14 (.un .not (.t 13))),
      (iO 11 (.mv (.t 14)))])
    (.cond (.t 11)
    (.seq (.region [(iO 4 (.mv (nI 12)))])
      .ret)
    .skip)))))
  (.seq (.region [(iO 5 (.mv (nI 0)))])
  (.seq (.seq (.region [(iO 15 (.fad 3 3 (.t 3))),
    (iO 16 (.load false 1 (.t 15)))])
  (.unit 0 z14u0d false z14u0b))
  (.seq (.region [(iO 17 (.mv (.t 0))),
    (iC 18 47 [((.t 17), none), ((nI 0), none)])])
  (.seq (.region [(iO 19 (.mv (.t 0))),
    (iO 20 (.fad 0 0 (.t 3))),
    (iO 21 (.load false 1 (.t 20))),
    (iC 22 29 [((.t 19), none), ((.t 21), none), ((nI 8), none)])])
  (.seq (.region [(iO 23 (.mv (.t 0))),
    (iC 24 29 [((.t 23), none), ((nI 2), none), ((nI 2), none)])])
  (.seq (.region [(iO 25 (.mv (.t 0))),
    (iO 26 (.fad 1 1 (.t 3))),
    (iO 27 (.load false 1 (.t 26))),
    (iC 28 29 [((.t 25), none), ((.t 27), none), ((nI 3), none)])])
  (.seq (.region [(iO 29 (.mv (.t 0))),
    (iO 30 (.fad 2 2 (.t 3))),
    (iO 31 (.load false 1 (.t 30))),
    (iC 32 29 [((.t 29), none), ((.t 31), none), ((nI 3), none)])])
  (.seq (.region [(iO 33 (.mv (.t 0))),
    (iO 34 (.mv (.t 5))),
    (iC 35 29 [((.t 33), none), ((.t 34), none), ((nI 1), none)])])
  (.seq (.region [(iO 36 (.mv (.t 0))),
    (iC 37 29 [((.t 36), none), ((nI 0), none), ((nI 4), none)])])
  (.seq (.region [(iO 38 (.mv (.t 0))),
    (iO 39 (.fad 4 4 (.t 3))),
    (iO 40 (.load false 1 (.t 39))),
    (iC 41 29 [((.t 38), none), ((.t 40), none), ((nI 5), none)])])
  (.seq (.region [(iO 42 (.mv (.t 0))),
    (iC 43 29 [((.t 42), none), ((nI 0), none), ((nI 1), none)])])
  (.seq (.seq (.region [(iO 44 (.fad 5 5 (.t 3))),
    (iO 45 (.load false 1 (.t 44))),
    (iO 46 (.len (.t 45))),
    (iO 47 (.mv (nI 0)))])
  (.block 1 (.unit 1 z14u1d true z14u1b)))
  (.seq (.region [(iO 56 (.mv (.t 0))),
    (iC 57 29 [((.t 56), none), ((nI 0), none), ((nI 1), none)]),
    (iO 4 (.mv (.t 57)))])
  .ret)))))))))))))))
noncomputable def z14f : FDef := ⟨2, 58, [.tmp 4 none], z14b⟩
noncomputable def z14p : XPat := ⟨.normal, [(.ptr 0 []), (.tv YSheet)], [(.box (.cons (.row 1) (.cons (.tv (.int .i64)) .nil))), (.row (.int .u8) false)]⟩
noncomputable def z14x : List XPat := [⟨.ret, [(.tv (.int .i64))], [(.box (.cons (.row 1) (.cons (.tv (.int .i64)) .nil))), (.row (.int .u8) false)]⟩]
noncomputable def z14t (k : Nat) (d : z14p.D) : Option (XD z14x) := sheethead_Put k d.1.2 d.2.1.2.1 d.2.2
noncomputable def z14_e (k : Nat) : UEntry := mkU z14p z14x (z14t k) nilU
theorem z14_n (k : Nat) : UNat (z14_e k) := mkU_nat nilU_nat
theorem z14_fu (k : Nat) : FU P GL 21 (z14_e k) :=
  fn_typed (uorc := uorT (z14U2 k)) hmo (T13_ok k).oo (z14U2_k k) (fd := z14f) (AllU.seq (AllU.no (by kernel_rfl)) (AllU.seq (AllU.no (by kernel_rfl)) (AllU.seq (AllU.no (by kernel_rfl)) (AllU.seq (AllU.seq (AllU.no (by kernel_rfl)) (AllU.unit (uorc := uorT (z14U2 k)) (u := 0) (z14u0_k k))) (AllU.seq (AllU.no (by kernel_rfl)) (AllU.seq (AllU.no (by kernel_rfl)) (AllU.seq (AllU.no (by kernel_rfl)) (AllU.seq (AllU.no (by kernel_rfl)) (AllU.seq (AllU.no (by kernel_rfl)) (AllU.seq (AllU.no (by kernel_rfl)) (AllU.seq (AllU.no (by kernel_rfl)) (AllU.seq (AllU.no (by kernel_rfl)) (AllU.seq (AllU.no (by kernel_rfl)) (AllU.seq (AllU.seq (AllU.no (by kernel_rfl)) (AllU.block (AllU.unit (uorc := uorT (z14U2 k)) (u := 1) (z14u1_k k)))) (AllU.no (by kernel_rfl)))))))))))))))) (fn := Tryz.f21) (by kernel_rfl) (by kernel_rfl) (fun d => by kernel_rfl) FU_nil
noncomputable def T14 (k : Nat) : List (Nat × Ent) := (21, ⟨z14_e k⟩) :: T13 k
theorem T14_ok (k : Nat) : TabOK P GL (T14 k) := (T13_ok k).cons (z14_fu k) (z14_n k)
/-! ### overspill.cellout.bare -/
noncomputable def z15U0 (_ : Nat) : List (Nat × Ent) := []
theorem z15U0_k (k : Nat) : UTab (z15U0 k) := UTab.nil
noncomputable def z15u0d : UDef := ⟨[(1, none)], [3, 6, 7, 8, 9, 10, 11, 12, 13, 14, 15, 16, 17, 18, 19, 20, 21, 22, 23, 24, 25], [(.normal, [(3, none)])], []⟩
noncomputable def z15u0p : XPat := ⟨.normal, [(.ptr 0 [])], [(.box (.tv YCell))]⟩
noncomputable def z15u0x : List XPat := [⟨.normal, [(.tv .bool)], [(.box (.tv YCell))]⟩]
noncomputable def cellout_bareu0 (k : Nat) (x0 : DCell) : Option ((Bool) × (DCell)) :=
  bif (decide (x0.2.2.1 = 0)) then
    bif (decide (x0.2.2.2.1 = 0)) then
      bif (false ^^ Ty.eqB (.arr 2 (.int .i64)) x0.2.2.2.2.1 (Ty.zero (.arr 2 (.int .i64)))) then
        some ((false ^^ Ty.eqB (.arr 6 (.int .i64)) x0.2.2.2.2.2.1 (Ty.zero (.arr 6 (.int .i64)))), x0)
      else
      some (false, x0)
    else
    some (false, x0)
  else
  some (false, x0)
noncomputable def z15u0b : AC :=
  (.region [(iO 6 (.fad 2 2 (.t 1))),
    (iO 7 (.load false 1 (.t 6))),
    (iO 8 (.bin .eql (.t 7) (nI 0))),
    (iO 9 (.mv (.t 8))),
    ⟨some 10, some (3, 9, true), (.op (.fad 3 3 (.t 1))), []⟩,
    ⟨some 11, some (3, 9, true), (.op (.load false 1 (.t 10))), []⟩,
    ⟨some 12, some (3, 9, true), (.op (.bin .eql (.t 11) (nI 0))), []⟩,
    (iO 13 (.pick (.t 9) (.t 12) (.c (.tv .bool (false : Bool))))),
    (iO 14 (.mv (.t 13))),
    ⟨some 15, some (8, 14, true), (.op (.fad 4 4 (.t 1))), []⟩,
    ⟨some 16, some (8, 14, true), (.op (.load true 2 (.t 15))), []⟩,
    ⟨some 17, some (8, 14, true), (.op (.build 42 (.tv (.arr 2 (.int .i64))) [])), []⟩,
    ⟨some 18, some (8, 14, true), (.op (.eqa false (.arr 2 (.int .i64)) (.t 16) (.t 17))), []⟩,
    (iO 19 (.pick (.t 14) (.t 18) (.c (.tv .bool (false : Bool))))),
    (iO 20 (.mv (.t 19))),
    ⟨some 21, some (14, 20, true), (.op (.fad 5 6 (.t 1))), []⟩,
    ⟨some 22, some (14, 20, true), (.op (.load true 6 (.t 21))), []⟩,
    ⟨some 23, some (14, 20, true), (.op (.build 43 (.tv (.arr 6 (.int .i64))) [])), []⟩,
    ⟨some 24, some (14, 20, true), (.op (.eqa false (.arr 6 (.int .i64)) (.t 22) (.t 23))), []⟩,
    (iO 25 (.pick (.t 20) (.t 24) (.c (.tv .bool (false : Bool))))),
    (iO 3 (.mv (.t 25)))])
noncomputable def z15u0t (k : Nat) (d : z15u0p.D) : Option (XD z15u0x) := cellout_bareu0 k d.2
theorem z15u0_k (k : Nat) : UOK P GL (mkU z15u0p z15u0x (z15u0t k) nilU) z15u0d false z15u0b :=
  unit_typed (ud := z15u0d) (body := z15u0b) (uorc := uorT (z15U0 k)) hmo (T14_ok k).oo (z15U0_k k) (AllU.no (by kernel_rfl)) (fun d => by kernel_rfl)
noncomputable def z15U1 (k : Nat) : List (Nat × Ent) := (0, ⟨mkU z15u0p z15u0x (z15u0t k) nilU⟩) :: z15U0 k
theorem z15U1_k (k : Nat) : UTab (z15U1 k) := (z15U0_k k).cons (mkU_nat nilU_nat)
noncomputable def z15u1d : UDef := ⟨[(3, none), (27, none), (28, none)], [3, 5, 28, 29, 30, 31, 32, 33, 34, 35, 36, 37], [((.exit 0), [(3, none)])], []⟩
noncomputable def z15u1p : XPat := ⟨.normal, [(.tv .bool), (.tv (.arr 6 (.sl YEvent))), (.tv (.int .i64))], []⟩
noncomputable def z15u1x : List XPat := [⟨(.exit 0), [(.tv .bool)], []⟩]
noncomputable def cellout_bareu1 (k : Nat) : Nat → (Bool) → (List (List (DEvent))) → (Int) → Option (Bool)
  | 0, _, _, _ => none
  | n + 1, x0, x1, x2 =>
    bif (decide (x2 < 6)) then
      bif (inR x2 6) then
        bif x0 then
          Option.bind (cellout_bareu1 k n (decide (((List.length (List.getD x1 (Int.toNat x2) ([] : List (DEvent))) : Nat) : Int) = 0)) x1 (wr .i64 (x2 + 1))) fun r => some r
        else
        Option.bind (cellout_bareu1 k n false x1 (wr .i64 (x2 + 1))) fun r => some r
      else
        none
    else
    some x0
noncomputable def z15u1b : AC :=
  (.seq (.region [(iO 29 (.bin .lss (.t 28) (nI 6)))])
  (.seq (.cond (.t 29)
  .skip
  (.exit 0))
  (.seq (.block 1 (.seq (.region [(iO 30 (.ix 6 1 false (.t 27) (.t 28))),
    (iO 5 (.mv (.t 30)))])
  (.region [(iO 31 (.mv (.t 3))),
    (iO 32 (.mv (.t 31))),
    ⟨some 33, some (1, 32, true), (.op (.mv (.t 5))), []⟩,
    ⟨some 34, some (1, 32, true), (.op (.len (.t 33))), []⟩,
    ⟨some 35, some (1, 32, true), (.op (.bin .eql (.t 34) (nI 0))), []⟩,
    (iO 36 (.pick (.t 32) (.t 35) (.c (.tv .bool (false : Bool))))),
    (iO 3 (.mv (.t 36)))])))
  (.region [(iO 37 (.bin .add (.t 28) (nI 1))),
    (iO 28 (.mv (.t 37)))]))))
noncomputable def z15u1t (k n : Nat) (d : z15u1p.D) : Option (XD z15u1x) := cellout_bareu1 k n d.1 d.2.1 d.2.2
theorem z15u1_k (k : Nat) : UOK P GL (mkU z15u1p z15u1x (z15u1t k k) nilU) z15u1d true z15u1b :=
  loop_typed (ud := z15u1d) (body := z15u1b) (uorc := uorT (z15U1 k)) hmo (T14_ok k).oo (z15U1_k k) (AllU.no (by kernel_rfl)) (t := z15u1t k) (fun d => by kernel_rfl) (fun n d => by kernel_rfl) k
noncomputable def z15U2 (k : Nat) : List (Nat × Ent) := (1, ⟨mkU z15u1p z15u1x (z15u1t k k) nilU⟩) :: z15U1 k
theorem z15U2_k (k : Nat) : UTab (z15U2 k) := (z15U1_k k).cons (mkU_nat nilU_nat)
noncomputable def cellout_bare (k : Nat) (x0 : DCell) : Option (Bool) :=
  Option.bind (cellout_bareu0 k x0) fun (v63 : (Bool) × (DCell)) =>
  Option.bind (cellout_bareu1 k k v63.1 v63.2.2.2.2.2.2.2.1 0) fun (v64 : Bool) =>
  some v64
noncomputable def z15b : AC :=
  (.seq (.region [(iO 1 (.box (.t 0))),
    (iO 2 (.mv (.c (.tv .bool (false : Bool)))))])
  (.seq (.unit 0 z15u0d false z15u0b)
  (.seq (.seq (.region [(iO 26 (.fad 6 12 (.t 1))),
    (iO 27 (.load true 6 (.t 26))),
    (iO 28 (.mv (nI 0)))])
  (.block 0 (.unit 1 z15u1d true z15u1b)))
  (.seq (.region [(iO 38 (.mv (.t 3))),
    (iO 2 (.mv (.t 38)))])
  .ret))))
noncomputable def z15f : FDef := ⟨1, 39, [.tmp 2 none], z15b⟩
noncomputable def z15p : XPat := ⟨.normal, [(.tv YCell)], []⟩
noncomputable def z15x : List XPat := [⟨.ret, [(.tv .bool)], []⟩]
noncomputable def z15t (k : Nat) (d : z15p.D) : Option (XD z15x) := cellout_bare k d
noncomputable def z15_e (k : Nat) : UEntry := mkU z15p z15x (z15t k) nilU
theorem z15_n (k : Nat) : UNat (z15_e k) := mkU_nat nilU_nat
theorem z15_fu (k : Nat) : FU P GL 77 (z15_e k) :=
  fn_typed (uorc := uorT (z15U2 k)) hmo (T14_ok k).oo (z15U2_k k) (fd := z15f) (AllU.seq (AllU.no (by kernel_rfl)) (AllU.seq (AllU.unit (uorc := uorT (z15U2 k)) (u := 0) (z15u0_k k)) (AllU.seq (AllU.seq (AllU.no (by kernel_rfl)) (AllU.block (AllU.unit (uorc := uorT (z15U2 k)) (u := 1) (z15u1_k k)))) (AllU.no (by kernel_rfl))))) (fn := Tryz.f77) (by kernel_rfl) (by kernel_rfl) (fun d => by kernel_rfl) FU_nil
noncomputable def T15 (k : Nat) : List (Nat × Ent) := (77, ⟨z15_e k⟩) :: T14 k
theorem T15_ok (k : Nat) : TabOK P GL (T15 k) := (T14_ok k).cons (z15_fu k) (z15_n k)
/-! ### overspill.cellout.intra -/
noncomputable def z16U0 (_ : Nat) : List (Nat × Ent) := []
theorem z16U0_k (k : Nat) : UTab (z16U0 k) := UTab.nil
noncomputable def cellout_intra (k : Nat) (x0 : Int) : Option (Bool) :=
  bif (decide (x0 = 3)) then
    some true
  else
  some (decide (x0 = 4))
noncomputable def z16b : AC :=
  (.seq (.region [(iO 2 (.mv (.c (.tv .bool (false : Bool)))))])
  (.seq (.region [(iO 3 (.mv (.t 0))),
    (iO 4 (.bin .eql (.t 3) (nI 3))),
    (iO 5 (.mv (.t 4))),
    ⟨some 6, some (2, 5, false), (.op (.mv (.t 0))), []⟩,
    ⟨some 7, some (2, 5, false), (.op (.bin .eql (.t 6) (nI 4))), []⟩,
    (iO 8 (.pick (.t 5) (.c (.tv .bool (true : Bool))) (.t 7))),
    (iO 2 (.mv (.t 8)))])
  .ret))
noncomputable def z16f : FDef := ⟨1, 9, [.tmp 2 none], z16b⟩
noncomputable def z16p : XPat := ⟨.normal, [(.tv (.int .i64))], []⟩
noncomputable def z16x : List XPat := [⟨.ret, [(.tv .bool)], []⟩]
noncomputable def z16t (k : Nat) (d : z16p.D) : Option (XD z16x) := cellout_intra k d
noncomputable def z16_e (k : Nat) : UEntry := mkU z16p z16x (z16t k) nilU
theorem z16_n (k : Nat) : UNat (z16_e k) := mkU_nat nilU_nat
theorem z16_fu (k : Nat) : FU P GL 52 (z16_e k) :=
  fn_typed (uorc := uorT (z16U0 k)) hmo (T15_ok k).oo (z16U0_k k) (fd := z16f) (AllU.no (by kernel_rfl)) (fn := Tryz.f52) (by kernel_rfl) (by kernel_rfl) (fun d => by kernel_rfl) FU_nil
noncomputable def T16 (k : Nat) : List (Nat × Ent) := (52, ⟨z16_e k⟩) :: T15 k
theorem T16_ok (k : Nat) : TabOK P GL (T16 k) := (T15_ok k).cons (z16_fu k) (z16_n k)
/-! ### overspill.steps.Row -/
noncomputable def z17U0 (_ : Nat) : List (Nat × Ent) := []
theorem z17U0_k (k : Nat) : UTab (z17U0 k) := UTab.nil
noncomputable def steps_Row (k : Nat) (x0 : Int) : Option ((List UInt8) × ((Bool) × (Unit))) :=
  bif (decide (x0 = (-1))) then
    some (([48, 48] : List UInt8), (true, ()))
  else
  bif (decide (x0 = (-2))) then
    some (([48, 49] : List UInt8), (true, ()))
  else
  bif (decide (x0 = 1)) then
    some (([49, 48] : List UInt8), (true, ()))
  else
  bif (decide (x0 = 2)) then
    some (([49, 49] : List UInt8), (true, ()))
  else
  some (([] : List UInt8), (false, ()))
noncomputable def z17b : AC :=
  (.seq (.region [(iO 2 (.mv (.c (.tv .str (([] : List UInt8) : List UInt8))))),
    (iO 3 (.mv (.c (.tv .bool (false : Bool)))))])
  (.seq (.seq (.region [(iO 4 (.mv (.t 0)))])
  (.block 0 (.seq (.region [(iO 6 (.bin .eql (.t 4) (nI (-1)))),
    (iO 5 (.mv (.t 6)))])
  (.cond (.t 5)
  (.seq (.region [(iO 2 (.mv (.c (.tv .str (([48, 48] : List UInt8) : List UInt8))))),
      (iO 3 (.mv (.c (.tv .bool (true : Bool)))))])
    .ret)
  (.seq (.region [(iO 8 (.bin .eql (.t 4) (nI (-2)))),
      (iO 7 (.mv (.t 8)))])
    (.cond (.t 7)
    (.seq (.region [(iO 2 (.mv (.c (.tv .str (([48, 49] : List UInt8) : List UInt8))))),
        (iO 3 (.mv (.c (.tv .bool (true : Bool)))))])
      .ret)
    (.seq (.region [(iO 10 (.bin .eql (.t 4) (nI 1))),
        (iO 9 (.mv (.t 10)))])
      (.cond (.t 9)
      (.seq (.region [(iO 2 (.mv (.c (.tv .str (([49, 48] : List UInt8) : List UInt8))))),
          (iO 3 (.mv (.c (.tv .bool (true : Bool)))))])
        .ret)
      (.seq (.region [(iO 12 (.bin .eql (.t 4) (nI 2))),
          (iO 11 (.mv (.t 12)))])
        (.cond (.t 11)
        (.seq (.region [(iO 2 (.mv (.c (.tv .str (([49, 49] : List UInt8) : List UInt8))))),
            (iO 3 (.mv (.c (.tv .bool (true : Bool)))))])
          .ret)
        .skip))))))))))
  (.seq (.region [(iO 2 (.mv (.c (.tv .str (([] : List UInt8) : List UInt8))))),
    (iO 3 (.mv (.c (.tv .bool (false : Bool)))))])
  .ret)))
noncomputable def z17f : FDef := ⟨1, 13, [.tmp 2 none, .tmp 3 none], z17b⟩
noncomputable def z17p : XPat := ⟨.normal, [(.tv (.int .i64))], []⟩
noncomputable def z17x : List XPat := [⟨.ret, [(.tup (.cons (.tv .str) (.cons (.tv .bool) .nil)))], []⟩]
noncomputable def z17t (k : Nat) (d : z17p.D) : Option (XD z17x) := steps_Row k d
noncomputable def z17_e (k : Nat) : UEntry := mkU z17p z17x (z17t k) nilU
theorem z17_n (k : Nat) : UNat (z17_e k) := mkU_nat nilU_nat
theorem z17_fu (k : Nat) : FU P GL 55 (z17_e k) :=
  fn_typed (uorc := uorT (z17U0 k)) hmo (T16_ok k).oo (z17U0_k k) (fd := z17f) (AllU.no (by kernel_rfl)) (fn := Tryz.f55) (by kernel_rfl) (by kernel_rfl) (fun d => by kernel_rfl) FU_nil
noncomputable def T17 (k : Nat) : List (Nat × Ent) := (55, ⟨z17_e k⟩) :: T16 k
theorem T17_ok (k : Nat) : TabOK P GL (T17 k) := (T16_ok k).cons (z17_fu k) (z17_n k)
/-! ### overspill.cellout.stepped -/
noncomputable def z18U0 (_ : Nat) : List (Nat × Ent) := []
theorem z18U0_k (k : Nat) : UTab (z18U0 k) := UTab.nil
noncomputable def cellout_stepped (k : Nat) (x0 : Int) : Option (Bool) :=
  bif (decide (x0 = 1)) then
    some true
  else
  some (decide (x0 = 4))
noncomputable def z18b : AC :=
  (.seq (.region [(iO 2 (.mv (.c (.tv .bool (false : Bool)))))])
  (.seq (.region [(iO 3 (.mv (.t 0))),
    (iO 4 (.bin .eql (.t 3) (nI 1))),
    (iO 5 (.mv (.t 4))),
    ⟨some 6, some (2, 5, false), (.op (.mv (.t 0))), []⟩,
    ⟨some 7, some (2, 5, false), (.op (.bin .eql (.t 6) (nI 4))), []⟩,
    (iO 8 (.pick (.t 5) (.c (.tv .bool (true : Bool))) (.t 7))),
    (iO 2 (.mv (.t 8)))])
  .ret))
noncomputable def z18f : FDef := ⟨1, 9, [.tmp 2 none], z18b⟩
noncomputable def z18p : XPat := ⟨.normal, [(.tv (.int .i64))], []⟩
noncomputable def z18x : List XPat := [⟨.ret, [(.tv .bool)], []⟩]
noncomputable def z18t (k : Nat) (d : z18p.D) : Option (XD z18x) := cellout_stepped k d
noncomputable def z18_e (k : Nat) : UEntry := mkU z18p z18x (z18t k) nilU
theorem z18_n (k : Nat) : UNat (z18_e k) := mkU_nat nilU_nat
theorem z18_fu (k : Nat) : FU P GL 54 (z18_e k) :=
  fn_typed (uorc := uorT (z18U0 k)) hmo (T17_ok k).oo (z18U0_k k) (fd := z18f) (AllU.no (by kernel_rfl)) (fn := Tryz.f54) (by kernel_rfl) (by kernel_rfl) (fun d => by kernel_rfl) FU_nil
noncomputable def T18 (k : Nat) : List (Nat × Ent) := (54, ⟨z18_e k⟩) :: T17 k
theorem T18_ok (k : Nat) : TabOK P GL (T18 k) := (T17_ok k).cons (z18_fu k) (z18_n k)
/-! ### overspill.whole.Wrap -/
noncomputable def z19U0 (_ : Nat) : List (Nat × Ent) := []
theorem z19U0_k (k : Nat) : UTab (z19U0 k) := UTab.nil
noncomputable def whole_Wrap (k : Nat) (x0 : Int) : Option (Int) :=
  bif (decide ((Int.tmod x0 64) < (-32))) then
    some (wr .i64 ((Int.tmod x0 64) + 64))
  else
  bif (decide ((32 : Int) ≤ (Int.tmod x0 64))) then
    some (wr .i64 ((Int.tmod x0 64) - 64))
  else
  some (Int.tmod x0 64)
noncomputable def z19b : AC :=
  (.seq (.region [(iO 2 (.mv (nI 0)))])
  (.seq (.region [(iO 3 (.mv (.t 0))),
    (iO 4 (.bin .rem (.t 3) (nI 64))),
    (iO 0 (.mv (.t 4)))])
  (.seq (.block 0 (.seq (.region [(iO 6 (.mv (.t 0))),
    (iO 7 (.bin .lss (.t 6) (nI (-32)))),
    (iO 5 (.mv (.t 7)))])
  (.cond (.t 5)
  (.seq (.region [(iO 8 (.mv (.t 0))),
      (iO 9 (.bin .add (.t 8) (nI 64))),
      (iO 2 (.mv (.t 9)))])
    .ret)
  (.seq (.region [(iO 11 (.mv (.t 0))),
      (iO 12 (.bin .geq (.t 11) (nI 32))),
      (iO 10 (.mv (.t 12)))])
    (.cond (.t 10)
    (.seq (.region [(iO 13 (.mv (.t 0))),
        (iO 14 (.bin .sub (.t 13) (nI 64))),
        (iO 2 (.mv (.t 14)))])
      .ret)
    .skip)))))
  (.seq (.region [(iO 15 (.mv (.t 0))),
    (iO 2 (.mv (.t 15)))])
  .ret))))
noncomputable def z19f : FDef := ⟨1, 16, [.tmp 2 none], z19b⟩
noncomputable def z19p : XPat := ⟨.normal, [(.tv (.int .i64))], []⟩
noncomputable def z19x : List XPat := [⟨.ret, [(.tv (.int .i64))], []⟩]
noncomputable def z19t (k : Nat) (d : z19p.D) : Option (XD z19x) := whole_Wrap k d
noncomputable def z19_e (k : Nat) : UEntry := mkU z19p z19x (z19t k) nilU
theorem z19_n (k : Nat) : UNat (z19_e k) := mkU_nat nilU_nat
theorem z19_fu (k : Nat) : FU P GL 57 (z19_e k) :=
  fn_typed (uorc := uorT (z19U0 k)) hmo (T18_ok k).oo (z19U0_k k) (fd := z19f) (AllU.no (by kernel_rfl)) (fn := Tryz.f57) (by kernel_rfl) (by kernel_rfl) (fun d => by kernel_rfl) FU_nil
noncomputable def T19 (k : Nat) : List (Nat × Ent) := (57, ⟨z19_e k⟩) :: T18 k
theorem T19_ok (k : Nat) : TabOK P GL (T19 k) := (T18_ok k).cons (z19_fu k) (z19_n k)
/-! ### overspill.cellout.vector -/
noncomputable def z20U0 (_ : Nat) : List (Nat × Ent) := []
theorem z20U0_k (k : Nat) : UTab (z20U0 k) := UTab.nil
noncomputable def cellout_vector (k : Nat) (x0 : DCell) : Option (Bool) :=
  Option.bind (cellout_intra k x0.2.2.1) fun (v73 : Bool) =>
  bif v73 then
    some (false ^^ Ty.eqB (.arr 2 (.int .i64)) x0.2.2.2.2.1 (Ty.zero (.arr 2 (.int .i64))))
  else
  Option.bind (whole_Wrap k (List.getD x0.2.2.2.2.1 0 0)) fun (v74 : Int) =>
  bif (decide (v74 = (List.getD x0.2.2.2.2.1 0 0))) then
    Option.bind (whole_Wrap k (List.getD x0.2.2.2.2.1 1 0)) fun (v75 : Int) =>
    some (decide (v75 = (List.getD x0.2.2.2.2.1 1 0)))
  else
  some false
noncomputable def z20b : AC :=
  (.seq (.region [(iO 1 (.box (.t 0))),
    (iO 2 (.mv (.c (.tv .bool (false : Bool)))))])
  (.seq (.seq (.region [(iO 3 (.fad 2 2 (.t 1))),
    (iO 4 (.load false 1 (.t 3))),
    (iC 5 52 [((.t 4), none)])])
  (.cond (.t 5)
  (.seq (.region [(iO 6 (.fad 4 4 (.t 1))),
      (iO 7 (.load true 2 (.t 6))),
      (iO 8 (.build 42 (.tv (.arr 2 (.int .i64))) [])),
      (iO 9 (.eqa false (.arr 2 (.int .i64)) (.t 7) (.t 8))),
      (iO 2 (.mv (.t 9)))])
    .ret)
  .skip))
  (.seq (.draw [(iO 10 (.fad 4 4 (.t 1))),
    (iOa 11 (.iad 2 1 (.t 10) (nI 0)) [0]),
    (iOa 12 (.load false 1 (.t 11)) [0, 1]),
    (iCa 13 57 [((.t 12), none)] [0, 1, 2]),
    (iO 14 (.fad 4 4 (.t 1))),
    (iOa 15 (.iad 2 1 (.t 14) (nI 0)) [4]),
    (iOa 16 (.load false 1 (.t 15)) [4, 5]),
    (iOa 17 (.bin .eql (.t 13) (.t 16)) (rg [0, 7])),
    (iOa 18 (.mv (.t 17)) (rg [0, 8])),
    ⟨some 19, some (8, 18, true), (.op (.fad 4 4 (.t 1))), (rg [0, 9])⟩,
    ⟨some 20, some (8, 18, true), (.op (.iad 2 1 (.t 19) (nI 1))), (rg [0, 10])⟩,
    ⟨some 21, some (8, 18, true), (.op (.load false 1 (.t 20))), (rg [0, 11])⟩,
    ⟨some 22, some (8, 18, true), (.call (.c (.fn 57 .nil .nil)) [((.t 21), none)]), (rg [0, 12])⟩,
    ⟨some 23, some (8, 18, true), (.op (.fad 4 4 (.t 1))), (rg [0, 9])⟩,
    ⟨some 24, some (8, 18, true), (.op (.iad 2 1 (.t 23) (nI 1))), (rg [0, 9, 13, 1])⟩,
    ⟨some 25, some (8, 18, true), (.op (.load false 1 (.t 24))), (rg [0, 9, 13, 2])⟩,
    ⟨some 26, some (8, 18, true), (.op (.bin .eql (.t 22) (.t 25))), (rg [0, 16])⟩,
    (iOa 27 (.pick (.t 18) (.t 26) (.c (.tv .bool (false : Bool)))) (rg [0, 17])),
    (iOa 2 (.mv (.t 27)) (rg [0, 18]))])
  .ret)))
noncomputable def z20f : FDef := ⟨1, 28, [.tmp 2 none], z20b⟩
noncomputable def z20p : XPat := ⟨.normal, [(.tv YCell)], []⟩
noncomputable def z20x : List XPat := [⟨.ret, [(.tv .bool)], []⟩]
noncomputable def z20t (k : Nat) (d : z20p.D) : Option (XD z20x) := cellout_vector k d
noncomputable def z20_e (k : Nat) : UEntry := mkU z20p z20x (z20t k) nilU
theorem z20_n (k : Nat) : UNat (z20_e k) := mkU_nat nilU_nat
theorem z20_fu (k : Nat) : FU P GL 78 (z20_e k) :=
  fn_typed (uorc := uorT (z20U0 k)) hmo (T19_ok k).oo (z20U0_k k) (fd := z20f) (AllU.no (by kernel_rfl)) (fn := Tryz.f78) (by kernel_rfl) (by kernel_rfl) (fun d => by kernel_rfl) FU_nil
noncomputable def T20 (k : Nat) : List (Nat × Ent) := (78, ⟨z20_e k⟩) :: T19 k
theorem T20_ok (k : Nat) : TabOK P GL (T20 k) := (T19_ok k).cons (z20_fu k) (z20_n k)
/-! ### overspill.blocks.from -/
noncomputable def z21U0 (_ : Nat) : List (Nat × Ent) := []
theorem z21U0_k (k : Nat) : UTab (z21U0 k) := UTab.nil
noncomputable def blocks_from (k : Nat) (x0 : Bool) : Option (Int) :=
  bif x0 then
    some 1
  else
  some 0
noncomputable def z21b : AC :=
  (.seq (.region [(iO 2 (.mv (nI 0)))])
  (.seq (.seq (.region [(iO 3 (.mv (.t 0)))])
  (.cond (.t 3)
  (.seq (.region [(iO 2 (.mv (nI 1)))])
    .ret)
  .skip))
  (.seq (.region [(iO 2 (.mv (nI 0)))])
  .ret)))
noncomputable def z21f : FDef := ⟨1, 4, [.tmp 2 none], z21b⟩
noncomputable def z21p : XPat := ⟨.normal, [(.tv .bool)], []⟩
noncomputable def z21x : List XPat := [⟨.ret, [(.tv (.int .i64))], []⟩]
noncomputable def z21t (k : Nat) (d : z21p.D) : Option (XD z21x) := blocks_from k d
noncomputable def z21_e (k : Nat) : UEntry := mkU z21p z21x (z21t k) nilU
theorem z21_n (k : Nat) : UNat (z21_e k) := mkU_nat nilU_nat
theorem z21_fu (k : Nat) : FU P GL 96 (z21_e k) :=
  fn_typed (uorc := uorT (z21U0 k)) hmo (T20_ok k).oo (z21U0_k k) (fd := z21f) (AllU.no (by kernel_rfl)) (fn := Tryz.f96) (by kernel_rfl) (by kernel_rfl) (fun d => by kernel_rfl) FU_nil
noncomputable def T21 (k : Nat) : List (Nat × Ent) := (96, ⟨z21_e k⟩) :: T20 k
theorem T21_ok (k : Nat) : TabOK P GL (T21 k) := (T20_ok k).cons (z21_fu k) (z21_n k)
/-! ### overspill.tcoef.Right -/
noncomputable def z22U0 (_ : Nat) : List (Nat × Ent) := []
theorem z22U0_k (k : Nat) : UTab (z22U0 k) := UTab.nil
noncomputable def tcoef_Right (k : Nat) (x0 : DEvent) : Option (Bool) :=
  bif (decide ((0 : Int) ≤ x0.2.1)) then
    bif (decide (x0.2.1 ≤ 63)) then
      bif (!(decide (x0.2.2.1 = 0))) then
        bif (decide (((-127) : Int) ≤ x0.2.2.1)) then
          some (decide (x0.2.2.1 ≤ 127))
        else
        some false
      else
      some false
    else
    some false
  else
  some false
noncomputable def z22b : AC :=
  (.seq (.region [(iO 1 (.box (.t 0))),
    (iO 2 (.mv (.c (.tv .bool (false : Bool)))))])
  (.seq (.region [(iO 3 (.fad 1 1 (.t 1))),
    (iO 4 (.load false 1 (.t 3))),
    (iO 5 (.bin .geq (.t 4) (nI 0))),
    (iO 6 (.mv (.t 5))),
    ⟨some 7, some (3, 6, true), (.op (.fad 1 1 (.t 1))), []⟩,
    ⟨some 8, some (3, 6, true), (.op (.load false 1 (.t 7))), []⟩,
    ⟨some 9, some (3, 6, true), (.op (.bin .leq (.t 8) (nI 63))), []⟩,
    (iO 10 (.pick (.t 6) (.t 9) (.c (.tv .bool (false : Bool))))),
    (iO 11 (.mv (.t 10))),
    ⟨some 12, some (8, 11, true), (.op (.fad 2 2 (.t 1))), []⟩,
    ⟨some 13, some (8, 11, true), (.op (.load false 1 (.t 12))), []⟩,
    ⟨some 14, some (8, 11, true), (.op (.bin .neq (.t 13) (nI 0))), []⟩,
    (iO 15 (.pick (.t 11) (.t 14) (.c (.tv .bool (false : Bool))))),
    (iO 16 (.mv (.t 15))),
    ⟨some 17, some (13, 16, true), (.op (.fad 2 2 (.t 1))), []⟩,
    ⟨some 18, some (13, 16, true), (.op (.load false 1 (.t 17))), []⟩,
    ⟨some 19, some (13, 16, true), (.op (.bin .geq (.t 18) (nI (-127)))), []⟩,
    (iO 20 (.pick (.t 16) (.t 19) (.c (.tv .bool (false : Bool))))),
    (iO 21 (.mv (.t 20))),
    ⟨some 22, some (18, 21, true), (.op (.fad 2 2 (.t 1))), []⟩,
    ⟨some 23, some (18, 21, true), (.op (.load false 1 (.t 22))), []⟩,
    ⟨some 24, some (18, 21, true), (.op (.bin .leq (.t 23) (nI 127))), []⟩,
    (iO 25 (.pick (.t 21) (.t 24) (.c (.tv .bool (false : Bool))))),
    (iO 2 (.mv (.t 25)))])
  .ret))
noncomputable def z22f : FDef := ⟨1, 26, [.tmp 2 none], z22b⟩
noncomputable def z22p : XPat := ⟨.normal, [(.tv YEvent)], []⟩
noncomputable def z22x : List XPat := [⟨.ret, [(.tv .bool)], []⟩]
noncomputable def z22t (k : Nat) (d : z22p.D) : Option (XD z22x) := tcoef_Right k d
noncomputable def z22_e (k : Nat) : UEntry := mkU z22p z22x (z22t k) nilU
theorem z22_n (k : Nat) : UNat (z22_e k) := mkU_nat nilU_nat
theorem z22_fu (k : Nat) : FU P GL 97 (z22_e k) :=
  fn_typed (uorc := uorT (z22U0 k)) hmo (T21_ok k).oo (z22U0_k k) (fd := z22f) (AllU.no (by kernel_rfl)) (fn := Tryz.f97) (by kernel_rfl) (by kernel_rfl) (fun d => by kernel_rfl) FU_nil
noncomputable def T22 (k : Nat) : List (Nat × Ent) := (97, ⟨z22_e k⟩) :: T21 k
theorem T22_ok (k : Nat) : TabOK P GL (T22 k) := (T21_ok k).cons (z22_fu k) (z22_n k)
/-! ### overspill.runs.Levels -/
noncomputable def z23U0 (_ : Nat) : List (Nat × Ent) := []
theorem z23U0_k (k : Nat) : UTab (z23U0 k) := UTab.nil
noncomputable def z23u0d : UDef := ⟨[(1, none)], [10, 11, 12, 13, 14, 15], [(.normal, [(15, none)])], []⟩
noncomputable def z23u0p : XPat := ⟨.normal, [(.tv (.int .i64))], []⟩
noncomputable def z23u0x : List XPat := [⟨.normal, [(.tv .bool)], []⟩]
noncomputable def runs_Levelsu0 (k : Nat) (x0 : Int) : Option (Bool) :=
  bif (!(decide (x0 = 0))) then
    some (!(decide (x0 = 1)))
  else
  some false
noncomputable def z23u0b : AC :=
  (.region [(iO 10 (.mv (.t 1))),
    (iO 11 (.bin .neq (.t 10) (nI 0))),
    (iO 12 (.mv (.t 11))),
    ⟨some 13, some (2, 12, true), (.op (.mv (.t 1))), []⟩,
    ⟨some 14, some (2, 12, true), (.op (.bin .neq (.t 13) (nI 1))), []⟩,
    (iO 15 (.pick (.t 12) (.t 14) (.c (.tv .bool (false : Bool)))))])
noncomputable def z23u0t (k : Nat) (d : z23u0p.D) : Option (XD z23u0x) := runs_Levelsu0 k d
theorem z23u0_k (k : Nat) : UOK P GL (mkU z23u0p z23u0x (z23u0t k) nilU) z23u0d false z23u0b :=
  unit_typed (ud := z23u0d) (body := z23u0b) (uorc := uorT (z23U0 k)) hmo (T22_ok k).oo (z23U0_k k) (AllU.no (by kernel_rfl)) (fun d => by kernel_rfl)
noncomputable def z23U1 (k : Nat) : List (Nat × Ent) := (0, ⟨mkU z23u0p z23u0x (z23u0t k) nilU⟩) :: z23U0 k
theorem z23U1_k (k : Nat) : UTab (z23U1 k) := (z23U0_k k).cons (mkU_nat nilU_nat)
noncomputable def z23u1d : UDef := ⟨[(0, none), (7, none), (8, none), (9, none)], [25, 26, 27, 28, 29, 30, 31, 32, 33, 34, 35, 36, 37, 38, 39, 40, 41, 42, 43, 44], [(.normal, [(44, none)])], []⟩
noncomputable def z23u1p : XPat := ⟨.normal, [(.tv (.sl YEvent)), (.tv (.int .i64)), (.tv (.int .i64)), (.ptr 0 [])], [(.box (.tv YEvent))]⟩
noncomputable def z23u1x : List XPat := [⟨.normal, [(.tv .bool)], [(.box (.tv YEvent))]⟩]
noncomputable def runs_Levelsu1 (k : Nat) (x0 : List (DEvent)) (x1 : Int) (x2 : Int) (x3 : DEvent) : Option ((Bool) × (DEvent)) :=
  Option.bind (tcoef_Right k x3) fun (v88 : Bool) =>
  bif (!v88) then
    some (true, x3)
  else
  bif (true ^^ (x3.1 == (decide (x2 = (wr .i64 (((List.length x0 : Nat) : Int) - 1)))))) then
    some (true, x3)
  else
  some ((decide ((64 : Int) ≤ (wr .i64 (x1 + x3.2.1)))), x3)
noncomputable def z23u1b : AC :=
  (.region [(iO 25 (.load true 3 (.t 9))),
    (iC 26 97 [((.t 25), some YEvent)]),
    (iO 27 (.un .not (.t 26))),
    (iO 28 (.mv (.t 27))),
    ⟨some 29, some (3, 28, false), (.op (.fad 0 0 (.t 9))), []⟩,
    ⟨some 30, some (3, 28, false), (.op (.load false 1 (.t 29))), []⟩,
    ⟨some 31, some (3, 28, false), (.op (.mv (.t 8))), []⟩,
    ⟨some 32, some (3, 28, false), (.op (.mv (.t 0))), []⟩,
    ⟨some 33, some (3, 28, false), (.op (.len (.t 32))), []⟩,
    ⟨some 34, some (3, 28, false), (.op (.bin .sub (.t 33) (nI 1))), []⟩,
    ⟨some 35, some (3, 28, false), (.op (.bin .eql (.t 31) (.t 34))), []⟩,
    ⟨some 36, some (3, 28, false), (.op (.eqb true (.t 30) (.t 35))), []⟩,
    (iO 37 (.pick (.t 28) (.c (.tv .bool (true : Bool))) (.t 36))),
    (iO 38 (.mv (.t 37))),
    ⟨some 39, some (13, 38, false), (.op (.mv (.t 7))), []⟩,
    ⟨some 40, some (13, 38, false), (.op (.fad 1 1 (.t 9))), []⟩,
    ⟨some 41, some (13, 38, false), (.op (.load false 1 (.t 40))), []⟩,
    ⟨some 42, some (13, 38, false), (.op (.bin .add (.t 39) (.t 41))), []⟩,
    ⟨some 43, some (13, 38, false), (.op (.bin .geq (.t 42) (nI 64))), []⟩,
    (iO 44 (.pick (.t 38) (.c (.tv .bool (true : Bool))) (.t 43)))])
noncomputable def z23u1t (k : Nat) (d : z23u1p.D) : Option (XD z23u1x) := runs_Levelsu1 k d.1.1 d.1.2.1 d.1.2.2.1 d.2
theorem z23u1_k (k : Nat) : UOK P GL (mkU z23u1p z23u1x (z23u1t k) nilU) z23u1d false z23u1b :=
  unit_typed (ud := z23u1d) (body := z23u1b) (uorc := uorT (z23U1 k)) hmo (T22_ok k).oo (z23U1_k k) (AllU.no (by kernel_rfl)) (fun d => by kernel_rfl)
noncomputable def z23U2 (k : Nat) : List (Nat × Ent) := (1, ⟨mkU z23u1p z23u1x (z23u1t k) nilU⟩) :: z23U1 k
theorem z23U2_k (k : Nat) : UTab (z23U2 k) := (z23U1_k k).cons (mkU_nat nilU_nat)
noncomputable def z23u2d : UDef := ⟨[(0, none), (4, none), (6, none), (7, none), (18, none), (19, none), (20, none)], [5, 7, 8, 9, 20, 21, 22, 23, 24, 25, 26, 27, 28, 29, 30, 31, 32, 33, 34, 35, 36, 37, 38, 39, 40, 41, 42, 43, 44, 45, 46, 47, 48, 49, 50, 51, 52, 53, 54, 55, 56], [(.ret, [(5, none)]), ((.exit 0), [])], []⟩
noncomputable def z23u2p : XPat := ⟨.normal, [(.tv (.sl YEvent)), (.ptr 0 []), (.ptr 1 []), (.tv (.int .i64)), (.tv (.sl YEvent)), (.tv (.int .i64)), (.tv (.int .i64))], [(.box (.tv (.arr 64 (.int .i64)))), (.box (.tv (.arr 64 (.int .i64))))]⟩
noncomputable def z23u2x : List XPat := [⟨.ret, [(.tv (.int .i64))], [(.box (.tv (.arr 64 (.int .i64)))), (.box (.tv (.arr 64 (.int .i64))))]⟩, ⟨(.exit 0), [], [(.box (.tv (.arr 64 (.int .i64)))), (.box (.tv (.arr 64 (.int .i64))))]⟩]
noncomputable def runs_Levelsu2 (k : Nat) : Nat → (List (DEvent)) → (Int) → (List (DEvent)) → (Int) → (Int) → (List (Int)) → (List (Int)) → Option (((Int) × ((List (Int)) × (List (Int)))) ⊕ ((Unit) × ((List (Int)) × (List (Int)))))
  | 0, _, _, _, _, _, _, _ => none
  | n + 1, x0, x1, x2, x3, x4, x5, x6 =>
    bif (decide (x4 < x3)) then
      bif (inR x4 (List.length x2)) then
        Option.bind (runs_Levelsu1 k x0 x1 x4 (List.getD x2 (Int.toNat x4) (false, (0, (0, ()))))) fun (v90 : (Bool) × (DEvent)) =>
        bif v90.1 then
          some (Sum.inl (7, ((Ty.zero (.arr 64 (.int .i64))), x6)))
        else
        bif (inR (wr .i64 (x1 + v90.2.2.1)) 64) then
          Option.bind (runs_Levelsu2 k n x0 (wr .i64 ((wr .i64 (x1 + v90.2.2.1)) + 1)) x2 x3 (wr .i64 (x4 + 1)) x5 (List.set x6 (Int.toNat (wr .i64 (x1 + v90.2.2.1))) v90.2.2.2.1)) fun r => Sum.elim (fun w => some (Sum.inl w)) (fun w => some (Sum.inr w)) r
        else
          none
      else
        none
    else
    some (Sum.inr ((), (x5, x6)))
noncomputable def z23u2b : AC :=
  (.seq (.region [(iO 21 (.bin .lss (.t 20) (.t 19)))])
  (.seq (.cond (.t 21)
  .skip
  (.exit 0))
  (.seq (.block 1 (.seq (.region [(iO 22 (.mv (.t 20))),
    (iO 23 (.iads YEvent (.t 18) (.t 20))),
    (iO 24 (.load true 3 (.t 23))),
    (iO 9 (.alloc 110 (.tv YEvent))),
    (iO 8 (.mv (.t 22))),
    (iS (.store 3 none (.t 9) (.t 24)))])
  (.seq (.seq (.unit 1 z23u1d false z23u1b)
  (.cond (.t 44)
  (.seq (.region [(iO 45 (.build 118 (.tv (.arr 64 (.int .i64))) [])),
      (iS (.store 64 none (.t 4) (.t 45))),
      (iO 5 (.mv (nI 7)))])
    .ret)
  .skip))
  (.seq (.region [(iO 46 (.mv (.t 7))),
    (iO 47 (.fad 1 1 (.t 9))),
    (iO 48 (.load false 1 (.t 47))),
    (iO 49 (.bin .add (.t 46) (.t 48))),
    (iO 7 (.mv (.t 49)))])
  (.seq (.region [(iO 50 (.mv (.t 7))),
    (iO 51 (.fad 2 2 (.t 9))),
    (iO 52 (.load false 1 (.t 51))),
    (iO 53 (.iad 64 1 (.t 6) (.t 50))),
    (iS (.store 1 none (.t 53) (.t 52)))])
  (.region [(iO 54 (.mv (.t 7))),
    (iO 55 (.bin .add (.t 54) (nI 1))),
    (iO 7 (.mv (.t 55)))]))))))
  (.region [(iO 56 (.bin .add (.t 20) (nI 1))),
    (iO 20 (.mv (.t 56)))]))))
noncomputable def z23u2t (k n : Nat) (d : z23u2p.D) : Option (XD z23u2x) := runs_Levelsu2 k n d.1.1 d.1.2.2.2.1 d.1.2.2.2.2.1 d.1.2.2.2.2.2.1 d.1.2.2.2.2.2.2 d.2.1 d.2.2
theorem z23u2_k (k : Nat) : UOK P GL (mkU z23u2p z23u2x (z23u2t k k) nilU) z23u2d true z23u2b :=
  loop_typed (ud := z23u2d) (body := z23u2b) (uorc := uorT (z23U2 k)) hmo (T22_ok k).oo (z23U2_k k) (AllU.seq (AllU.no (by kernel_rfl)) (AllU.seq (AllU.no (by kernel_rfl)) (AllU.seq (AllU.block (AllU.seq (AllU.no (by kernel_rfl)) (AllU.seq (AllU.seq (AllU.unit (uorc := uorT (z23U2 k)) (u := 1) (z23u1_k k)) (AllU.no (by kernel_rfl))) (AllU.no (by kernel_rfl))))) (AllU.no (by kernel_rfl))))) (t := z23u2t k) (fun d => by kernel_rfl) (fun n d => by kernel_rfl) k
noncomputable def z23U3 (k : Nat) : List (Nat × Ent) := (2, ⟨mkU z23u2p z23u2x (z23u2t k k) nilU⟩) :: z23U2 k
theorem z23U3_k (k : Nat) : UTab (z23U3 k) := (z23U2_k k).cons (mkU_nat nilU_nat)
noncomputable def runs_Levels (k : Nat) (x0 : List (DEvent)) (x1 : Int) : Option ((List (Int)) × ((Int) × (Unit))) :=
  Option.bind (runs_Levelsu0 k x1) fun (v86 : Bool) =>
  bif v86 then
    some ((Ty.zero (.arr 64 (.int .i64))), (1, ()))
  else
  Option.bind (runs_Levelsu2 k k x0 x1 x0 ((List.length x0 : Nat) : Int) 0 (Ty.zero (.arr 64 (.int .i64))) (Ty.zero (.arr 64 (.int .i64)))) fun r =>
  Sum.elim (fun (v91 : (Int) × ((List (Int)) × (List (Int)))) =>
    some (v91.2.1, (v91.1, ())))
    (fun (v92 : (Unit) × ((List (Int)) × (List (Int)))) =>
    some (v92.2.2, (0, ()))) r
noncomputable def z23b : AC :=
  (.seq (.region [(iO 4 (.alloc 118 (.tv (.arr 64 (.int .i64))))),
    (iO 5 (.mv (nI 0)))])
  (.seq (.seq (.unit 0 z23u0d false z23u0b)
  (.cond (.t 15)
  (.seq (.region [(iO 16 (.build 118 (.tv (.arr 64 (.int .i64))) [])),
      (iS (.store 64 none (.t 4) (.t 16))),
      (iO 5 (.mv (nI 1)))])
    .ret)
  .skip))
  (.seq (.region [(iO 6 (.alloc 118 (.tv (.arr 64 (.int .i64)))))])
  (.seq (.region [(iO 17 (.mv (.t 1))),
    (iO 7 (.mv (.t 17)))])
  (.seq (.seq (.region [(iO 18 (.mv (.t 0))),
    (iO 19 (.len (.t 18))),
    (iO 20 (.mv (nI 0)))])
  (.block 0 (.unit 2 z23u2d true z23u2b)))
  (.seq (.region [(iO 57 (.load true 64 (.t 6))),
    (iS (.store 64 none (.t 4) (.t 57))),
    (iO 5 (.mv (nI 0)))])
  .ret))))))
noncomputable def z23f : FDef := ⟨2, 58, [.cell 4 64 true (some (.arr 64 (.int .i64))), .tmp 5 none], z23b⟩
noncomputable def z23p : XPat := ⟨.normal, [(.tv (.sl YEvent)), (.tv (.int .i64))], []⟩
noncomputable def z23x : List XPat := [⟨.ret, [(.tup (.cons (.tv (.arr 64 (.int .i64))) (.cons (.tv (.int .i64)) .nil)))], []⟩]
noncomputable def z23t (k : Nat) (d : z23p.D) : Option (XD z23x) := runs_Levels k d.1 d.2
noncomputable def z23_e (k : Nat) : UEntry := mkU z23p z23x (z23t k) nilU
theorem z23_n (k : Nat) : UNat (z23_e k) := mkU_nat nilU_nat
theorem z23_fu (k : Nat) : FU P GL 95 (z23_e k) :=
  fn_typed (uorc := uorT (z23U3 k)) hmo (T22_ok k).oo (z23U3_k k) (fd := z23f) (AllU.seq (AllU.no (by kernel_rfl)) (AllU.seq (AllU.seq (AllU.unit (uorc := uorT (z23U3 k)) (u := 0) (z23u0_k k)) (AllU.no (by kernel_rfl))) (AllU.seq (AllU.no (by kernel_rfl)) (AllU.seq (AllU.no (by kernel_rfl)) (AllU.seq (AllU.seq (AllU.no (by kernel_rfl)) (AllU.block (AllU.unit (uorc := uorT (z23U3 k)) (u := 2) (z23u2_k k)))) (AllU.no (by kernel_rfl))))))) (fn := Tryz.f95) (by kernel_rfl) (by kernel_rfl) (fun d => by kernel_rfl) FU_nil
noncomputable def T23 (k : Nat) : List (Nat × Ent) := (95, ⟨z23_e k⟩) :: T22 k
theorem T23_ok (k : Nat) : TabOK P GL (T23 k) := (T22_ok k).cons (z23_fu k) (z23_n k)
/-! ### overspill.blocks.may -/
noncomputable def z24U0 (_ : Nat) : List (Nat × Ent) := []
theorem z24U0_k (k : Nat) : UTab (z24U0 k) := UTab.nil
noncomputable def z24u0d : UDef := ⟨[(0, none), (1, none)], [9, 10, 11, 12, 13, 14, 15, 16, 17, 18, 19, 20], [(.normal, [(20, none)])], []⟩
noncomputable def z24u0p : XPat := ⟨.normal, [(.tv .bool), (.tv (.int .i64))], []⟩
noncomputable def z24u0x : List XPat := [⟨.normal, [(.tv .bool)], []⟩]
noncomputable def blocks_mayu0 (k : Nat) (x0 : Bool) (x1 : Int) : Option (Bool) :=
  bif (true ^^ (x0 == (!(decide (x1 = 0))))) then
    some true
  else
  bif (decide (x1 < 0)) then
    some true
  else
  some (decide ((255 : Int) ≤ x1))
noncomputable def z24u0b : AC :=
  (.region [(iO 9 (.mv (.t 0))),
    (iO 10 (.mv (.t 1))),
    (iO 11 (.bin .neq (.t 10) (nI 0))),
    (iO 12 (.eqb true (.t 9) (.t 11))),
    (iO 13 (.mv (.t 12))),
    ⟨some 14, some (4, 13, false), (.op (.mv (.t 1))), []⟩,
    ⟨some 15, some (4, 13, false), (.op (.bin .lss (.t 14) (nI 0))), []⟩,
    (iO 16 (.pick (.t 13) (.c (.tv .bool (true : Bool))) (.t 15))),
    (iO 17 (.mv (.t 16))),
    ⟨some 18, some (8, 17, false), (.op (.mv (.t 1))), []⟩,
    ⟨some 19, some (8, 17, false), (.op (.bin .geq (.t 18) (nI 255))), []⟩,
    (iO 20 (.pick (.t 17) (.c (.tv .bool (true : Bool))) (.t 19)))])
noncomputable def z24u0t (k : Nat) (d : z24u0p.D) : Option (XD z24u0x) := blocks_mayu0 k d.1 d.2
theorem z24u0_k (k : Nat) : UOK P GL (mkU z24u0p z24u0x (z24u0t k) nilU) z24u0d false z24u0b :=
  unit_typed (ud := z24u0d) (body := z24u0b) (uorc := uorT (z24U0 k)) hmo (T23_ok k).oo (z24U0_k k) (AllU.no (by kernel_rfl)) (fun d => by kernel_rfl)
noncomputable def z24U1 (k : Nat) : List (Nat × Ent) := (0, ⟨mkU z24u0p z24u0x (z24u0t k) nilU⟩) :: z24U0 k
theorem z24U1_k (k : Nat) : UTab (z24U1 k) := (z24U0_k k).cons (mkU_nat nilU_nat)
noncomputable def blocks_may (k : Nat) (x0 : Bool) (x1 : Int) (x2 : List (DEvent)) : Option (Bool) :=
  Option.bind (blocks_mayu0 k x0 x1) fun (v84 : Bool) =>
  bif v84 then
    some false
  else
  Option.bind (blocks_from k x0) fun (v85 : Int) =>
  Option.bind (runs_Levels k x2 v85) fun (v93 : (List (Int)) × ((Int) × (Unit))) =>
  some (decide (v93.2.1 = 0))
noncomputable def z24b : AC :=
  (.seq (.region [(iO 6 (.mv (.c (.tv .bool (false : Bool)))))])
  (.seq (.seq (.unit 0 z24u0d false z24u0b)
  (.cond (.t 20)
  (.seq (.region [(iO 6 (.mv (.c (.tv .bool (false : Bool)))))])
    .ret)
  .skip))
  (.seq (.region [(iO 22 (.mv (.t 2))),
    (iO 23 (.mv (.t 0))),
    (iC 24 96 [((.t 23), none)]),
    (iC 25 95 [((.t 22), some (.sl YEvent)), ((.t 24), none)]),
    (iO 21 (.mv (.t 25))),
    (iO 26 (.ext (.t 21) 0)),
    (iO 27 (.ext (.t 21) 1)),
    (iO 7 (.alloc 118 (.tv (.arr 64 (.int .i64))))),
    (iS (.store 64 none (.t 7) (.t 26))),
    (iO 8 (.mv (.t 27)))])
  (.seq (.region [(iO 28 (.mv (.t 8))),
    (iO 29 (.bin .eql (.t 28) (nI 0))),
    (iO 6 (.mv (.t 29)))])
  .ret))))
noncomputable def z24f : FDef := ⟨3, 30, [.tmp 6 none], z24b⟩
noncomputable def z24p : XPat := ⟨.normal, [(.tv .bool), (.tv (.int .i64)), (.tv (.sl YEvent))], []⟩
noncomputable def z24x : List XPat := [⟨.ret, [(.tv .bool)], []⟩]
noncomputable def z24t (k : Nat) (d : z24p.D) : Option (XD z24x) := blocks_may k d.1 d.2.1 d.2.2
noncomputable def z24_e (k : Nat) : UEntry := mkU z24p z24x (z24t k) nilU
theorem z24_n (k : Nat) : UNat (z24_e k) := mkU_nat nilU_nat
theorem z24_fu (k : Nat) : FU P GL 84 (z24_e k) :=
  fn_typed (uorc := uorT (z24U1 k)) hmo (T23_ok k).oo (z24U1_k k) (fd := z24f) (AllU.seq (AllU.no (by kernel_rfl)) (AllU.seq (AllU.seq (AllU.unit (uorc := uorT (z24U1 k)) (u := 0) (z24u0_k k)) (AllU.no (by kernel_rfl))) (AllU.no (by kernel_rfl)))) (fn := Tryz.f84) (by kernel_rfl) (by kernel_rfl) (fun d => by kernel_rfl) FU_nil
noncomputable def T24 (k : Nat) : List (Nat × Ent) := (84, ⟨z24_e k⟩) :: T23 k
theorem T24_ok (k : Nat) : TabOK P GL (T24 k) := (T23_ok k).cons (z24_fu k) (z24_n k)
/-! ### overspill.tcoef.many -/
noncomputable def z25U0 (_ : Nat) : List (Nat × Ent) := []
theorem z25U0_k (k : Nat) : UTab (z25U0 k) := UTab.nil
noncomputable def z25u0d : UDef := ⟨[(0, none), (1, none)], [5, 6, 7, 8, 9, 10], [(.normal, [(5, none)])], []⟩
noncomputable def z25u0p : XPat := ⟨.normal, [(.tv .bool), (.tv (.int .i64))], []⟩
noncomputable def z25u0x : List XPat := [⟨.normal, [(.tv .bool)], []⟩]
noncomputable def tcoef_manyu0 (k : Nat) (x0 : Bool) (x1 : Int) : Option (Bool) :=
  bif x0 then
    some (decide (x1 = 0))
  else
  some false
noncomputable def z25u0b : AC :=
  (.region [(iO 6 (.mv (.t 0))),
    (iO 7 (.mv (.t 6))),
    ⟨some 8, some (1, 7, true), (.op (.mv (.t 1))), []⟩,
    ⟨some 9, some (1, 7, true), (.op (.bin .eql (.t 8) (nI 0))), []⟩,
    (iO 10 (.pick (.t 7) (.t 9) (.c (.tv .bool (false : Bool))))),
    (iO 5 (.mv (.t 10)))])
noncomputable def z25u0t (k : Nat) (d : z25u0p.D) : Option (XD z25u0x) := tcoef_manyu0 k d.1 d.2
theorem z25u0_k (k : Nat) : UOK P GL (mkU z25u0p z25u0x (z25u0t k) nilU) z25u0d false z25u0b :=
  unit_typed (ud := z25u0d) (body := z25u0b) (uorc := uorT (z25U0 k)) hmo (T24_ok k).oo (z25U0_k k) (AllU.no (by kernel_rfl)) (fun d => by kernel_rfl)
noncomputable def z25U1 (k : Nat) : List (Nat × Ent) := (0, ⟨mkU z25u0p z25u0x (z25u0t k) nilU⟩) :: z25U0 k
theorem z25U1_k (k : Nat) : UTab (z25U1 k) := (z25U0_k k).cons (mkU_nat nilU_nat)
noncomputable def z25u1d : UDef := ⟨[(0, none), (1, none)], [11, 12, 13, 14, 15, 16], [(.normal, [(11, none)])], []⟩
noncomputable def z25u1p : XPat := ⟨.normal, [(.tv .bool), (.tv (.int .i64))], []⟩
noncomputable def z25u1x : List XPat := [⟨.normal, [(.tv .bool)], []⟩]
noncomputable def tcoef_manyu1 (k : Nat) (x0 : Bool) (x1 : Int) : Option (Bool) :=
  bif x0 then
    some (decide (x1 = 1))
  else
  some false
noncomputable def z25u1b : AC :=
  (.region [(iO 12 (.mv (.t 0))),
    (iO 13 (.mv (.t 12))),
    ⟨some 14, some (1, 13, true), (.op (.mv (.t 1))), []⟩,
    ⟨some 15, some (1, 13, true), (.op (.bin .eql (.t 14) (nI 1))), []⟩,
    (iO 16 (.pick (.t 13) (.t 15) (.c (.tv .bool (false : Bool))))),
    (iO 11 (.mv (.t 16)))])
noncomputable def z25u1t (k : Nat) (d : z25u1p.D) : Option (XD z25u1x) := tcoef_manyu1 k d.1 d.2
theorem z25u1_k (k : Nat) : UOK P GL (mkU z25u1p z25u1x (z25u1t k) nilU) z25u1d false z25u1b :=
  unit_typed (ud := z25u1d) (body := z25u1b) (uorc := uorT (z25U1 k)) hmo (T24_ok k).oo (z25U1_k k) (AllU.no (by kernel_rfl)) (fun d => by kernel_rfl)
noncomputable def z25U2 (k : Nat) : List (Nat × Ent) := (1, ⟨mkU z25u1p z25u1x (z25u1t k) nilU⟩) :: z25U1 k
theorem z25U2_k (k : Nat) : UTab (z25U2 k) := (z25U1_k k).cons (mkU_nat nilU_nat)
noncomputable def z25u2d : UDef := ⟨[(0, none), (1, none)], [17, 18, 19, 20, 21, 22], [(.normal, [(17, none)])], []⟩
noncomputable def z25u2p : XPat := ⟨.normal, [(.tv .bool), (.tv (.int .i64))], []⟩
noncomputable def z25u2x : List XPat := [⟨.normal, [(.tv .bool)], []⟩]
noncomputable def tcoef_manyu2 (k : Nat) (x0 : Bool) (x1 : Int) : Option (Bool) :=
  bif x0 then
    some (decide (x1 ≤ 40))
  else
  some false
noncomputable def z25u2b : AC :=
  (.region [(iO 18 (.mv (.t 0))),
    (iO 19 (.mv (.t 18))),
    ⟨some 20, some (1, 19, true), (.op (.mv (.t 1))), []⟩,
    ⟨some 21, some (1, 19, true), (.op (.bin .leq (.t 20) (nI 40))), []⟩,
    (iO 22 (.pick (.t 19) (.t 21) (.c (.tv .bool (false : Bool))))),
    (iO 17 (.mv (.t 22)))])
noncomputable def z25u2t (k : Nat) (d : z25u2p.D) : Option (XD z25u2x) := tcoef_manyu2 k d.1 d.2
theorem z25u2_k (k : Nat) : UOK P GL (mkU z25u2p z25u2x (z25u2t k) nilU) z25u2d false z25u2b :=
  unit_typed (ud := z25u2d) (body := z25u2b) (uorc := uorT (z25U2 k)) hmo (T24_ok k).oo (z25U2_k k) (AllU.no (by kernel_rfl)) (fun d => by kernel_rfl)
noncomputable def z25U3 (k : Nat) : List (Nat × Ent) := (2, ⟨mkU z25u2p z25u2x (z25u2t k) nilU⟩) :: z25U2 k
theorem z25U3_k (k : Nat) : UTab (z25U3 k) := (z25U2_k k).cons (mkU_nat nilU_nat)
noncomputable def tcoef_many (k : Nat) (x0 : Bool) (x1 : Int) : Option (Int) :=
  Option.bind (tcoef_manyu0 k x0 x1) fun (v100 : Bool) =>
  bif v100 then
    some 3
  else
  Option.bind (tcoef_manyu1 k x0 x1) fun (v101 : Bool) =>
  bif v101 then
    some 2
  else
  Option.bind (tcoef_manyu2 k x0 x1) fun (v102 : Bool) =>
  bif v102 then
    some 1
  else
  bif x0 then
    some 0
  else
  bif (decide (x1 = 0)) then
    some 12
  else
  bif (decide (x1 = 1)) then
    some 6
  else
  bif (decide (x1 = 2)) then
    some 4
  else
  bif (decide (x1 ≤ 6)) then
    some 3
  else
  bif (decide (x1 ≤ 10)) then
    some 2
  else
  bif (decide (x1 ≤ 26)) then
    some 1
  else
  some 0
noncomputable def z25b : AC :=
  (.seq (.region [(iO 4 (.mv (nI 0)))])
  (.seq (.block 0 (.seq (.unit 0 z25u0d false z25u0b)
  (.cond (.t 5)
  (.seq (.region [(iO 4 (.mv (nI 3)))])
    .ret)
  (.seq (.unit 1 z25u1d false z25u1b)
    (.cond (.t 11)
    (.seq (.region [(iO 4 (.mv (nI 2)))])
      .ret)
    (.seq (.unit 2 z25u2d false z25u2b)
      (.cond (.t 17)
      (.seq (.region [(iO 4 (.mv (nI 1)))])
        .ret)
      (.seq (.region [(iO 24 (.mv (.t 0))),
          (iO 23 (.mv (.t 24)))])
        (.cond (.t 23)
        (.seq (.region [(iO 4 (.mv (nI 0)))])
          .ret)
        (.seq (.region [(iO 26 (.mv (.t 1))),
            (iO 27 (.bin .eql (.t 26) (nI 0))),
            (iO 25 (.mv (.t 27)))])
          (.cond (.t 25)
          (.seq (.region [(iO 4 (.mv (nI 12)))])
            .ret)
          (.seq (.region [(iO 29 (.mv (.t 1))),
              (iO 30 (.bin .eql (.t 29) (nI 1))),
              (iO 28 (.mv (.t 30)))])
            (.cond (.t 28)
            (.seq (.region [(iO 4 (.mv (nI 6)))])
              .ret)
            (.seq (.region [(iO 32 (.mv (.t 1))),
                (iO 33 (.bin .eql (.t 32) (nI 2))),
                (iO 31 (.mv (.t 33)))])
              (.cond (.t 31)
              (.seq (.region [(iO 4 (.mv (nI 4)))])
                .ret)
              (.seq (.region [(iO 35 (.mv (.t 1))),
                  (iO 36 (.bin .leq (.t 35) (nI 6))),
                  (iO 34 (.mv (.t 36)))])
                (.cond (.t 34)
                (.seq (.region [(iO 4 (.mv (nI 3)))])
                  .ret)
                (.seq (.region [(iO 38 (.mv (.t 1))),
                    (iO 39 (.bin .leq (.t 38) (nI 10))),
                    (iO 37 (.mv (.t 39)))])
                  (.cond (.t 37)
                  (.seq (.region [(iO 4 (.mv (nI 2)))])
                    .ret)
                  (.seq (.region [(iO 41 (.mv (.t 1))),
                      (iO 42 (.bin .leq (.t 41) (nI 26))),
                      (iO 40 (.mv (.t 42)))])
                    (.cond (.t 40)
                    (.seq (.region [(iO 4 (.mv (nI 1)))])
                      .ret)
                    .skip)))))))))))))))))))))
  (.seq (.region [(iO 4 (.mv (nI 0)))])
  .ret)))
noncomputable def z25f : FDef := ⟨2, 43, [.tmp 4 none], z25b⟩
noncomputable def z25p : XPat := ⟨.normal, [(.tv .bool), (.tv (.int .i64))], []⟩
noncomputable def z25x : List XPat := [⟨.ret, [(.tv (.int .i64))], []⟩]
noncomputable def z25t (k : Nat) (d : z25p.D) : Option (XD z25x) := tcoef_many k d.1 d.2
noncomputable def z25_e (k : Nat) : UEntry := mkU z25p z25x (z25t k) nilU
theorem z25_n (k : Nat) : UNat (z25_e k) := mkU_nat nilU_nat
theorem z25_fu (k : Nat) : FU P GL 108 (z25_e k) :=
  fn_typed (uorc := uorT (z25U3 k)) hmo (T24_ok k).oo (z25U3_k k) (fd := z25f) (AllU.seq (AllU.no (by kernel_rfl)) (AllU.seq (AllU.block (AllU.seq (AllU.unit (uorc := uorT (z25U3 k)) (u := 0) (z25u0_k k)) (AllU.cond (AllU.no (by kernel_rfl)) (AllU.seq (AllU.unit (uorc := uorT (z25U3 k)) (u := 1) (z25u1_k k)) (AllU.cond (AllU.no (by kernel_rfl)) (AllU.seq (AllU.unit (uorc := uorT (z25U3 k)) (u := 2) (z25u2_k k)) (AllU.no (by kernel_rfl)))))))) (AllU.no (by kernel_rfl)))) (fn := Tryz.f108) (by kernel_rfl) (by kernel_rfl) (fun d => by kernel_rfl) FU_nil
noncomputable def T25 (k : Nat) : List (Nat × Ent) := (108, ⟨z25_e k⟩) :: T24 k
theorem T25_ok (k : Nat) : TabOK P GL (T25 k) := (T24_ok k).cons (z25_fu k) (z25_n k)
/-! ### overspill.tcoef.place -/
noncomputable def z26U0 (_ : Nat) : List (Nat × Ent) := []
theorem z26U0_k (k : Nat) : UTab (z26U0 k) := UTab.nil
noncomputable def z26u0d : UDef := ⟨[(7, none), (16, none)], [7, 8, 16, 17, 18, 19, 20, 21, 22, 23], [((.exit 0), [(7, none)])], []⟩
noncomputable def z26u0p : XPat := ⟨.normal, [(.tv (.int .i64)), (.tv (.int .i64))], []⟩
noncomputable def z26u0x : List XPat := [⟨(.exit 0), [(.tv (.int .i64))], []⟩]
noncomputable def tcoef_placeu0 (k : Nat) : Nat → (Int) → (Int) → Option (Int)
  | 0, _, _ => none
  | n + 1, x0, x1 =>
    bif (decide (x1 < 63)) then
      Option.bind (tcoef_many k false x1) fun (v105 : Int) =>
      Option.bind (tcoef_placeu0 k n (wr .i64 (x0 + v105)) (wr .i64 (x1 + 1))) fun r => some r
    else
    some x0
noncomputable def z26u0b : AC :=
  (.seq (.region [(iO 17 (.bin .lss (.t 16) (nI 63)))])
  (.seq (.cond (.t 17)
  .skip
  (.exit 0))
  (.seq (.block 1 (.seq (.region [(iO 18 (.mv (.t 16))),
    (iO 8 (.mv (.t 18)))])
  (.region [(iO 19 (.mv (.t 7))),
    (iO 20 (.mv (.t 8))),
    (iC 21 108 [((.c (.tv .bool (false : Bool))), none), ((.t 20), none)]),
    (iO 22 (.bin .add (.t 19) (.t 21))),
    (iO 7 (.mv (.t 22)))])))
  (.region [(iO 23 (.bin .add (.t 16) (nI 1))),
    (iO 16 (.mv (.t 23)))]))))
noncomputable def z26u0t (k n : Nat) (d : z26u0p.D) : Option (XD z26u0x) := tcoef_placeu0 k n d.1 d.2
theorem z26u0_k (k : Nat) : UOK P GL (mkU z26u0p z26u0x (z26u0t k k) nilU) z26u0d true z26u0b :=
  loop_typed (ud := z26u0d) (body := z26u0b) (uorc := uorT (z26U0 k)) hmo (T25_ok k).oo (z26U0_k k) (AllU.no (by kernel_rfl)) (t := z26u0t k) (fun d => by kernel_rfl) (fun n d => by kernel_rfl) k
noncomputable def z26U1 (k : Nat) : List (Nat × Ent) := (0, ⟨mkU z26u0p z26u0x (z26u0t k k) nilU⟩) :: z26U0 k
theorem z26U1_k (k : Nat) : UTab (z26U1 k) := (z26U0_k k).cons (mkU_nat nilU_nat)
noncomputable def z26u1d : UDef := ⟨[(7, none), (15, none)], [7, 8, 16, 17, 18, 19, 20, 21, 22, 23], [(.normal, [(7, none)])], []⟩
noncomputable def z26u1p : XPat := ⟨.normal, [(.tv (.int .i64)), (.tv .bool)], []⟩
noncomputable def z26u1x : List XPat := [⟨.normal, [(.tv (.int .i64))], []⟩]
noncomputable def tcoef_placeu1 (k : Nat) (x0 : Int) (x1 : Bool) : Option (Int) :=
  bif x1 then
    Option.bind (tcoef_placeu0 k k x0 0) fun (v107 : Int) =>
    some v107
  else
  some x0
noncomputable def z26u1b : AC :=
  (.cond (.t 15)
  (.seq (.region [(iO 16 (.mv (nI 0)))])
    (.block 0 (.unit 0 z26u0d true z26u0b)))
  .skip)
noncomputable def z26u1t (k : Nat) (d : z26u1p.D) : Option (XD z26u1x) := tcoef_placeu1 k d.1 d.2
theorem z26u1_k (k : Nat) : UOK P GL (mkU z26u1p z26u1x (z26u1t k) nilU) z26u1d false z26u1b :=
  unit_typed (ud := z26u1d) (body := z26u1b) (uorc := uorT (z26U1 k)) hmo (T25_ok k).oo (z26U1_k k) (AllU.cond (AllU.seq (AllU.no (by kernel_rfl)) (AllU.block (AllU.unit (uorc := uorT (z26U1 k)) (u := 0) (z26u0_k k)))) (AllU.no (by kernel_rfl))) (fun d => by kernel_rfl)
noncomputable def z26U2 (k : Nat) : List (Nat × Ent) := (1, ⟨mkU z26u1p z26u1x (z26u1t k) nilU⟩) :: z26U1 k
theorem z26U2_k (k : Nat) : UTab (z26U2 k) := (z26U1_k k).cons (mkU_nat nilU_nat)
noncomputable def z26u2d : UDef := ⟨[(0, none), (7, none), (24, none), (25, none)], [7, 9, 25, 26, 27, 28, 29, 30, 31, 32, 33], [((.exit 2), [(7, none)])], []⟩
noncomputable def z26u2p : XPat := ⟨.normal, [(.tv .bool), (.tv (.int .i64)), (.tv (.int .i64)), (.tv (.int .i64))], []⟩
noncomputable def z26u2x : List XPat := [⟨(.exit 2), [(.tv (.int .i64))], []⟩]
noncomputable def tcoef_placeu2 (k : Nat) : Nat → (Bool) → (Int) → (Int) → (Int) → Option (Int)
  | 0, _, _, _, _ => none
  | n + 1, x0, x1, x2, x3 =>
    bif (decide (x3 < x2)) then
      Option.bind (tcoef_many k x0 x3) fun (v110 : Int) =>
      Option.bind (tcoef_placeu2 k n x0 (wr .i64 (x1 + v110)) x2 (wr .i64 (x3 + 1))) fun r => some r
    else
    some x1
noncomputable def z26u2b : AC :=
  (.seq (.region [(iO 26 (.bin .lss (.t 25) (.t 24)))])
  (.seq (.cond (.t 26)
  .skip
  (.exit 2))
  (.seq (.block 3 (.seq (.region [(iO 27 (.mv (.t 25))),
    (iO 9 (.mv (.t 27)))])
  (.region [(iO 28 (.mv (.t 7))),
    (iO 29 (.mv (.t 0))),
    (iO 30 (.mv (.t 9))),
    (iC 31 108 [((.t 29), none), ((.t 30), none)]),
    (iO 32 (.bin .add (.t 28) (.t 31))),
    (iO 7 (.mv (.t 32)))])))
  (.region [(iO 33 (.bin .add (.t 25) (nI 1))),
    (iO 25 (.mv (.t 33)))]))))
noncomputable def z26u2t (k n : Nat) (d : z26u2p.D) : Option (XD z26u2x) := tcoef_placeu2 k n d.1 d.2.1 d.2.2.1 d.2.2.2
theorem z26u2_k (k : Nat) : UOK P GL (mkU z26u2p z26u2x (z26u2t k k) nilU) z26u2d true z26u2b :=
  loop_typed (ud := z26u2d) (body := z26u2b) (uorc := uorT (z26U2 k)) hmo (T25_ok k).oo (z26U2_k k) (AllU.no (by kernel_rfl)) (t := z26u2t k) (fun d => by kernel_rfl) (fun n d => by kernel_rfl) k
noncomputable def z26U3 (k : Nat) : List (Nat × Ent) := (2, ⟨mkU z26u2p z26u2x (z26u2t k k) nilU⟩) :: z26U2 k
theorem z26U3_k (k : Nat) : UTab (z26U3 k) := (z26U2_k k).cons (mkU_nat nilU_nat)
noncomputable def tcoef_place (k : Nat) (x0 : Bool) (x1 : Int) (x2 : Int) : Option (Int) :=
  Option.bind (tcoef_many k x0 x1) fun (v103 : Int) =>
  bif (decide (v103 < x2)) then
    some (-1)
  else
  Option.bind (tcoef_placeu1 k 0 x0) fun (v108 : Int) =>
  Option.bind (tcoef_placeu2 k k x0 v108 x1 0) fun (v111 : Int) =>
  some (wr .i64 ((wr .i64 (v111 + x2)) - 1))
noncomputable def z26b : AC :=
  (.seq (.region [(iO 6 (.mv (nI 0)))])
  (.seq (.seq (.region [(iO 10 (.mv (.t 2))),
    (iO 11 (.mv (.t 0))),
    (iO 12 (.mv (.t 1))),
    (iC 13 108 [((.t 11), none), ((.t 12), none)]),
    (iO 14 (.bin .gtr (.t 10) (.t 13)))])
  (.cond (.t 14)
  (.seq (.region [(iO 6 (.mv (nI (-1))))])
    .ret)
  .skip))
  (.seq (.region [(iO 7 (.mv (nI 0)))])
  (.seq (.seq (.region [(iO 15 (.mv (.t 0)))])
  (.unit 1 z26u1d false z26u1b))
  (.seq (.seq (.region [(iO 24 (.mv (.t 1))),
    (iO 25 (.mv (nI 0)))])
  (.block 2 (.unit 2 z26u2d true z26u2b)))
  (.seq (.region [(iO 34 (.mv (.t 7))),
    (iO 35 (.mv (.t 2))),
    (iO 36 (.bin .add (.t 34) (.t 35))),
    (iO 37 (.bin .sub (.t 36) (nI 1))),
    (iO 6 (.mv (.t 37)))])
  .ret))))))
noncomputable def z26f : FDef := ⟨3, 38, [.tmp 6 none], z26b⟩
noncomputable def z26p : XPat := ⟨.normal, [(.tv .bool), (.tv (.int .i64)), (.tv (.int .i64))], []⟩
noncomputable def z26x : List XPat := [⟨.ret, [(.tv (.int .i64))], []⟩]
noncomputable def z26t (k : Nat) (d : z26p.D) : Option (XD z26x) := tcoef_place k d.1 d.2.1 d.2.2
noncomputable def z26_e (k : Nat) : UEntry := mkU z26p z26x (z26t k) nilU
theorem z26_n (k : Nat) : UNat (z26_e k) := mkU_nat nilU_nat
theorem z26_fu (k : Nat) : FU P GL 98 (z26_e k) :=
  fn_typed (uorc := uorT (z26U3 k)) hmo (T25_ok k).oo (z26U3_k k) (fd := z26f) (AllU.seq (AllU.no (by kernel_rfl)) (AllU.seq (AllU.no (by kernel_rfl)) (AllU.seq (AllU.no (by kernel_rfl)) (AllU.seq (AllU.seq (AllU.no (by kernel_rfl)) (AllU.unit (uorc := uorT (z26U3 k)) (u := 1) (z26u1_k k))) (AllU.seq (AllU.seq (AllU.no (by kernel_rfl)) (AllU.block (AllU.unit (uorc := uorT (z26U3 k)) (u := 2) (z26u2_k k)))) (AllU.no (by kernel_rfl))))))) (fn := Tryz.f98) (by kernel_rfl) (by kernel_rfl) (fun d => by kernel_rfl) FU_nil
noncomputable def T26 (k : Nat) : List (Nat × Ent) := (98, ⟨z26_e k⟩) :: T25 k
theorem T26_ok (k : Nat) : TabOK P GL (T26 k) := (T25_ok k).cons (z26_fu k) (z26_n k)
/-! ### overspill.outbits.Row -/
noncomputable def z27U0 (_ : Nat) : List (Nat × Ent) := []
theorem z27U0_k (k : Nat) : UTab (z27U0 k) := UTab.nil
noncomputable def z27u0d : UDef := ⟨[(0, none), (6, none), (7, none)], [6, 7, 16, 17, 18, 19, 20, 21, 22, 23, 24, 25, 26, 27, 28, 29], [((.exit 0), [(6, none)])], []⟩
noncomputable def z27u0p : XPat := ⟨.normal, [(.tv (.int .i64)), (.row 0), (.tv (.int .i64))], [(.row (.int .u8) false)]⟩
noncomputable def z27u0x : List XPat := [⟨(.exit 0), [(.row 0)], [(.row (.int .u8) false)]⟩]
noncomputable def outbits_Rowu0 (k : Nat) : Nat → (Int) → (Int) → (List (Int)) → Option ((Unit) × (List (Int)))
  | 0, _, _, _ => none
  | n + 1, x0, x1, x2 =>
    bif (decide ((0 : Int) ≤ x1)) then
      bif (decide ((wr .u64 x1) < 0)) then
        none
      else
      bif (decide ((List.length x2) + 1 ≤ rowMax)) then
        Option.bind (outbits_Rowu0 k n x0 (wr .i64 (x1 - 1)) (x2 ++ ([(wr .u8 (48 + (wr .u8 (bitop .and .i64 (shrI .i64 x0 (wr .u64 x1)) 1))))] : List (Int)))) fun r => some r
      else
        none
    else
    some ((), x2)
noncomputable def z27u0b : AC :=
  (.seq (.seq (.region [(iO 16 (.mv (.t 7))),
    (iO 17 (.bin .geq (.t 16) (nI 0)))])
  (.cond (.t 17)
  .skip
  (.exit 0)))
  (.seq (.block 1 (.region [(iO 20 (.mv (.t 6))),
    (iO 21 (.mv (.t 0))),
    (iO 22 (.mv (.t 7))),
    (iO 23 (.conv .u64 (.t 22))),
    (iO 24 (.bin .shr (.t 21) (.t 23))),
    (iO 25 (.bin .and (.t 24) (nI 1))),
    (iO 26 (.conv .u8 (.t 25))),
    (iO 27 (.bin .add (.c (.tv (.int .u8) (48 : Int))) (.t 26))),
    (iO 28 (.bslice (.int .u8) [(.t 27)])),
    (iO 29 (.app (.int .u8) (.t 20) (.t 28))),
    (iO 6 (.mv (.t 29)))]))
  (.region [(iO 18 (.mv (.t 7))),
    (iO 19 (.bin .sub (.t 18) (nI 1))),
    (iO 7 (.mv (.t 19)))])))
noncomputable def z27u0t (k n : Nat) (d : z27u0p.D) : Option (XD z27u0x) := outbits_Rowu0 k n d.1.1 d.1.2.2 d.2
theorem z27u0_k (k : Nat) : UOK P GL (mkU z27u0p z27u0x (z27u0t k k) nilU) z27u0d true z27u0b :=
  loop_typed (ud := z27u0d) (body := z27u0b) (uorc := uorT (z27U0 k)) hmo (T26_ok k).oo (z27U0_k k) (AllU.no (by kernel_rfl)) (t := z27u0t k) (fun d => by kernel_rfl) (fun n d => by kernel_rfl) k
noncomputable def z27U1 (k : Nat) : List (Nat × Ent) := (0, ⟨mkU z27u0p z27u0x (z27u0t k k) nilU⟩) :: z27U0 k
theorem z27U1_k (k : Nat) : UTab (z27U1 k) := (z27U0_k k).cons (mkU_nat nilU_nat)
noncomputable def outbits_Row (k : Nat) (x0 : Int) (x1 : Int) : Option ((List UInt8) × ((Int) × (Unit))) :=
  Option.bind (outbits_fits k x0 x1) fun (v113 : Bool) =>
  bif (!v113) then
    some (([] : List UInt8), (1, ()))
  else
  bif (decide ((0 : Int) ≤ 0 ∧ 0 ≤ x1 ∧ x1 ≤ ((rowMax : Nat) : Int))) then
    Option.bind (outbits_Rowu0 k k x0 (wr .i64 (x1 - 1)) ([] : List (Int))) fun (v114 : (Unit) × (List (Int))) =>
    some ((List.map toU8 v114.2), (0, ()))
  else
    none
noncomputable def z27b : AC :=
  (.seq (.region [(iO 4 (.mv (.c (.tv .str (([] : List UInt8) : List UInt8))))),
    (iO 5 (.mv (nI 0)))])
  (.seq (.seq (.region [(iO 8 (.mv (.t 0))),
    (iO 9 (.mv (.t 1))),
    (iC 10 61 [((.t 8), none), ((.t 9), none)]),
    (iO 11 (.un .not (.t 10)))])
  (.cond (.t 11)
  (.seq (.region [(iO 4 (.mv (.c (.tv .str (([] : List UInt8) : List UInt8))))),
      (iO 5 (.mv (nI 1)))])
    .ret)
  .skip))
  (.seq (.region [(iO 12 (.mv (.t 1))),
    (iO 13 (.mkslice (.int .u8) (nI 0) (.t 12))),
    (iO 6 (.mv (.t 13)))])
  (.seq (.seq (.region [(iO 14 (.mv (.t 1))),
    (iO 15 (.bin .sub (.t 14) (nI 1))),
    (iO 7 (.mv (.t 15)))])
  (.block 0 (.unit 0 z27u0d true z27u0b)))
  (.seq (.region [(iO 30 (.mv (.t 6))),
    (iO 31 (.bstr (.t 30))),
    (iO 4 (.mv (.t 31))),
    (iO 5 (.mv (nI 0)))])
  .ret)))))
noncomputable def z27f : FDef := ⟨2, 32, [.tmp 4 none, .tmp 5 none], z27b⟩
noncomputable def z27p : XPat := ⟨.normal, [(.tv (.int .i64)), (.tv (.int .i64))], []⟩
noncomputable def z27x : List XPat := [⟨.ret, [(.tup (.cons (.tv .str) (.cons (.tv (.int .i64)) .nil)))], []⟩]
noncomputable def z27t (k : Nat) (d : z27p.D) : Option (XD z27x) := outbits_Row k d.1 d.2
noncomputable def z27_e (k : Nat) : UEntry := mkU z27p z27x (z27t k) nilU
theorem z27_n (k : Nat) : UNat (z27_e k) := mkU_nat nilU_nat
theorem z27_fu (k : Nat) : FU P GL 82 (z27_e k) :=
  fn_typed (uorc := uorT (z27U1 k)) hmo (T26_ok k).oo (z27U1_k k) (fd := z27f) (AllU.seq (AllU.no (by kernel_rfl)) (AllU.seq (AllU.no (by kernel_rfl)) (AllU.seq (AllU.no (by kernel_rfl)) (AllU.seq (AllU.seq (AllU.no (by kernel_rfl)) (AllU.block (AllU.unit (uorc := uorT (z27U1 k)) (u := 0) (z27u0_k k)))) (AllU.no (by kernel_rfl)))))) (fn := Tryz.f82) (by kernel_rfl) (by kernel_rfl) (fun d => by kernel_rfl) FU_nil
noncomputable def T27 (k : Nat) : List (Nat × Ent) := (82, ⟨z27_e k⟩) :: T26 k
theorem T27_ok (k : Nat) : TabOK P GL (T27 k) := (T26_ok k).cons (z27_fu k) (z27_n k)
/-! ### overspill.tcoef.digit -/
noncomputable def z28U0 (_ : Nat) : List (Nat × Ent) := []
theorem z28U0_k (k : Nat) : UTab (z28U0 k) := UTab.nil
noncomputable def tcoef_digit (k : Nat) (x0 : Bool) : Option (List UInt8) :=
  bif x0 then
    some ([49] : List UInt8)
  else
  some ([48] : List UInt8)
noncomputable def z28b : AC :=
  (.seq (.region [(iO 2 (.mv (.c (.tv .str (([] : List UInt8) : List UInt8)))))])
  (.seq (.seq (.region [(iO 3 (.mv (.t 0)))])
  (.cond (.t 3)
  (.seq (.region [(iO 2 (.mv (.c (.tv .str (([49] : List UInt8) : List UInt8)))))])
    .ret)
  .skip))
  (.seq (.region [(iO 2 (.mv (.c (.tv .str (([48] : List UInt8) : List UInt8)))))])
  .ret)))
noncomputable def z28f : FDef := ⟨1, 4, [.tmp 2 none], z28b⟩
noncomputable def z28p : XPat := ⟨.normal, [(.tv .bool)], []⟩
noncomputable def z28x : List XPat := [⟨.ret, [(.tv .str)], []⟩]
noncomputable def z28t (k : Nat) (d : z28p.D) : Option (XD z28x) := tcoef_digit k d
noncomputable def z28_e (k : Nat) : UEntry := mkU z28p z28x (z28t k) nilU
theorem z28_n (k : Nat) : UNat (z28_e k) := mkU_nat nilU_nat
theorem z28_fu (k : Nat) : FU P GL 99 (z28_e k) :=
  fn_typed (uorc := uorT (z28U0 k)) hmo (T27_ok k).oo (z28U0_k k) (fd := z28f) (AllU.no (by kernel_rfl)) (fn := Tryz.f99) (by kernel_rfl) (by kernel_rfl) (fun d => by kernel_rfl) FU_nil
noncomputable def T28 (k : Nat) : List (Nat × Ent) := (99, ⟨z28_e k⟩) :: T27 k
theorem T28_ok (k : Nat) : TabOK P GL (T28 k) := (T27_ok k).cons (z28_fu k) (z28_n k)
/-! ### overspill.tcoef.Row -/
noncomputable def z29U0 (_ : Nat) : List (Nat × Ent) := []
theorem z29U0_k (k : Nat) : UTab (z29U0 k) := UTab.nil
noncomputable def tcoef_Row (k : Nat) (x0 : DEvent) : Option ((List UInt8) × ((Bool) × (Unit))) :=
  Option.bind (tcoef_Right k x0) fun (v99 : Bool) =>
  bif (!v99) then
    some (([] : List UInt8), (false, ()))
  else
  Option.bind (tcoef_place k x0.1 x0.2.1 (mxI x0.2.2.1 (wr .i64 (0 - x0.2.2.1)))) fun (v112 : Int) =>
  bif (decide ((0 : Int) ≤ v112)) then
    bif (inR v112 102) then
      bif (inR v112 102) then
        Option.bind (outbits_Row k (List.getD tbl1 (Int.toNat v112) 0) (List.getD tbl2 (Int.toNat v112) 0)) fun (v115 : (List UInt8) × ((Int) × (Unit))) =>
        Option.bind (tcoef_digit k (decide (x0.2.2.1 < 0))) fun (v116 : List UInt8) =>
        bif (decide ((List.length v115.1) + (List.length v116) ≤ strMax)) then
          some ((v115.1 ++ v116), (true, ()))
        else
          none
      else
        none
    else
      none
  else
  Option.bind (outbits_Row k 3 7) fun (v117 : (List UInt8) × ((Int) × (Unit))) =>
  Option.bind (outbits_Row k x0.2.1 6) fun (v118 : (List UInt8) × ((Int) × (Unit))) =>
  Option.bind (outbits_Row k (Int.tmod (wr .i64 (x0.2.2.1 + 256)) 256) 8) fun (v119 : (List UInt8) × ((Int) × (Unit))) =>
  Option.bind (tcoef_digit k x0.1) fun (v120 : List UInt8) =>
  bif (decide ((List.length v117.1) + (List.length v120) ≤ strMax)) then
    bif (decide ((List.length (v117.1 ++ v120)) + (List.length v118.1) ≤ strMax)) then
      bif (decide ((List.length ((v117.1 ++ v120) ++ v118.1)) + (List.length v119.1) ≤ strMax)) then
        some ((((v117.1 ++ v120) ++ v118.1) ++ v119.1), (true, ()))
      else
        none
    else
      none
  else
    none
noncomputable def z29b : AC :=
  (.seq (.region [(iO 1 (.box (.t 0))),
    (iO 2 (.mv (.c (.tv .str (([] : List UInt8) : List UInt8))))),
    (iO 3 (.mv (.c (.tv .bool (false : Bool)))))])
  (.seq (.seq (.region [(iO 13 (.load true 3 (.t 1))),
    (iC 14 97 [((.t 13), some YEvent)]),
    (iO 15 (.un .not (.t 14)))])
  (.cond (.t 15)
  (.seq (.region [(iO 2 (.mv (.c (.tv .str (([] : List UInt8) : List UInt8))))),
      (iO 3 (.mv (.c (.tv .bool (false : Bool)))))])
    .ret)
  .skip))
  (.seq (.seq (.region [(iO 16 (.fad 0 0 (.t 1))),
    (iO 17 (.load false 1 (.t 16))),
    (iO 18 (.fad 1 1 (.t 1))),
    (iO 19 (.load false 1 (.t 18))),
    (iO 20 (.fad 2 2 (.t 1))),
    (iO 21 (.load false 1 (.t 20))),
    (iO 22 (.fad 2 2 (.t 1))),
    (iO 23 (.load false 1 (.t 22))),
    (iO 24 (.un .neg (.t 23))),
    (iO 25 (.mx (.t 21) (.t 24))),
    (iC 26 98 [((.t 17), none), ((.t 19), none), ((.t 25), none)]),
    (iO 4 (.mv (.t 26)))])
  (.seq (.region [(iO 27 (.mv (.t 4))),
    (iO 28 (.bin .geq (.t 27) (nI 0)))])
  (.cond (.t 28)
  (.seq (.draw [(iO 30 (.mv (.t 4))),
      (iOa 31 (.iad 102 1 (.g 1) (.t 30)) [0]),
      (iOa 32 (.load false 1 (.t 31)) [0, 1]),
      (iO 33 (.mv (.t 4))),
      (iOa 34 (.iad 102 1 (.g 2) (.t 33)) [3]),
      (iOa 35 (.load false 1 (.t 34)) [3, 4]),
      (iCa 36 82 [((.t 32), none), ((.t 35), none)] (rg [0, 6])),
      (iOa 29 (.mv (.t 36)) (rg [0, 7])),
      (iOa 37 (.ext (.t 29) 0) (rg [0, 8])),
      (iOa 38 (.ext (.t 29) 1) (rg [0, 8])),
      (iOa 5 (.mv (.t 37)) (rg [0, 9])),
      (iOa 6 (.mv (.t 38)) (rg [0, 11]))])
    (.seq (.region [(iO 39 (.mv (.t 5))),
      (iO 40 (.fad 2 2 (.t 1))),
      (iO 41 (.load false 1 (.t 40))),
      (iO 42 (.bin .lss (.t 41) (nI 0))),
      (iC 43 99 [((.t 42), none)]),
      (iO 44 (.bin .add (.t 39) (.t 43))),
      (iO 2 (.mv (.t 44))),
      (iO 3 (.mv (.c (.tv .bool (true : Bool)))))])
    .ret))
  .skip)))
  (.seq (.region [(iC 46 82 [((nI 3), none), ((nI 7), none)]),
    (iO 45 (.mv (.t 46))),
    (iO 47 (.ext (.t 45) 0)),
    (iO 48 (.ext (.t 45) 1)),
    (iO 7 (.mv (.t 47))),
    (iO 8 (.mv (.t 48)))])
  (.seq (.region [(iO 50 (.fad 1 1 (.t 1))),
    (iO 51 (.load false 1 (.t 50))),
    (iC 52 82 [((.t 51), none), ((nI 6), none)]),
    (iO 49 (.mv (.t 52))),
    (iO 53 (.ext (.t 49) 0)),
    (iO 54 (.ext (.t 49) 1)),
    (iO 9 (.mv (.t 53))),
    (iO 10 (.mv (.t 54)))])
  (.seq (.region [(iO 56 (.fad 2 2 (.t 1))),
    (iO 57 (.load false 1 (.t 56))),
    (iO 58 (.bin .add (.t 57) (nI 256))),
    (iO 59 (.bin .rem (.t 58) (nI 256))),
    (iC 60 82 [((.t 59), none), ((nI 8), none)]),
    (iO 55 (.mv (.t 60))),
    (iO 61 (.ext (.t 55) 0)),
    (iO 62 (.ext (.t 55) 1)),
    (iO 11 (.mv (.t 61))),
    (iO 12 (.mv (.t 62)))])
  (.seq (.region [(iO 63 (.mv (.t 7))),
    (iO 64 (.fad 0 0 (.t 1))),
    (iO 65 (.load false 1 (.t 64))),
    (iC 66 99 [((.t 65), none)]),
    (iO 67 (.bin .add (.t 63) (.t 66))),
    (iO 68 (.mv (.t 9))),
    (iO 69 (.bin .add (.t 67) (.t 68))),
    (iO 70 (.mv (.t 11))),
    (iO 71 (.bin .add (.t 69) (.t 70))),
    (iO 2 (.mv (.t 71))),
    (iO 3 (.mv (.c (.tv .bool (true : Bool)))))])
  .ret)))))))
noncomputable def z29f : FDef := ⟨1, 72, [.tmp 2 none, .tmp 3 none], z29b⟩
noncomputable def z29p : XPat := ⟨.normal, [(.tv YEvent)], []⟩
noncomputable def z29x : List XPat := [⟨.ret, [(.tup (.cons (.tv .str) (.cons (.tv .bool) .nil)))], []⟩]
noncomputable def z29t (k : Nat) (d : z29p.D) : Option (XD z29x) := tcoef_Row k d
noncomputable def z29_e (k : Nat) : UEntry := mkU z29p z29x (z29t k) nilU
theorem z29_n (k : Nat) : UNat (z29_e k) := mkU_nat nilU_nat
theorem z29_fu (k : Nat) : FU P GL 85 (z29_e k) :=
  fn_typed (uorc := uorT (z29U0 k)) hmo (T28_ok k).oo (z29U0_k k) (fd := z29f) (AllU.no (by kernel_rfl)) (fn := Tryz.f85) (by kernel_rfl) (by kernel_rfl) (fun d => by kernel_rfl) FU_nil
noncomputable def T29 (k : Nat) : List (Nat × Ent) := (85, ⟨z29_e k⟩) :: T28 k
theorem T29_ok (k : Nat) : TabOK P GL (T29 k) := (T28_ok k).cons (z29_fu k) (z29_n k)
/-! ### overspill.outbits.plain -/
noncomputable def z30U0 (_ : Nat) : List (Nat × Ent) := []
theorem z30U0_k (k : Nat) : UTab (z30U0 k) := UTab.nil
noncomputable def z30u0d : UDef := ⟨[(6, none)], [2, 4, 7, 8, 9, 10, 11, 12, 13, 14, 15], [(.ret, [(2, none)]), ((.exit 0), [])], []⟩
noncomputable def z30u0p : XPat := ⟨.normal, [(.obj 0)], [.iter]⟩
noncomputable def z30u0x : List XPat := [⟨.ret, [(.tv .bool)], [.iter]⟩, ⟨(.exit 0), [], [.iter]⟩]
noncomputable def outbits_plainu0 (k : Nat) : Nat → (List UInt8) → (Nat) → Option (((Bool) × (List UInt8 × Nat)) ⊕ ((Unit) × (List UInt8 × Nat)))
  | 0, _, _ => none
  | n + 1, x0, x1 =>
    bif (decide (x1 < List.length x0)) then
      bif (!(decide (((Utf8.decode ⟨List.toArray x0⟩ x1).1 : Int) = 48))) then
        bif (!(decide (((Utf8.decode ⟨List.toArray x0⟩ x1).1 : Int) = 49))) then
          some (Sum.inl (false, (x0, (x1 + (Utf8.decode ⟨List.toArray x0⟩ x1).2))))
        else
        Option.bind (outbits_plainu0 k n x0 (x1 + (Utf8.decode ⟨List.toArray x0⟩ x1).2)) fun r => Sum.elim (fun w => some (Sum.inl w)) (fun w => some (Sum.inr w)) r
      else
      Option.bind (outbits_plainu0 k n x0 (x1 + (Utf8.decode ⟨List.toArray x0⟩ x1).2)) fun r => Sum.elim (fun w => some (Sum.inl w)) (fun w => some (Sum.inr w)) r
    else
    some (Sum.inr ((), (x0, x1)))
noncomputable def z30u0b : AC :=
  (.seq (.region [(iO 7 (.nxt (.t 6))),
    (iO 8 (.ext (.t 7) 0))])
  (.seq (.cond (.t 8)
  .skip
  (.exit 0))
  (.block 1 (.seq (.region [(iO 9 (.ext (.t 7) 2)),
    (iO 4 (.mv (.t 9)))])
  (.seq (.region [(iO 10 (.mv (.t 4))),
    (iO 11 (.bin .neq (.t 10) (.c (.tv (.int .i32) (48 : Int))))),
    (iO 12 (.mv (.t 11))),
    ⟨some 13, some (2, 12, true), (.op (.mv (.t 4))), []⟩,
    ⟨some 14, some (2, 12, true), (.op (.bin .neq (.t 13) (.c (.tv (.int .i32) (49 : Int))))), []⟩,
    (iO 15 (.pick (.t 12) (.t 14) (.c (.tv .bool (false : Bool)))))])
  (.cond (.t 15)
  (.seq (.region [(iO 2 (.mv (.c (.tv .bool (false : Bool)))))])
    .ret)
  .skip))))))
noncomputable def z30u0t (k n : Nat) (d : z30u0p.D) : Option (XD z30u0x) := outbits_plainu0 k n d.2.1 d.2.2
theorem z30u0_k (k : Nat) : UOK P GL (mkU z30u0p z30u0x (z30u0t k k) nilU) z30u0d true z30u0b :=
  loop_typed (ud := z30u0d) (body := z30u0b) (uorc := uorT (z30U0 k)) hmo (T29_ok k).oo (z30U0_k k) (AllU.no (by kernel_rfl)) (t := z30u0t k) (fun d => by kernel_rfl) (fun n d => by kernel_rfl) k
noncomputable def z30U1 (k : Nat) : List (Nat × Ent) := (0, ⟨mkU z30u0p z30u0x (z30u0t k k) nilU⟩) :: z30U0 k
theorem z30U1_k (k : Nat) : UTab (z30U1 k) := (z30U0_k k).cons (mkU_nat nilU_nat)
noncomputable def outbits_plain (k : Nat) (x0 : List UInt8) : Option (Bool) :=
  Option.bind (outbits_plainu0 k k x0 0) fun r =>
  Sum.elim (fun (v122 : (Bool) × (List UInt8 × Nat)) =>
    some v122.1)
    (fun (v123 : (Unit) × (List UInt8 × Nat)) =>
    some true) r
noncomputable def z30b : AC :=
  (.seq (.region [(iO 2 (.mv (.c (.tv .bool (false : Bool)))))])
  (.seq (.seq (.region [(iO 5 (.mv (.t 0))),
    (iO 6 (.rng (.t 5)))])
  (.block 0 (.unit 0 z30u0d true z30u0b)))
  (.seq (.region [(iO 2 (.mv (.c (.tv .bool (true : Bool)))))])
  .ret)))
noncomputable def z30f : FDef := ⟨1, 16, [.tmp 2 none], z30b⟩
noncomputable def z30p : XPat := ⟨.normal, [(.tv .str)], []⟩
noncomputable def z30x : List XPat := [⟨.ret, [(.tv .bool)], []⟩]
noncomputable def z30t (k : Nat) (d : z30p.D) : Option (XD z30x) := outbits_plain k d
noncomputable def z30_e (k : Nat) : UEntry := mkU z30p z30x (z30t k) nilU
theorem z30_n (k : Nat) : UNat (z30_e k) := mkU_nat nilU_nat
theorem z30_fu (k : Nat) : FU P GL 18 (z30_e k) :=
  fn_typed (uorc := uorT (z30U1 k)) hmo (T29_ok k).oo (z30U1_k k) (fd := z30f) (AllU.seq (AllU.no (by kernel_rfl)) (AllU.seq (AllU.seq (AllU.no (by kernel_rfl)) (AllU.block (AllU.unit (uorc := uorT (z30U1 k)) (u := 0) (z30u0_k k)))) (AllU.no (by kernel_rfl)))) (fn := Tryz.f18) (by kernel_rfl) (by kernel_rfl) (fun d => by kernel_rfl) FU_nil
noncomputable def T30 (k : Nat) : List (Nat × Ent) := (18, ⟨z30_e k⟩) :: T29 k
theorem T30_ok (k : Nat) : TabOK P GL (T30 k) := (T29_ok k).cons (z30_fu k) (z30_n k)
/-! ### (*overspill.outbits.Writer).Add -/
noncomputable def z31U0 (_ : Nat) : List (Nat × Ent) := []
theorem z31U0_k (k : Nat) : UTab (z31U0 k) := UTab.nil
noncomputable def z31u0d : UDef := ⟨[(0, none), (1, none)], [7, 8, 9, 10, 11, 12, 13], [(.normal, [(13, none)])], []⟩
noncomputable def z31u0p : XPat := ⟨.normal, [(.ptr 0 []), (.tv .str)], [(.box (.cons (.row 1) (.cons (.tv (.int .i64)) .nil))), (.row (.int .u8) false)]⟩
noncomputable def z31u0x : List XPat := [⟨.normal, [(.tv .bool)], [(.box (.cons (.row 1) (.cons (.tv (.int .i64)) .nil))), (.row (.int .u8) false)]⟩]
noncomputable def outbits_Writer_Addu0 (k : Nat) (x0 : List UInt8) (x1 : Int) (x2 : List (Int)) : Option ((Bool) × (((Unit) × ((Int) × (Unit))) × (List (Int)))) :=
  Option.bind (outbits_plain k x0) fun (v125 : Bool) =>
  some ((!v125), (((), (x1, ())), x2))
noncomputable def z31u0b : AC :=
  (.region [(iO 7 (.mv (.t 0))),
    (iO 8 (.eqp false (.t 7) (.c .nilp))),
    (iO 9 (.mv (.t 8))),
    ⟨some 10, some (2, 9, false), (.op (.mv (.t 1))), []⟩,
    ⟨some 11, some (2, 9, false), (.call (.c (.fn 18 .nil .nil)) [((.t 10), none)]), []⟩,
    ⟨some 12, some (2, 9, false), (.op (.un .not (.t 11))), []⟩,
    (iO 13 (.pick (.t 9) (.c (.tv .bool (true : Bool))) (.t 12)))])
noncomputable def z31u0t (k : Nat) (d : z31u0p.D) : Option (XD z31u0x) := outbits_Writer_Addu0 k d.1.2 d.2.1.2.1 d.2.2
theorem z31u0_k (k : Nat) : UOK P GL (mkU z31u0p z31u0x (z31u0t k) nilU) z31u0d false z31u0b :=
  unit_typed (ud := z31u0d) (body := z31u0b) (uorc := uorT (z31U0 k)) hmo (T30_ok k).oo (z31U0_k k) (AllU.no (by kernel_rfl)) (fun d => by kernel_rfl)
noncomputable def z31U1 (k : Nat) : List (Nat × Ent) := (0, ⟨mkU z31u0p z31u0x (z31u0t k) nilU⟩) :: z31U0 k
theorem z31U1_k (k : Nat) : UTab (z31U1 k) := (z31U0_k k).cons (mkU_nat nilU_nat)
noncomputable def z31u1d : UDef := ⟨[(0, none), (15, none)], [6, 16, 17, 18, 19, 20, 21, 22], [((.exit 0), [])], []⟩
noncomputable def z31u1p : XPat := ⟨.normal, [(.ptr 0 []), (.obj 1)], [(.box (.cons (.row 2) (.cons (.tv (.int .i64)) .nil))), .iter, (.row (.int .u8) false)]⟩
noncomputable def z31u1x : List XPat := [⟨(.exit 0), [], [(.box (.cons (.row 2) (.cons (.tv (.int .i64)) .nil))), .iter, (.row (.int .u8) false)]⟩]
noncomputable def outbits_Writer_Addu1 (k : Nat) : Nat → (Int) → (List UInt8) → (Nat) → (List (Int)) → Option ((Unit) × (((Unit) × ((Int) × (Unit))) × ((List UInt8 × Nat) × (List (Int)))))
  | 0, _, _, _, _ => none
  | n + 1, x0, x1, x2, x3 =>
    bif (decide (x2 < List.length x1)) then
      Option.bind (outbits_Writer_bit k (decide (((Utf8.decode ⟨List.toArray x1⟩ x2).1 : Int) = 49)) x0 x3) fun (v128 : (Unit) × (((Unit) × ((Int) × (Unit))) × (List (Int)))) =>
      Option.bind (outbits_Writer_Addu1 k n v128.2.1.2.1 x1 (x2 + (Utf8.decode ⟨List.toArray x1⟩ x2).2) v128.2.2) fun r => some r
    else
    some ((), (((), (x0, ())), ((x1, x2), x3)))
noncomputable def z31u1b : AC :=
  (.seq (.region [(iO 16 (.nxt (.t 15))),
    (iO 17 (.ext (.t 16) 0))])
  (.seq (.cond (.t 17)
  .skip
  (.exit 0))
  (.block 1 (.seq (.region [(iO 18 (.ext (.t 16) 2)),
    (iO 6 (.mv (.t 18)))])
  (.region [(iO 19 (.mv (.t 0))),
    (iO 20 (.mv (.t 6))),
    (iO 21 (.bin .eql (.t 20) (.c (.tv (.int .i32) (49 : Int))))),
    (iC 22 19 [((.t 19), none), ((.t 21), none)])])))))
noncomputable def z31u1t (k n : Nat) (d : z31u1p.D) : Option (XD z31u1x) := outbits_Writer_Addu1 k n d.2.1.2.1 d.2.2.1.1 d.2.2.1.2 d.2.2.2
theorem z31u1_k (k : Nat) : UOK P GL (mkU z31u1p z31u1x (z31u1t k k) nilU) z31u1d true z31u1b :=
  loop_typed (ud := z31u1d) (body := z31u1b) (uorc := uorT (z31U1 k)) hmo (T30_ok k).oo (z31U1_k k) (AllU.no (by kernel_rfl)) (t := z31u1t k) (fun d => by kernel_rfl) (fun n d => by kernel_rfl) k
noncomputable def z31U2 (k : Nat) : List (Nat × Ent) := (1, ⟨mkU z31u1p z31u1x (z31u1t k k) nilU⟩) :: z31U1 k
theorem z31U2_k (k : Nat) : UTab (z31U2 k) := (z31U1_k k).cons (mkU_nat nilU_nat)
noncomputable def outbits_Writer_Add (k : Nat) (x0 : List UInt8) (x1 : Int) (x2 : List (Int)) : Option ((Int) × (((Unit) × ((Int) × (Unit))) × (List (Int)))) :=
  Option.bind (outbits_Writer_Addu0 k x0 x1 x2) fun (v126 : (Bool) × (((Unit) × ((Int) × (Unit))) × (List (Int)))) =>
  bif v126.1 then
    some (1, (((), (v126.2.1.2.1, ())), v126.2.2))
  else
  Option.bind (outbits_Writer_Addu1 k k v126.2.1.2.1 x0 0 v126.2.2) fun (v129 : (Unit) × (((Unit) × ((Int) × (Unit))) × ((List UInt8 × Nat) × (List (Int))))) =>
  some (0, (((), (v129.2.1.2.1, ())), v129.2.2.2))
noncomputable def z31b : AC :=
  (.seq (.region [(iO 4 (.mv (nI 0)))])
  (.seq (.seq (.unit 0 z31u0d false z31u0b)
  (.cond (.t 13)
  (.seq (.region [(iO 4 (.mv (nI 1)))])
    .ret)
  .skip))
  (.seq (.seq (.region [(iO 14 (.mv (.t 1))),
    (iO 15 (.rng (.t 14)))])
  (.block 0 (.unit 1 z31u1d true z31u1b)))
  (.seq (.region [(iO 4 (.mv (nI 0)))])
  .ret))))
noncomputable def z31f : FDef := ⟨2, 23, [.tmp 4 none], z31b⟩
noncomputable def z31p : XPat := ⟨.normal, [(.ptr 0 []), (.tv .str)], [(.box (.cons (.row 1) (.cons (.tv (.int .i64)) .nil))), (.row (.int .u8) false)]⟩
noncomputable def z31x : List XPat := [⟨.ret, [(.tv (.int .i64))], [(.box (.cons (.row 1) (.cons (.tv (.int .i64)) .nil))), (.row (.int .u8) false)]⟩]
noncomputable def z31t (k : Nat) (d : z31p.D) : Option (XD z31x) := outbits_Writer_Add k d.1.2 d.2.1.2.1 d.2.2
noncomputable def z31_e (k : Nat) : UEntry := mkU z31p z31x (z31t k) nilU
theorem z31_n (k : Nat) : UNat (z31_e k) := mkU_nat nilU_nat
theorem z31_fu (k : Nat) : FU P GL 8 (z31_e k) :=
  fn_typed (uorc := uorT (z31U2 k)) hmo (T30_ok k).oo (z31U2_k k) (fd := z31f) (AllU.seq (AllU.no (by kernel_rfl)) (AllU.seq (AllU.seq (AllU.unit (uorc := uorT (z31U2 k)) (u := 0) (z31u0_k k)) (AllU.no (by kernel_rfl))) (AllU.seq (AllU.seq (AllU.no (by kernel_rfl)) (AllU.block (AllU.unit (uorc := uorT (z31U2 k)) (u := 1) (z31u1_k k)))) (AllU.no (by kernel_rfl))))) (fn := Tryz.f8) (by kernel_rfl) (by kernel_rfl) (fun d => by kernel_rfl) FU_nil
noncomputable def T31 (k : Nat) : List (Nat × Ent) := (8, ⟨z31_e k⟩) :: T30 k
theorem T31_ok (k : Nat) : TabOK P GL (T31 k) := (T30_ok k).cons (z31_fu k) (z31_n k)
/-! ### overspill.blocks.Put -/
noncomputable def z32U0 (_ : Nat) : List (Nat × Ent) := []
theorem z32U0_k (k : Nat) : UTab (z32U0 k) := UTab.nil
noncomputable def z32u0d : UDef := ⟨[(2, none), (23, none)], [2], [(.normal, [(2, none)])], []⟩
noncomputable def z32u0p : XPat := ⟨.normal, [(.tv (.int .i64)), (.tv .bool)], []⟩
noncomputable def z32u0x : List XPat := [⟨.normal, [(.tv (.int .i64))], []⟩]
noncomputable def blocks_Putu0 (k : Nat) (x0 : Int) (x1 : Bool) : Option (Int) :=
  bif x1 then
    some 255
  else
  some x0
noncomputable def z32u0b : AC :=
  (.cond (.t 23)
  (.region [(iO 2 (.mv (nI 255)))])
  .skip)
noncomputable def z32u0t (k : Nat) (d : z32u0p.D) : Option (XD z32u0x) := blocks_Putu0 k d.1 d.2
theorem z32u0_k (k : Nat) : UOK P GL (mkU z32u0p z32u0x (z32u0t k) nilU) z32u0d false z32u0b :=
  unit_typed (ud := z32u0d) (body := z32u0b) (uorc := uorT (z32U0 k)) hmo (T31_ok k).oo (z32U0_k k) (AllU.no (by kernel_rfl)) (fun d => by kernel_rfl)
noncomputable def z32U1 (k : Nat) : List (Nat × Ent) := (0, ⟨mkU z32u0p z32u0x (z32u0t k) nilU⟩) :: z32U0 k
theorem z32U1_k (k : Nat) : UTab (z32U1 k) := (z32U0_k k).cons (mkU_nat nilU_nat)
noncomputable def z32u1d : UDef := ⟨[(0, none), (2, none), (24, none)], [25, 26, 27], [(.normal, [])], []⟩
noncomputable def z32u1p : XPat := ⟨.normal, [(.ptr 0 []), (.tv (.int .i64)), (.tv .bool)], [(.box (.cons (.row 1) (.cons (.tv (.int .i64)) .nil))), (.row (.int .u8) false)]⟩
noncomputable def z32u1x : List XPat := [⟨.normal, [], [(.box (.cons (.row 1) (.cons (.tv (.int .i64)) .nil))), (.row (.int .u8) false)]⟩]
noncomputable def blocks_Putu1 (k : Nat) (x0 : Int) (x1 : Bool) (x2 : Int) (x3 : List (Int)) : Option ((Unit) × (((Unit) × ((Int) × (Unit))) × (List (Int)))) :=
  bif x1 then
    Option.bind (outbits_Writer_Put k x0 8 x2 x3) fun (v97 : (Int) × (((Unit) × ((Int) × (Unit))) × (List (Int)))) =>
    some ((), (((), (v97.2.1.2.1, ())), v97.2.2))
  else
  some ((), (((), (x2, ())), x3))
noncomputable def z32u1b : AC :=
  (.cond (.t 24)
  (.region [(iO 25 (.mv (.t 0))),
      (iO 26 (.mv (.t 2))),
      (iC 27 29 [((.t 25), none), ((.t 26), none), ((nI 8), none)])])
  .skip)
noncomputable def z32u1t (k : Nat) (d : z32u1p.D) : Option (XD z32u1x) := blocks_Putu1 k d.1.2.1 d.1.2.2 d.2.1.2.1 d.2.2
theorem z32u1_k (k : Nat) : UOK P GL (mkU z32u1p z32u1x (z32u1t k) nilU) z32u1d false z32u1b :=
  unit_typed (ud := z32u1d) (body := z32u1b) (uorc := uorT (z32U1 k)) hmo (T31_ok k).oo (z32U1_k k) (AllU.no (by kernel_rfl)) (fun d => by kernel_rfl)
noncomputable def z32U2 (k : Nat) : List (Nat × Ent) := (1, ⟨mkU z32u1p z32u1x (z32u1t k) nilU⟩) :: z32U1 k
theorem z32U2_k (k : Nat) : UTab (z32U2 k) := (z32U1_k k).cons (mkU_nat nilU_nat)
noncomputable def z32u2d : UDef := ⟨[(0, none), (28, none), (29, none), (30, none)], [10, 11, 12, 30, 31, 32, 33, 34, 35, 36, 37, 38, 39, 40, 41, 42], [((.exit 1), [])], []⟩
noncomputable def z32u2p : XPat := ⟨.normal, [(.ptr 0 []), (.tv (.sl YEvent)), (.tv (.int .i64)), (.tv (.int .i64))], [(.box (.cons (.row 1) (.cons (.tv (.int .i64)) .nil))), (.row (.int .u8) false)]⟩
noncomputable def z32u2x : List XPat := [⟨(.exit 1), [], [(.box (.cons (.row 1) (.cons (.tv (.int .i64)) .nil))), (.row (.int .u8) false)]⟩]
noncomputable def blocks_Putu2 (k : Nat) : Nat → (List (DEvent)) → (Int) → (Int) → (Int) → (List (Int)) → Option ((Unit) × (((Unit) × ((Int) × (Unit))) × (List (Int))))
  | 0, _, _, _, _, _ => none
  | n + 1, x0, x1, x2, x3, x4 =>
    bif (decide (x2 < x1)) then
      bif (inR x2 (List.length x0)) then
        Option.bind (tcoef_Row k (List.getD x0 (Int.toNat x2) (false, (0, (0, ()))))) fun (v131 : (List UInt8) × ((Bool) × (Unit))) =>
        Option.bind (outbits_Writer_Add k v131.1 x3 x4) fun (v132 : (Int) × (((Unit) × ((Int) × (Unit))) × (List (Int)))) =>
        Option.bind (blocks_Putu2 k n x0 x1 (wr .i64 (x2 + 1)) v132.2.1.2.1 v132.2.2) fun r => some r
      else
        none
    else
    some ((), (((), (x3, ())), x4))
noncomputable def z32u2b : AC :=
  (.seq (.region [(iO 31 (.bin .lss (.t 30) (.t 29)))])
  (.seq (.cond (.t 31)
  .skip
  (.exit 1))
  (.seq (.block 2 (.seq (.region [(iO 32 (.iads YEvent (.t 28) (.t 30))),
    (iO 33 (.load true 3 (.t 32))),
    (iO 10 (.alloc 110 (.tv YEvent))),
    (iS (.store 3 none (.t 10) (.t 33)))])
  (.seq (.region [(iO 35 (.load true 3 (.t 10))),
    (iC 36 85 [((.t 35), some YEvent)]),
    (iO 34 (.mv (.t 36))),
    (iO 37 (.ext (.t 34) 0)),
    (iO 38 (.ext (.t 34) 1)),
    (iO 11 (.mv (.t 37))),
    (iO 12 (.mv (.t 38)))])
  (.region [(iO 39 (.mv (.t 0))),
    (iO 40 (.mv (.t 11))),
    (iC 41 8 [((.t 39), none), ((.t 40), none)])]))))
  (.region [(iO 42 (.bin .add (.t 30) (nI 1))),
    (iO 30 (.mv (.t 42)))]))))
noncomputable def z32u2t (k n : Nat) (d : z32u2p.D) : Option (XD z32u2x) := blocks_Putu2 k n d.1.2.1 d.1.2.2.1 d.1.2.2.2 d.2.1.2.1 d.2.2
theorem z32u2_k (k : Nat) : UOK P GL (mkU z32u2p z32u2x (z32u2t k k) nilU) z32u2d true z32u2b :=
  loop_typed (ud := z32u2d) (body := z32u2b) (uorc := uorT (z32U2 k)) hmo (T31_ok k).oo (z32U2_k k) (AllU.no (by kernel_rfl)) (t := z32u2t k) (fun d => by kernel_rfl) (fun n d => by kernel_rfl) k
noncomputable def z32U3 (k : Nat) : List (Nat × Ent) := (2, ⟨mkU z32u2p z32u2x (z32u2t k k) nilU⟩) :: z32U2 k
theorem z32U3_k (k : Nat) : UTab (z32U3 k) := (z32U2_k k).cons (mkU_nat nilU_nat)
noncomputable def blocks_Put (k : Nat) (x0 : Bool) (x1 : Int) (x2 : List (DEvent)) (x3 : Int) (x4 : List (Int)) : Option ((Int) × (((Unit) × ((Int) × (Unit))) × (List (Int)))) :=
  Option.bind (blocks_may k x0 x1 x2) fun (v94 : Bool) =>
  bif (!v94) then
    some (7, (((), (x3, ())), x4))
  else
  Option.bind (blocks_Putu0 k x1 (decide (x1 = 128))) fun (v95 : Int) =>
  Option.bind (blocks_Putu1 k v95 x0 x3 x4) fun (v98 : (Unit) × (((Unit) × ((Int) × (Unit))) × (List (Int)))) =>
  Option.bind (blocks_Putu2 k k x2 ((List.length x2 : Nat) : Int) 0 v98.2.1.2.1 v98.2.2) fun (v133 : (Unit) × (((Unit) × ((Int) × (Unit))) × (List (Int)))) =>
  some (0, (((), (v133.2.1.2.1, ())), v133.2.2))
noncomputable def z32b : AC :=
  (.seq (.region [(iO 8 (.mv (nI 0)))])
  (.seq (.block 0 (.seq (.region [(iO 14 (.mv (.t 0))),
    (iO 15 (.eqp false (.t 14) (.c .nilp))),
    (iO 13 (.mv (.t 15)))])
  (.cond (.t 13)
  (.seq (.region [(iO 8 .bad)])
    .ret)
  (.seq (.region [(iO 17 (.mv (.t 1))),
      (iO 18 (.mv (.t 2))),
      (iO 19 (.mv (.t 3))),
      (iC 20 84 [((.t 17), none), ((.t 18), none), ((.t 19), some (.sl YEvent))]),
      (iO 21 (.un .not (.t 20))),
      (iO 16 (.mv (.t 21)))])
    (.cond (.t 16)
    (.seq (.region [(iO 8 (.mv (nI 7)))])
      .ret)
    .skip)))))
  (.seq (.seq (.region [(iO 22 (.mv (.t 2))),
    (iO 23 (.bin .eql (.t 22) (nI 128)))])
  (.unit 0 z32u0d false z32u0b))
  (.seq (.seq (.region [(iO 24 (.mv (.t 1)))])
  (.unit 1 z32u1d false z32u1b))
  (.seq (.seq (.region [(iO 28 (.mv (.t 3))),
    (iO 29 (.len (.t 28))),
    (iO 30 (.mv (nI 0)))])
  (.block 1 (.unit 2 z32u2d true z32u2b)))
  (.seq (.region [(iO 8 (.mv (nI 0)))])
  .ret))))))
noncomputable def z32f : FDef := ⟨4, 43, [.tmp 8 none], z32b⟩
noncomputable def z32p : XPat := ⟨.normal, [(.ptr 0 []), (.tv .bool), (.tv (.int .i64)), (.tv (.sl YEvent))], [(.box (.cons (.row 1) (.cons (.tv (.int .i64)) .nil))), (.row (.int .u8) false)]⟩
noncomputable def z32x : List XPat := [⟨.ret, [(.tv (.int .i64))], [(.box (.cons (.row 1) (.cons (.tv (.int .i64)) .nil))), (.row (.int .u8) false)]⟩]
noncomputable def z32t (k : Nat) (d : z32p.D) : Option (XD z32x) := blocks_Put k d.1.2.1 d.1.2.2.1 d.1.2.2.2 d.2.1.2.1 d.2.2
noncomputable def z32_e (k : Nat) : UEntry := mkU z32p z32x (z32t k) nilU
theorem z32_n (k : Nat) : UNat (z32_e k) := mkU_nat nilU_nat
theorem z32_fu (k : Nat) : FU P GL 58 (z32_e k) :=
  fn_typed (uorc := uorT (z32U3 k)) hmo (T31_ok k).oo (z32U3_k k) (fd := z32f) (AllU.seq (AllU.no (by kernel_rfl)) (AllU.seq (AllU.no (by kernel_rfl)) (AllU.seq (AllU.seq (AllU.no (by kernel_rfl)) (AllU.unit (uorc := uorT (z32U3 k)) (u := 0) (z32u0_k k))) (AllU.seq (AllU.seq (AllU.no (by kernel_rfl)) (AllU.unit (uorc := uorT (z32U3 k)) (u := 1) (z32u1_k k))) (AllU.seq (AllU.seq (AllU.no (by kernel_rfl)) (AllU.block (AllU.unit (uorc := uorT (z32U3 k)) (u := 2) (z32u2_k k)))) (AllU.no (by kernel_rfl))))))) (fn := Tryz.f58) (by kernel_rfl) (by kernel_rfl) (fun d => by kernel_rfl) FU_nil
noncomputable def T32 (k : Nat) : List (Nat × Ent) := (58, ⟨z32_e k⟩) :: T31 k
theorem T32_ok (k : Nat) : TabOK P GL (T32 k) := (T31_ok k).cons (z32_fu k) (z32_n k)
/-! ### overspill.cellout.Right -/
noncomputable def z33U0 (_ : Nat) : List (Nat × Ent) := []
theorem z33U0_k (k : Nat) : UTab (z33U0 k) := UTab.nil
noncomputable def z33u0d : UDef := ⟨[(3, none)], [8, 9, 10, 11, 12, 13, 14, 15], [(.normal, [(15, none)])], []⟩
noncomputable def z33u0p : XPat := ⟨.normal, [(.ptr 0 [])], [(.box (.tv YCell))]⟩
noncomputable def z33u0x : List XPat := [⟨.normal, [(.tv .bool)], [(.box (.tv YCell))]⟩]
noncomputable def cellout_Rightu0 (k : Nat) (x0 : DCell) : Option ((Bool) × (DCell)) :=
  bif (decide (x0.1 < 0)) then
    some (true, x0)
  else
  some ((decide ((64 : Int) < x0.1)), x0)
noncomputable def z33u0b : AC :=
  (.region [(iO 8 (.fad 0 0 (.t 3))),
    (iO 9 (.load false 1 (.t 8))),
    (iO 10 (.bin .lss (.t 9) (nI 0))),
    (iO 11 (.mv (.t 10))),
    ⟨some 12, some (3, 11, false), (.op (.fad 0 0 (.t 3))), []⟩,
    ⟨some 13, some (3, 11, false), (.op (.load false 1 (.t 12))), []⟩,
    ⟨some 14, some (3, 11, false), (.op (.bin .gtr (.t 13) (nI 64))), []⟩,
    (iO 15 (.pick (.t 11) (.c (.tv .bool (true : Bool))) (.t 14)))])
noncomputable def z33u0t (k : Nat) (d : z33u0p.D) : Option (XD z33u0x) := cellout_Rightu0 k d.2
theorem z33u0_k (k : Nat) : UOK P GL (mkU z33u0p z33u0x (z33u0t k) nilU) z33u0d false z33u0b :=
  unit_typed (ud := z33u0d) (body := z33u0b) (uorc := uorT (z33U0 k)) hmo (T32_ok k).oo (z33U0_k k) (AllU.no (by kernel_rfl)) (fun d => by kernel_rfl)
noncomputable def z33U1 (k : Nat) : List (Nat × Ent) := (0, ⟨mkU z33u0p z33u0x (z33u0t k) nilU⟩) :: z33U0 k
theorem z33U1_k (k : Nat) : UTab (z33U1 k) := (z33U0_k k).cons (mkU_nat nilU_nat)
noncomputable def z33u1d : UDef := ⟨[(0, none), (3, none)], [4, 18, 19, 20, 21, 22], [(.normal, [(4, none)])], []⟩
noncomputable def z33u1p : XPat := ⟨.normal, [(.tv .bool), (.ptr 0 [])], [(.box (.tv YCell))]⟩
noncomputable def z33u1x : List XPat := [⟨.normal, [(.tv .bool)], [(.box (.tv YCell))]⟩]
noncomputable def cellout_Rightu1 (k : Nat) (x0 : Bool) (x1 : DCell) : Option ((Bool) × (DCell)) :=
  bif x0 then
    Option.bind (cellout_bare k x1) fun (v66 : Bool) =>
    some (v66, x1)
  else
  some (false, x1)
noncomputable def z33u1b : AC :=
  (.region [(iO 18 (.mv (.t 0))),
    (iO 19 (.mv (.t 18))),
    ⟨some 20, some (1, 19, true), (.op (.load true 18 (.t 3))), []⟩,
    ⟨some 21, some (1, 19, true), (.call (.c (.fn 77 .nil .nil)) [((.t 20), some YCell)]), []⟩,
    (iO 22 (.pick (.t 19) (.t 21) (.c (.tv .bool (false : Bool))))),
    (iO 4 (.mv (.t 22)))])
noncomputable def z33u1t (k : Nat) (d : z33u1p.D) : Option (XD z33u1x) := cellout_Rightu1 k d.1.1 d.2
theorem z33u1_k (k : Nat) : UOK P GL (mkU z33u1p z33u1x (z33u1t k) nilU) z33u1d false z33u1b :=
  unit_typed (ud := z33u1d) (body := z33u1b) (uorc := uorT (z33U1 k)) hmo (T32_ok k).oo (z33U1_k k) (AllU.no (by kernel_rfl)) (fun d => by kernel_rfl)
noncomputable def z33U2 (k : Nat) : List (Nat × Ent) := (1, ⟨mkU z33u1p z33u1x (z33u1t k) nilU⟩) :: z33U1 k
theorem z33U2_k (k : Nat) : UTab (z33U2 k) := (z33U1_k k).cons (mkU_nat nilU_nat)
noncomputable def z33u2d : UDef := ⟨[(0, none), (3, none)], [23, 24, 25, 26, 27, 28, 29, 30, 31, 32, 33, 34, 35, 36, 37, 38, 39, 40], [(.normal, [(40, none)])], []⟩
noncomputable def z33u2p : XPat := ⟨.normal, [(.tv .bool), (.ptr 0 [])], [(.box (.tv YCell))]⟩
noncomputable def z33u2x : List XPat := [⟨.normal, [(.tv .bool)], [(.box (.tv YCell))]⟩]
noncomputable def cellout_Rightu2 (k : Nat) (x0 : Bool) (x1 : DCell) : Option ((Bool) × (DCell)) :=
  Option.bind (cellout_intra k x1.2.2.1) fun (v69 : Bool) =>
  bif (!v69) then
    bif (!x0) then
      some (true, x1)
    else
    bif (!(decide (x1.2.2.1 = 0))) then
      some ((!(decide (x1.2.2.1 = 1))), x1)
    else
    some (false, x1)
  else
  some (false, x1)
noncomputable def z33u2b : AC :=
  (.region [(iO 23 (.fad 2 2 (.t 3))),
    (iO 24 (.load false 1 (.t 23))),
    (iC 25 52 [((.t 24), none)]),
    (iO 26 (.un .not (.t 25))),
    (iO 27 (.mv (.t 26))),
    ⟨some 28, some (4, 27, true), (.op (.mv (.t 0))), []⟩,
    ⟨some 29, some (4, 27, true), (.op (.un .not (.t 28))), []⟩,
    ⟨some 30, some (4, 27, true), (.op (.mv (.t 29))), []⟩,
    ⟨some 31, some (7, 30, false), (.op (.fad 2 2 (.t 3))), []⟩,
    ⟨some 32, some (7, 30, false), (.op (.load false 1 (.t 31))), []⟩,
    ⟨some 33, some (7, 30, false), (.op (.bin .neq (.t 32) (nI 0))), []⟩,
    ⟨some 34, some (7, 30, false), (.op (.mv (.t 33))), []⟩,
    ⟨some 35, some (11, 34, true), (.op (.fad 2 2 (.t 3))), []⟩,
    ⟨some 36, some (11, 34, true), (.op (.load false 1 (.t 35))), []⟩,
    ⟨some 37, some (11, 34, true), (.op (.bin .neq (.t 36) (nI 1))), []⟩,
    ⟨some 38, some (7, 30, false), (.op (.pick (.t 34) (.t 37) (.c (.tv .bool (false : Bool))))), []⟩,
    ⟨some 39, some (4, 27, true), (.op (.pick (.t 30) (.c (.tv .bool (true : Bool))) (.t 38))), []⟩,
    (iO 40 (.pick (.t 27) (.t 39) (.c (.tv .bool (false : Bool)))))])
noncomputable def z33u2t (k : Nat) (d : z33u2p.D) : Option (XD z33u2x) := cellout_Rightu2 k d.1.1 d.2
theorem z33u2_k (k : Nat) : UOK P GL (mkU z33u2p z33u2x (z33u2t k) nilU) z33u2d false z33u2b :=
  unit_typed (ud := z33u2d) (body := z33u2b) (uorc := uorT (z33U2 k)) hmo (T32_ok k).oo (z33U2_k k) (AllU.no (by kernel_rfl)) (fun d => by kernel_rfl)
noncomputable def z33U3 (k : Nat) : List (Nat × Ent) := (2, ⟨mkU z33u2p z33u2x (z33u2t k) nilU⟩) :: z33U2 k
theorem z33U3_k (k : Nat) : UTab (z33U3 k) := (z33U2_k k).cons (mkU_nat nilU_nat)
noncomputable def z33u3d : UDef := ⟨[(3, none), (6, none)], [47, 48, 49, 50, 51, 52, 53, 54, 55, 56, 57, 58, 59, 60, 61, 62, 63, 64, 65], [(.normal, [(65, none)])], []⟩
noncomputable def z33u3p : XPat := ⟨.normal, [(.ptr 0 []), (.tv .bool)], [(.box (.tv YCell))]⟩
noncomputable def z33u3x : List XPat := [⟨.normal, [(.tv .bool)], [(.box (.tv YCell))]⟩]
noncomputable def cellout_Rightu3 (k : Nat) (x0 : Bool) (x1 : DCell) : Option ((Bool) × (DCell)) :=
  Option.bind (cellout_stepped k x1.2.2.1) fun (v78 : Bool) =>
  bif (true ^^ (x0 == v78)) then
    some (true, x1)
  else
  bif (!x0) then
    bif (!(decide (x1.2.2.2.1 = 0))) then
      some (true, x1)
    else
    Option.bind (cellout_vector k x1) fun (v79 : Bool) =>
    some ((!v79), x1)
  else
  Option.bind (cellout_vector k x1) fun (v80 : Bool) =>
  some ((!v80), x1)
noncomputable def z33u3b : AC :=
  (.region [(iO 47 (.mv (.t 6))),
    (iO 48 (.fad 2 2 (.t 3))),
    (iO 49 (.load false 1 (.t 48))),
    (iC 50 54 [((.t 49), none)]),
    (iO 51 (.eqb true (.t 47) (.t 50))),
    (iO 52 (.mv (.t 51))),
    ⟨some 53, some (5, 52, false), (.op (.mv (.t 6))), []⟩,
    ⟨some 54, some (5, 52, false), (.op (.un .not (.t 53))), []⟩,
    ⟨some 55, some (5, 52, false), (.op (.mv (.t 54))), []⟩,
    ⟨some 56, some (8, 55, true), (.op (.fad 3 3 (.t 3))), []⟩,
    ⟨some 57, some (8, 55, true), (.op (.load false 1 (.t 56))), []⟩,
    ⟨some 58, some (8, 55, true), (.op (.bin .neq (.t 57) (nI 0))), []⟩,
    ⟨some 59, some (5, 52, false), (.op (.pick (.t 55) (.t 58) (.c (.tv .bool (false : Bool))))), []⟩,
    (iO 60 (.pick (.t 52) (.c (.tv .bool (true : Bool))) (.t 59))),
    (iO 61 (.mv (.t 60))),
    ⟨some 62, some (14, 61, false), (.op (.load true 18 (.t 3))), []⟩,
    ⟨some 63, some (14, 61, false), (.call (.c (.fn 78 .nil .nil)) [((.t 62), some YCell)]), []⟩,
    ⟨some 64, some (14, 61, false), (.op (.un .not (.t 63))), []⟩,
    (iO 65 (.pick (.t 61) (.c (.tv .bool (true : Bool))) (.t 64)))])
noncomputable def z33u3t (k : Nat) (d : z33u3p.D) : Option (XD z33u3x) := cellout_Rightu3 k d.1.2 d.2
theorem z33u3_k (k : Nat) : UOK P GL (mkU z33u3p z33u3x (z33u3t k) nilU) z33u3d false z33u3b :=
  unit_typed (ud := z33u3d) (body := z33u3b) (uorc := uorT (z33U3 k)) hmo (T32_ok k).oo (z33U3_k k) (AllU.no (by kernel_rfl)) (fun d => by kernel_rfl)
noncomputable def z33U4 (k : Nat) : List (Nat × Ent) := (3, ⟨mkU z33u3p z33u3x (z33u3t k) nilU⟩) :: z33U3 k
theorem z33U4_k (k : Nat) : UTab (z33U4 k) := (z33U3_k k).cons (mkU_nat nilU_nat)
noncomputable def z33u4d : UDef := ⟨[(3, none), (66, none)], [4, 7, 66, 67, 68, 69, 70, 71, 72, 73, 74, 75, 76, 77, 78, 79, 80, 81, 82, 83], [(.ret, [(4, none)]), ((.exit 0), [])], []⟩
noncomputable def z33u4p : XPat := ⟨.normal, [(.ptr 0 []), (.tv (.int .i64))], [(.box (.tv YCell))]⟩
noncomputable def z33u4x : List XPat := [⟨.ret, [(.tv .bool)], [(.box (.tv YCell))]⟩, ⟨(.exit 0), [], [(.box (.tv YCell))]⟩]
noncomputable def cellout_Rightu4 (k : Nat) : Nat → (Int) → (DCell) → Option (((Bool) × (DCell)) ⊕ ((Unit) × (DCell)))
  | 0, _, _ => none
  | n + 1, x0, x1 =>
    bif (decide (x0 < 6)) then
      Option.bind (outbits_New k) fun (v135 : (Unit) × (((Unit) × ((Int) × (Unit))) × (List (Int)))) =>
      Option.bind (cellout_intra k x1.2.2.1) fun (v136 : Bool) =>
      bif (inR x0 6) then
        bif (inR x0 6) then
          Option.bind (blocks_Put k v136 (List.getD x1.2.2.2.2.2.1 (Int.toNat x0) 0) (List.getD x1.2.2.2.2.2.2.1 (Int.toNat x0) ([] : List (DEvent))) v135.2.1.2.1 v135.2.2) fun (v137 : (Int) × (((Unit) × ((Int) × (Unit))) × (List (Int)))) =>
          bif (!(decide (v137.1 = 0))) then
            some (Sum.inl (false, x1))
          else
          Option.bind (cellout_Rightu4 k n (wr .i64 (x0 + 1)) x1) fun r => Sum.elim (fun w => some (Sum.inl w)) (fun w => some (Sum.inr w)) r
        else
          none
      else
        none
    else
    some (Sum.inr ((), x1))
noncomputable def z33u4b : AC :=
  (.seq (.region [(iO 67 (.bin .lss (.t 66) (nI 6)))])
  (.seq (.cond (.t 67)
  .skip
  (.exit 0))
  (.seq (.block 1 (.seq (.region [(iO 68 (.mv (.t 66))),
    (iO 7 (.mv (.t 68)))])
  (.seq (.draw [(iC 69 7 []),
    (iO 70 (.fad 2 2 (.t 3))),
    (iOa 71 (.load false 1 (.t 70)) [1]),
    (iCa 72 52 [((.t 71), none)] [0, 1, 2]),
    (iO 73 (.mv (.t 7))),
    (iO 74 (.fad 5 6 (.t 3))),
    (iOa 75 (.iad 6 1 (.t 74) (.t 73)) [4, 5]),
    (iOa 76 (.load false 1 (.t 75)) [4, 5, 6]),
    (iO 77 (.mv (.t 7))),
    (iO 78 (.fad 6 12 (.t 3))),
    (iOa 79 (.iad 6 1 (.t 78) (.t 77)) [8, 9]),
    (iOa 80 (.load false 1 (.t 79)) [8, 9, 10]),
    (iCa 81 58 [((.t 69), none), ((.t 72), none), ((.t 76), none), ((.t 80), some (.sl YEvent))] (rg [0, 12])),
    (iOa 82 (.bin .neq (.t 81) (nI 0)) (rg [0, 13]))])
  (.cond (.t 82)
  (.seq (.region [(iO 4 (.mv (.c (.tv .bool (false : Bool)))))])
    .ret)
  .skip))))
  (.region [(iO 83 (.bin .add (.t 66) (nI 1))),
    (iO 66 (.mv (.t 83)))]))))
noncomputable def z33u4t (k n : Nat) (d : z33u4p.D) : Option (XD z33u4x) := cellout_Rightu4 k n d.1.2 d.2
theorem z33u4_k (k : Nat) : UOK P GL (mkU z33u4p z33u4x (z33u4t k k) nilU) z33u4d true z33u4b :=
  loop_typed (ud := z33u4d) (body := z33u4b) (uorc := uorT (z33U4 k)) hmo (T32_ok k).oo (z33U4_k k) (AllU.no (by kernel_rfl)) (t := z33u4t k) (fun d => by kernel_rfl) (fun n d => by kernel_rfl) k
noncomputable def z33U5 (k : Nat) : List (Nat × Ent) := (4, ⟨mkU z33u4p z33u4x (z33u4t k k) nilU⟩) :: z33U4 k
theorem z33U5_k (k : Nat) : UTab (z33U5 k) := (z33U4_k k).cons (mkU_nat nilU_nat)
noncomputable def cellout_Right (k : Nat) (x0 : Bool) (x1 : DCell) : Option (Bool) :=
  Option.bind (cellout_Rightu0 k x1) fun (v62 : (Bool) × (DCell)) =>
  bif v62.1 then
    some false
  else
  bif v62.2.2.1 then
    Option.bind (cellout_Rightu1 k x0 v62.2) fun (v67 : (Bool) × (DCell)) =>
    some v67.1
  else
  Option.bind (cellout_Rightu2 k x0 v62.2) fun (v70 : (Bool) × (DCell)) =>
  bif v70.1 then
    some false
  else
  Option.bind (steps_Row k v70.2.2.2.2.1) fun (v71 : (List UInt8) × ((Bool) × (Unit))) =>
  Option.bind (cellout_Rightu3 k v71.2.1 v70.2) fun (v81 : (Bool) × (DCell)) =>
  bif v81.1 then
    some false
  else
  Option.bind (cellout_Rightu4 k k 0 v81.2) fun r =>
  Sum.elim (fun (v138 : (Bool) × (DCell)) =>
    some v138.1)
    (fun (v139 : (Unit) × (DCell)) =>
    some true) r
noncomputable def z33b : AC :=
  (.seq (.region [(iO 3 (.box (.t 1))),
    (iO 4 (.mv (.c (.tv .bool (false : Bool)))))])
  (.seq (.seq (.unit 0 z33u0d false z33u0b)
  (.cond (.t 15)
  (.seq (.region [(iO 4 (.mv (.c (.tv .bool (false : Bool)))))])
    .ret)
  .skip))
  (.seq (.seq (.region [(iO 16 (.fad 1 1 (.t 3))),
    (iO 17 (.load false 1 (.t 16)))])
  (.cond (.t 17)
  (.seq (.unit 1 z33u1d false z33u1b)
    .ret)
  .skip))
  (.seq (.seq (.unit 2 z33u2d false z33u2b)
  (.cond (.t 40)
  (.seq (.region [(iO 4 (.mv (.c (.tv .bool (false : Bool)))))])
    .ret)
  .skip))
  (.seq (.seq (.region [(iO 42 (.fad 3 3 (.t 3))),
    (iO 43 (.load false 1 (.t 42))),
    (iC 44 55 [((.t 43), none)]),
    (iO 41 (.mv (.t 44))),
    (iO 45 (.ext (.t 41) 0)),
    (iO 46 (.ext (.t 41) 1)),
    (iO 5 (.mv (.t 45))),
    (iO 6 (.mv (.t 46)))])
  (.seq (.unit 3 z33u3d false z33u3b)
  (.cond (.t 65)
  (.seq (.region [(iO 4 (.mv (.c (.tv .bool (false : Bool)))))])
    .ret)
  .skip)))
  (.seq (.seq (.region [(iO 66 (.mv (nI 0)))])
  (.block 0 (.unit 4 z33u4d true z33u4b)))
  (.seq (.region [(iO 4 (.mv (.c (.tv .bool (true : Bool)))))])
  .ret)))))))
noncomputable def z33f : FDef := ⟨2, 84, [.tmp 4 none], z33b⟩
noncomputable def z33p : XPat := ⟨.normal, [(.tv .bool), (.tv YCell)], []⟩
noncomputable def z33x : List XPat := [⟨.ret, [(.tv .bool)], []⟩]
noncomputable def z33t (k : Nat) (d : z33p.D) : Option (XD z33x) := cellout_Right k d.1 d.2
noncomputable def z33_e (k : Nat) : UEntry := mkU z33p z33x (z33t k) nilU
theorem z33_n (k : Nat) : UNat (z33_e k) := mkU_nat nilU_nat
theorem z33_fu (k : Nat) : FU P GL 49 (z33_e k) :=
  fn_typed (uorc := uorT (z33U5 k)) hmo (T32_ok k).oo (z33U5_k k) (fd := z33f) (AllU.seq (AllU.no (by kernel_rfl)) (AllU.seq (AllU.seq (AllU.unit (uorc := uorT (z33U5 k)) (u := 0) (z33u0_k k)) (AllU.no (by kernel_rfl))) (AllU.seq (AllU.seq (AllU.no (by kernel_rfl)) (AllU.cond (AllU.seq (AllU.unit (uorc := uorT (z33U5 k)) (u := 1) (z33u1_k k)) (AllU.no (by kernel_rfl))) (AllU.no (by kernel_rfl)))) (AllU.seq (AllU.seq (AllU.unit (uorc := uorT (z33U5 k)) (u := 2) (z33u2_k k)) (AllU.no (by kernel_rfl))) (AllU.seq (AllU.seq (AllU.no (by kernel_rfl)) (AllU.seq (AllU.unit (uorc := uorT (z33U5 k)) (u := 3) (z33u3_k k)) (AllU.no (by kernel_rfl)))) (AllU.seq (AllU.seq (AllU.no (by kernel_rfl)) (AllU.block (AllU.unit (uorc := uorT (z33U5 k)) (u := 4) (z33u4_k k)))) (AllU.no (by kernel_rfl)))))))) (fn := Tryz.f49) (by kernel_rfl) (by kernel_rfl) (fun d => by kernel_rfl) FU_nil
noncomputable def T33 (k : Nat) : List (Nat × Ent) := (49, ⟨z33_e k⟩) :: T32 k
theorem T33_ok (k : Nat) : TabOK P GL (T33 k) := (T32_ok k).cons (z33_fu k) (z33_n k)
/-! ### (overspill.sound.sheet).row -/
noncomputable def z34U0 (_ : Nat) : List (Nat × Ent) := []
theorem z34U0_k (k : Nat) : UTab (z34U0 k) := UTab.nil
noncomputable def z34u0d : UDef := ⟨[(9, none)], [37, 38, 39, 40, 41, 42, 43, 44, 45, 46, 47, 48, 49, 50], [(.normal, [(37, none)])], []⟩
noncomputable def z34u0p : XPat := ⟨.normal, [(.ptr 0 [])], [(.box (.tv YRow))]⟩
noncomputable def z34u0x : List XPat := [⟨.normal, [(.tv .bool)], [(.box (.tv YRow))]⟩]
noncomputable def sound_sheet_rowu0 (k : Nat) (x0 : DRow) : Option ((Bool) × (DRow)) :=
  bif (!x0.1) then
    bif (!(decide (x0.2.1 = 0))) then
      some (true, x0)
    else
    some ((!(decide (x0.2.2.1 = 0))), x0)
  else
  some (false, x0)
noncomputable def z34u0b : AC :=
  (.region [(iO 38 (.fad 0 0 (.t 9))),
    (iO 39 (.load false 1 (.t 38))),
    (iO 40 (.un .not (.t 39))),
    (iO 41 (.mv (.t 40))),
    ⟨some 42, some (3, 41, true), (.op (.fad 1 1 (.t 9))), []⟩,
    ⟨some 43, some (3, 41, true), (.op (.load false 1 (.t 42))), []⟩,
    ⟨some 44, some (3, 41, true), (.op (.bin .neq (.t 43) (nI 0))), []⟩,
    ⟨some 45, some (3, 41, true), (.op (.mv (.t 44))), []⟩,
    ⟨some 46, some (7, 45, false), (.op (.fad 2 2 (.t 9))), []⟩,
    ⟨some 47, some (7, 45, false), (.op (.load false 1 (.t 46))), []⟩,
    ⟨some 48, some (7, 45, false), (.op (.bin .neq (.t 47) (nI 0))), []⟩,
    ⟨some 49, some (3, 41, true), (.op (.pick (.t 45) (.c (.tv .bool (true : Bool))) (.t 48))), []⟩,
    (iO 50 (.pick (.t 41) (.t 49) (.c (.tv .bool (false : Bool))))),
    (iO 37 (.mv (.t 50)))])
noncomputable def z34u0t (k : Nat) (d : z34u0p.D) : Option (XD z34u0x) := sound_sheet_rowu0 k d.2
theorem z34u0_k (k : Nat) : UOK P GL (mkU z34u0p z34u0x (z34u0t k) nilU) z34u0d false z34u0b :=
  unit_typed (ud := z34u0d) (body := z34u0b) (uorc := uorT (z34U0 k)) hmo (T33_ok k).oo (z34U0_k k) (AllU.no (by kernel_rfl)) (fun d => by kernel_rfl)
noncomputable def z34U1 (k : Nat) : List (Nat × Ent) := (0, ⟨mkU z34u0p z34u0x (z34u0t k) nilU⟩) :: z34U0 k
theorem z34U1_k (k : Nat) : UTab (z34U1 k) := (z34U0_k k).cons (mkU_nat nilU_nat)
noncomputable def z34u1d : UDef := ⟨[(1, none), (5, none), (8, none), (9, none)], [4, 29, 30, 31, 32, 33, 34, 35, 36, 37, 38, 39, 40, 41, 42, 43, 44, 45, 46, 47, 48, 49, 50, 51, 52, 53, 54, 55, 56, 57, 58, 59, 60, 61, 62, 63, 64, 65, 66, 67, 68, 69, 70, 71, 72, 73, 74, 75, 76, 77], [(.ret, [(4, none)]), (.normal, [])], []⟩
noncomputable def z34u1p : XPat := ⟨.normal, [(.tv (.int .i64)), (.tv (.int .i64)), (.tv (.int .i64)), (.ptr 0 [])], [(.box (.tv YRow))]⟩
noncomputable def z34u1x : List XPat := [⟨.ret, [(.tv .bool)], [(.box (.tv YRow))]⟩, ⟨.normal, [], [(.box (.tv YRow))]⟩]
noncomputable def sound_sheet_rowu1 (k : Nat) (x0 : Int) (x1 : Int) (x2 : Int) (x3 : DRow) : Option (((Bool) × (DRow)) ⊕ ((Unit) × (DRow))) :=
  bif (!(decide (((List.length x3.2.2.2.1 : Nat) : Int) = (wr .i64 (x1 * x2))))) then
    some (Sum.inl (false, x3))
  else
  Option.bind (sound_sheet_rowu0 k x3) fun (v59 : (Bool) × (DRow)) =>
  bif v59.1 then
    some (Sum.inl (false, v59.2))
  else
  bif v59.2.1 then
    bif (decide (x0 = 0)) then
      some (Sum.inl (false, v59.2))
    else
    bif (decide (v59.2.2.1 < 0)) then
      some (Sum.inl (false, v59.2))
    else
    bif (decide ((3 : Int) < v59.2.2.1)) then
      some (Sum.inl (false, v59.2))
    else
    bif (decide (v59.2.2.2.1 < 1)) then
      some (Sum.inl (false, v59.2))
    else
    bif (decide ((31 : Int) < v59.2.2.2.1)) then
      some (Sum.inl (false, v59.2))
    else
    some (Sum.inr ((), v59.2))
  else
  some (Sum.inr ((), v59.2))
noncomputable def z34u1b : AC :=
  (.block 0 (.seq (.region [(iO 30 (.fad 3 3 (.t 9))),
    (iO 31 (.load false 1 (.t 30))),
    (iO 32 (.len (.t 31))),
    (iO 33 (.mv (.t 5))),
    (iO 34 (.mv (.t 8))),
    (iO 35 (.bin .mul (.t 33) (.t 34))),
    (iO 36 (.bin .neq (.t 32) (.t 35))),
    (iO 29 (.mv (.t 36)))])
  (.cond (.t 29)
  (.seq (.region [(iO 4 (.mv (.c (.tv .bool (false : Bool)))))])
    .ret)
  (.seq (.unit 0 z34u0d false z34u0b)
    (.cond (.t 37)
    (.seq (.region [(iO 4 (.mv (.c (.tv .bool (false : Bool)))))])
      .ret)
    (.seq (.region [(iO 52 (.fad 0 0 (.t 9))),
        (iO 53 (.load false 1 (.t 52))),
        (iO 54 (.mv (.t 53))),
        ⟨some 55, some (2, 54, true), (.op (.mv (.t 1))), []⟩,
        ⟨some 56, some (2, 54, true), (.op (.bin .eql (.t 55) (nI 0))), []⟩,
        ⟨some 57, some (2, 54, true), (.op (.mv (.t 56))), []⟩,
        ⟨some 58, some (5, 57, false), (.op (.fad 1 1 (.t 9))), []⟩,
        ⟨some 59, some (5, 57, false), (.op (.load false 1 (.t 58))), []⟩,
        ⟨some 60, some (5, 57, false), (.op (.bin .lss (.t 59) (nI 0))), []⟩,
        ⟨some 61, some (2, 54, true), (.op (.pick (.t 57) (.c (.tv .bool (true : Bool))) (.t 60))), []⟩,
        ⟨some 62, some (2, 54, true), (.op (.mv (.t 61))), []⟩,
        ⟨some 63, some (10, 62, false), (.op (.fad 1 1 (.t 9))), []⟩,
        ⟨some 64, some (10, 62, false), (.op (.load false 1 (.t 63))), []⟩,
        ⟨some 65, some (10, 62, false), (.op (.bin .gtr (.t 64) (nI 3))), []⟩,
        ⟨some 66, some (2, 54, true), (.op (.pick (.t 62) (.c (.tv .bool (true : Bool))) (.t 65))), []⟩,
        ⟨some 67, some (2, 54, true), (.op (.mv (.t 66))), []⟩,
        ⟨some 68, some (15, 67, false), (.op (.fad 2 2 (.t 9))), []⟩,
        ⟨some 69, some (15, 67, false), (.op (.load false 1 (.t 68))), []⟩,
        ⟨some 70, some (15, 67, false), (.op (.bin .lss (.t 69) (nI 1))), []⟩,
        ⟨some 71, some (2, 54, true), (.op (.pick (.t 67) (.c (.tv .bool (true : Bool))) (.t 70))), []⟩,
        ⟨some 72, some (2, 54, true), (.op (.mv (.t 71))), []⟩,
        ⟨some 73, some (20, 72, false), (.op (.fad 2 2 (.t 9))), []⟩,
        ⟨some 74, some (20, 72, false), (.op (.load false 1 (.t 73))), []⟩,
        ⟨some 75, some (20, 72, false), (.op (.bin .gtr (.t 74) (nI 31))), []⟩,
        ⟨some 76, some (2, 54, true), (.op (.pick (.t 72) (.c (.tv .bool (true : Bool))) (.t 75))), []⟩,
        (iO 77 (.pick (.t 54) (.t 76) (.c (.tv .bool (false : Bool))))),
        (iO 51 (.mv (.t 77)))])
      (.cond (.t 51)
      (.seq (.region [(iO 4 (.mv (.c (.tv .bool (false : Bool)))))])
        .ret)
      .skip)))))))
noncomputable def z34u1t (k : Nat) (d : z34u1p.D) : Option (XD z34u1x) := sound_sheet_rowu1 k d.1.1 d.1.2.1 d.1.2.2.1 d.2
theorem z34u1_k (k : Nat) : UOK P GL (mkU z34u1p z34u1x (z34u1t k) nilU) z34u1d false z34u1b :=
  unit_typed (ud := z34u1d) (body := z34u1b) (uorc := uorT (z34U1 k)) hmo (T33_ok k).oo (z34U1_k k) (AllU.block (AllU.seq (AllU.no (by kernel_rfl)) (AllU.cond (AllU.no (by kernel_rfl)) (AllU.seq (AllU.unit (uorc := uorT (z34U1 k)) (u := 0) (z34u0_k k)) (AllU.no (by kernel_rfl)))))) (fun d => by kernel_rfl)
noncomputable def z34U2 (k : Nat) : List (Nat × Ent) := (1, ⟨mkU z34u1p z34u1x (z34u1t k) nilU⟩) :: z34U1 k
theorem z34U2_k (k : Nat) : UTab (z34U2 k) := (z34U1_k k).cons (mkU_nat nilU_nat)
noncomputable def z34u2d : UDef := ⟨[(2, none), (79, none), (80, none), (81, none)], [4, 11, 81, 82, 83, 84, 85, 86, 87, 88, 89, 90], [(.ret, [(4, none)]), ((.exit 1), [])], []⟩
noncomputable def z34u2p : XPat := ⟨.normal, [(.ptr 0 []), (.tv (.sl YCell)), (.tv (.int .i64)), (.tv (.int .i64))], [(.box (.tv YSheet))]⟩
noncomputable def z34u2x : List XPat := [⟨.ret, [(.tv .bool)], [(.box (.tv YSheet))]⟩, ⟨(.exit 1), [], [(.box (.tv YSheet))]⟩]
noncomputable def sound_sheet_rowu2 (k : Nat) : Nat → (List (DCell)) → (Int) → (Int) → (DSheet) → Option (((Bool) × (DSheet)) ⊕ ((Unit) × (DSheet)))
  | 0, _, _, _, _ => none
  | n + 1, x0, x1, x2, x3 =>
    bif (decide (x2 < x1)) then
      bif (inR x2 (List.length x0)) then
        Option.bind (cellout_Right k x3.2.2.2.1 (List.getD x0 (Int.toNat x2) (0, (false, (0, (0, ((Ty.zero (.arr 2 (.int .i64))), ((Ty.zero (.arr 6 (.int .i64))), ((Ty.zero (.arr 6 (.sl YEvent))), ()))))))))) fun (v141 : Bool) =>
        bif (!v141) then
          some (Sum.inl (false, x3))
        else
        Option.bind (sound_sheet_rowu2 k n x0 x1 (wr .i64 (x2 + 1)) x3) fun r => Sum.elim (fun w => some (Sum.inl w)) (fun w => some (Sum.inr w)) r
      else
        none
    else
    some (Sum.inr ((), x3))
noncomputable def z34u2b : AC :=
  (.seq (.region [(iO 82 (.bin .lss (.t 81) (.t 80)))])
  (.seq (.cond (.t 82)
  .skip
  (.exit 1))
  (.seq (.block 2 (.seq (.region [(iO 83 (.iads YCell (.t 79) (.t 81))),
    (iO 84 (.load true 18 (.t 83))),
    (iO 11 (.alloc 47 (.tv YCell))),
    (iS (.store 18 none (.t 11) (.t 84)))])
  (.seq (.region [(iO 85 (.fad 3 3 (.t 2))),
    (iO 86 (.load false 1 (.t 85))),
    (iO 87 (.load true 18 (.t 11))),
    (iC 88 49 [((.t 86), none), ((.t 87), some YCell)]),
    (iO 89 (.un .not (.t 88)))])
  (.cond (.t 89)
  (.seq (.region [(iO 4 (.mv (.c (.tv .bool (false : Bool)))))])
    .ret)
  .skip))))
  (.region [(iO 90 (.bin .add (.t 81) (nI 1))),
    (iO 81 (.mv (.t 90)))]))))
noncomputable def z34u2t (k n : Nat) (d : z34u2p.D) : Option (XD z34u2x) := sound_sheet_rowu2 k n d.1.2.1 d.1.2.2.1 d.1.2.2.2 d.2
theorem z34u2_k (k : Nat) : UOK P GL (mkU z34u2p z34u2x (z34u2t k k) nilU) z34u2d true z34u2b :=
  loop_typed (ud := z34u2d) (body := z34u2b) (uorc := uorT (z34U2 k)) hmo (T33_ok k).oo (z34U2_k k) (AllU.no (by kernel_rfl)) (t := z34u2t k) (fun d => by kernel_rfl) (fun n d => by kernel_rfl) k
noncomputable def z34U3 (k : Nat) : List (Nat × Ent) := (2, ⟨mkU z34u2p z34u2x (z34u2t k k) nilU⟩) :: z34U2 k
theorem z34U3_k (k : Nat) : UTab (z34U3 k) := (z34U2_k k).cons (mkU_nat nilU_nat)
noncomputable def sound_sheet_row (k : Nat) (x0 : DSheet) (x1 : Int) : Option (Bool) :=
  Option.bind (formats_Cells k x0.2.2.1) fun (v56 : (Int) × ((Int) × (Unit))) =>
  Option.bind (formats_Rows k x0.2.2.1) fun (v57 : (Int) × ((Int) × (Unit))) =>
  bif (inR x1 (List.length x0.2.2.2.2.2.2.1)) then
    Option.bind (sound_sheet_rowu1 k x1 v56.1 v57.2.1 (List.getD x0.2.2.2.2.2.2.1 (Int.toNat x1) (false, (0, (0, (([] : List (DCell)), ())))))) fun r =>
    Sum.elim (fun (v60 : (Bool) × (DRow)) =>
      some v60.1)
      (fun (v61 : (Unit) × (DRow)) =>
      Option.bind (sound_sheet_rowu2 k k v61.2.2.2.2.1 ((List.length v61.2.2.2.2.1 : Nat) : Int) 0 x0) fun r =>
      Sum.elim (fun (v142 : (Bool) × (DSheet)) =>
        some v142.1)
        (fun (v143 : (Unit) × (DSheet)) =>
        some true) r) r
  else
    none
noncomputable def z34b : AC :=
  (.seq (.region [(iO 2 (.box (.t 0))),
    (iO 4 (.mv (.c (.tv .bool (false : Bool)))))])
  (.seq (.region [(iO 13 (.fad 2 2 (.t 2))),
    (iO 14 (.load false 1 (.t 13))),
    (iC 15 22 [((.t 14), none)]),
    (iO 12 (.mv (.t 15))),
    (iO 16 (.ext (.t 12) 0)),
    (iO 17 (.ext (.t 12) 1)),
    (iO 5 (.mv (.t 16))),
    (iO 6 (.mv (.t 17)))])
  (.seq (.region [(iO 19 (.fad 2 2 (.t 2))),
    (iO 20 (.load false 1 (.t 19))),
    (iC 21 23 [((.t 20), none)]),
    (iO 18 (.mv (.t 21))),
    (iO 22 (.ext (.t 18) 0)),
    (iO 23 (.ext (.t 18) 1)),
    (iO 7 (.mv (.t 22))),
    (iO 8 (.mv (.t 23)))])
  (.seq (.region [(iO 24 (.fad 6 6 (.t 2))),
    (iO 25 (.load false 1 (.t 24))),
    (iO 26 (.mv (.t 1))),
    (iO 27 (.iads YRow (.t 25) (.t 26))),
    (iO 28 (.load true 4 (.t 27))),
    (iO 9 (.alloc 50 (.cons (.tv .bool) (.cons (.tv (.int .i64)) (.cons (.tv (.int .i64)) (.cons (.row YCell) .nil)))))),
    (iS (.store 4 none (.t 9) (.t 28)))])
  (.seq (.unit 1 z34u1d false z34u1b)
  (.seq (.seq (.region [(iO 78 (.fad 3 3 (.t 9))),
    (iO 79 (.load false 1 (.t 78))),
    (iO 80 (.len (.t 79))),
    (iO 81 (.mv (nI 0)))])
  (.block 1 (.unit 2 z34u2d true z34u2b)))
  (.seq (.region [(iO 4 (.mv (.c (.tv .bool (true : Bool)))))])
  .ret)))))))
noncomputable def z34f : FDef := ⟨2, 91, [.tmp 4 none], z34b⟩
noncomputable def z34p : XPat := ⟨.normal, [(.tv YSheet), (.tv (.int .i64))], []⟩
noncomputable def z34x : List XPat := [⟨.ret, [(.tv .bool)], []⟩]
noncomputable def z34t (k : Nat) (d : z34p.D) : Option (XD z34x) := sound_sheet_row k d.1 d.2
noncomputable def z34_e (k : Nat) : UEntry := mkU z34p z34x (z34t k) nilU
theorem z34_n (k : Nat) : UNat (z34_e k) := mkU_nat nilU_nat
theorem z34_fu (k : Nat) : FU P GL 43 (z34_e k) :=
  fn_typed (uorc := uorT (z34U3 k)) hmo (T33_ok k).oo (z34U3_k k) (fd := z34f) (AllU.seq (AllU.no (by kernel_rfl)) (AllU.seq (AllU.no (by kernel_rfl)) (AllU.seq (AllU.no (by kernel_rfl)) (AllU.seq (AllU.no (by kernel_rfl)) (AllU.seq (AllU.unit (uorc := uorT (z34U3 k)) (u := 1) (z34u1_k k)) (AllU.seq (AllU.seq (AllU.no (by kernel_rfl)) (AllU.block (AllU.unit (uorc := uorT (z34U3 k)) (u := 2) (z34u2_k k)))) (AllU.no (by kernel_rfl)))))))) (fn := Tryz.f43) (by kernel_rfl) (by kernel_rfl) (fun d => by kernel_rfl) FU_nil
noncomputable def T34 (k : Nat) : List (Nat × Ent) := (43, ⟨z34_e k⟩) :: T33 k
theorem T34_ok (k : Nat) : TabOK P GL (T34 k) := (T33_ok k).cons (z34_fu k) (z34_n k)
/-! ### overspill.sound.every -/
noncomputable def z35U0 (_ : Nat) : List (Nat × Ent) := []
theorem z35U0_k (k : Nat) : UTab (z35U0 k) := UTab.nil
noncomputable def z35u0d : UDef := ⟨[(1, none), (6, none), (7, none)], [4, 5, 7, 8, 9, 10, 11, 12, 13, 14], [(.ret, [(4, none)]), ((.exit 0), [])], []⟩
noncomputable def z35u0p : XPat := ⟨.normal, [(.fn 43 (.cons (.tv YSheet) .nil) .nil), (.tv (.int .i64)), (.tv (.int .i64))], []⟩
noncomputable def z35u0x : List XPat := [⟨.ret, [(.tv .bool)], []⟩, ⟨(.exit 0), [], []⟩]
noncomputable def sound_everyu0 (k : Nat) : Nat → (DSheet) → (Int) → (Int) → Option ((Bool) ⊕ (Unit))
  | 0, _, _, _ => none
  | n + 1, x0, x1, x2 =>
    bif (decide (x2 < x1)) then
      Option.bind (sound_sheet_row k x0 x2) fun (v145 : Bool) =>
      bif (!v145) then
        some (Sum.inl false)
      else
      Option.bind (sound_everyu0 k n x0 x1 (wr .i64 (x2 + 1))) fun r => Sum.elim (fun w => some (Sum.inl w)) (fun w => some (Sum.inr w)) r
    else
    some (Sum.inr ())
noncomputable def z35u0b : AC :=
  (.seq (.region [(iO 8 (.bin .lss (.t 7) (.t 6)))])
  (.seq (.cond (.t 8)
  .skip
  (.exit 0))
  (.seq (.block 1 (.seq (.region [(iO 9 (.mv (.t 7))),
    (iO 5 (.mv (.t 9)))])
  (.seq (.region [(iO 10 (.mv (.t 1))),
    (iO 11 (.mv (.t 5))),
    ⟨some 12, none, (.call (.t 10) [((.t 11), none)]), []⟩,
    (iO 13 (.un .not (.t 12)))])
  (.cond (.t 13)
  (.seq (.region [(iO 4 (.mv (.c (.tv .bool (false : Bool)))))])
    .ret)
  .skip))))
  (.region [(iO 14 (.bin .add (.t 7) (nI 1))),
    (iO 7 (.mv (.t 14)))]))))
noncomputable def z35u0t (k n : Nat) (d : z35u0p.D) : Option (XD z35u0x) := sound_everyu0 k n d.1.1.1 d.2.1 d.2.2
theorem z35u0_k (k : Nat) : UOK P GL (mkU z35u0p z35u0x (z35u0t k k) nilU) z35u0d true z35u0b :=
  loop_typed (ud := z35u0d) (body := z35u0b) (uorc := uorT (z35U0 k)) hmo (T34_ok k).oo (z35U0_k k) (AllU.no (by kernel_rfl)) (t := z35u0t k) (fun d => by kernel_rfl) (fun n d => by kernel_rfl) k
noncomputable def z35U1 (k : Nat) : List (Nat × Ent) := (0, ⟨mkU z35u0p z35u0x (z35u0t k k) nilU⟩) :: z35U0 k
theorem z35U1_k (k : Nat) : UTab (z35U1 k) := (z35U0_k k).cons (mkU_nat nilU_nat)
noncomputable def sound_every (k : Nat) (x0 : Int) (x1 : DSheet) : Option (Bool) :=
  Option.bind (sound_everyu0 k k x1 x0 0) fun r =>
  Sum.elim (fun (v146 : Bool) =>
    some v146)
    (fun (v147 : Unit) =>
    some true) r
noncomputable def z35b : AC :=
  (.seq (.region [(iO 4 (.mv (.c (.tv .bool (false : Bool)))))])
  (.seq (.seq (.region [(iO 6 (.mv (.t 0))),
    (iO 7 (.mv (nI 0)))])
  (.block 0 (.unit 0 z35u0d true z35u0b)))
  (.seq (.region [(iO 4 (.mv (.c (.tv .bool (true : Bool)))))])
  .ret)))
noncomputable def z35f : FDef := ⟨2, 15, [.tmp 4 none], z35b⟩
noncomputable def z35p : XPat := ⟨.normal, [(.tv (.int .i64)), (.fn 43 (.cons (.tv YSheet) .nil) .nil)], []⟩
noncomputable def z35x : List XPat := [⟨.ret, [(.tv .bool)], []⟩]
noncomputable def z35t (k : Nat) (d : z35p.D) : Option (XD z35x) := sound_every k d.1 d.2.1.1
noncomputable def z35_e (k : Nat) : UEntry := mkU z35p z35x (z35t k) nilU
theorem z35_n (k : Nat) : UNat (z35_e k) := mkU_nat nilU_nat
theorem z35_fu (k : Nat) : FU P GL 42 (z35_e k) :=
  fn_typed (uorc := uorT (z35U1 k)) hmo (T34_ok k).oo (z35U1_k k) (fd := z35f) (AllU.seq (AllU.no (by kernel_rfl)) (AllU.seq (AllU.seq (AllU.no (by kernel_rfl)) (AllU.block (AllU.unit (uorc := uorT (z35U1 k)) (u := 0) (z35u0_k k)))) (AllU.no (by kernel_rfl)))) (fn := Tryz.f42) (by kernel_rfl) (by kernel_rfl) (fun d => by kernel_rfl) FU_nil
noncomputable def T35 (k : Nat) : List (Nat × Ent) := (42, ⟨z35_e k⟩) :: T34 k
theorem T35_ok (k : Nat) : TabOK P GL (T35 k) := (T34_ok k).cons (z35_fu k) (z35_n k)
/-! ### slices.Clone[[]overspill.api.Event,overspill.api.Event] -/
noncomputable def z36U0 (_ : Nat) : List (Nat × Ent) := []
theorem z36U0_k (k : Nat) : UTab (z36U0 k) := UTab.nil
noncomputable def slices_Clone_Event (k : Nat) (x0 : List (DEvent)) : Option (List (DEvent)) :=
  some ([] : List (DEvent))
noncomputable def z36b : AC :=
  (.seq (.region [(iO 2 (.nrow YEvent))])
  (.seq (.seq (.region [(iO 3 (.mv (.t 0))),
    (iO 4 (.eqn false (.t 3)))])
  (.cond (.t 4)
  (.seq (.region [(iO 2 (.nrow YEvent))])
    .ret)
  .skip))
  (.seq (.region [(iO 5 .bad),
    (iO 6 .bad),
    (iO 7 .bad),
    (iO 2 .bad)])
  .ret)))
noncomputable def z36f : FDef := ⟨1, 8, [.tmp 2 (some (.sl YEvent))], z36b⟩
noncomputable def z36p : XPat := ⟨.normal, [(.sln true YEvent)], []⟩
noncomputable def z36x : List XPat := [⟨.ret, [(.tv (.sl YEvent))], []⟩]
noncomputable def z36t (k : Nat) (d : z36p.D) : Option (XD z36x) := slices_Clone_Event k d
noncomputable def z36_e (k : Nat) : UEntry := mkU z36p z36x (z36t k) nilU
theorem z36_n (k : Nat) : UNat (z36_e k) := mkU_nat nilU_nat
theorem z36_fu (k : Nat) : FU P GL 92 (z36_e k) :=
  fn_typed (uorc := uorT (z36U0 k)) hmo (T35_ok k).oo (z36U0_k k) (fd := z36f) (AllU.no (by kernel_rfl)) (fn := Tryz.f92) (by kernel_rfl) (by kernel_rfl) (fun d => by kernel_rfl) FU_nil
/-! ### slices.Clone[[]overspill.api.Event,overspill.api.Event] -/
noncomputable def z37U0 (_ : Nat) : List (Nat × Ent) := []
theorem z37U0_k (k : Nat) : UTab (z37U0 k) := UTab.nil
noncomputable def slices_Clone_Event_2 (k : Nat) (x0 : List (DEvent)) : Option (List (DEvent)) :=
  bif (decide (0 + (List.length x0) ≤ rowMax)) then
    some (([] : List (DEvent)) ++ x0)
  else
    none
noncomputable def z37b : AC :=
  (.seq (.region [(iO 2 (.nrow YEvent))])
  (.seq (.seq (.region [(iO 3 (.mv (.t 0))),
    (iO 4 (.eqn false (.t 3)))])
  (.cond (.t 4)
  (.seq (.region [(iO 2 .bad)])
    .ret)
  .skip))
  (.seq (.region [(iO 5 (.bslice YEvent [])),
    (iO 6 (.mv (.t 0))),
    (iO 7 (.app YEvent (.t 5) (.t 6))),
    (iO 2 (.mv (.t 7)))])
  .ret)))
noncomputable def z37f : FDef := ⟨1, 8, [.tmp 2 (some (.sl YEvent))], z37b⟩
noncomputable def z37p : XPat := ⟨.normal, [(.sln false YEvent)], []⟩
noncomputable def z37x : List XPat := [⟨.ret, [(.tv (.sl YEvent))], []⟩]
noncomputable def z37t (k : Nat) (d : z37p.D) : Option (XD z37x) := slices_Clone_Event_2 k d
noncomputable def z37_e (k : Nat) : UEntry := mkU z37p z37x (z37t k) nilU
theorem z37_n (k : Nat) : UNat (z37_e k) := mkU_nat nilU_nat
theorem z37_fu (k : Nat) : FU P GL 92 (z37_e k) :=
  fn_typed (uorc := uorT (z37U0 k)) hmo (T35_ok k).oo (z37U0_k k) (fd := z37f) (AllU.no (by kernel_rfl)) (fn := Tryz.f92) (by kernel_rfl) (by kernel_rfl) (fun d => by kernel_rfl) FU_nil
noncomputable def z38_e (k : Nat) : UEntry := mkU ⟨.normal, [.tv (.sl YEvent)], []⟩ z37x (z37t k) nilU
theorem z38_n (k : Nat) : UNat (z38_e k) := mkU_nat nilU_nat
theorem z38_fu (k : Nat) : FU P GL 92 (z38_e k) := FU_slice (z36_fu k) (z37_fu k) (by kernel_rfl) FU_nil
noncomputable def T36 (k : Nat) : List (Nat × Ent) := (92, ⟨z38_e k⟩) :: T35 k
theorem T36_ok (k : Nat) : TabOK P GL (T36 k) := (T35_ok k).cons (z38_fu k) (z38_n k)
/-! ### overspill.sound.own -/
noncomputable def z39U0 (_ : Nat) : List (Nat × Ent) := []
theorem z39U0_k (k : Nat) : UTab (z39U0 k) := UTab.nil
noncomputable def z39u0d : UDef := ⟨[(1, none), (6, none), (7, none)], [3, 4, 7, 8, 9, 10, 11, 12, 13, 14, 15, 16], [((.exit 0), [])], []⟩
noncomputable def z39u0p : XPat := ⟨.normal, [(.ptr 0 []), (.tv (.arr 6 (.sl YEvent))), (.tv (.int .i64))], [(.box (.tv YCell))]⟩
noncomputable def z39u0x : List XPat := [⟨(.exit 0), [], [(.box (.tv YCell))]⟩]
noncomputable def sound_ownu0 (k : Nat) : Nat → (List (List (DEvent))) → (Int) → (DCell) → Option ((Unit) × (DCell))
  | 0, _, _, _ => none
  | n + 1, x0, x1, x2 =>
    bif (decide (x1 < 6)) then
      bif (inR x1 6) then
        Option.bind (slices_Clone_Event_2 k (List.getD x0 (Int.toNat x1) ([] : List (DEvent)))) fun (v154 : List (DEvent)) =>
        bif (inR x1 6) then
          Option.bind (sound_ownu0 k n x0 (wr .i64 (x1 + 1)) (x2.1, (x2.2.1, (x2.2.2.1, (x2.2.2.2.1, (x2.2.2.2.2.1, (x2.2.2.2.2.2.1, ((List.set x2.2.2.2.2.2.2.1 (Int.toNat x1) v154), x2.2.2.2.2.2.2.2)))))))) fun r => some r
        else
          none
      else
        none
    else
    some ((), x2)
noncomputable def z39u0b : AC :=
  (.seq (.region [(iO 8 (.bin .lss (.t 7) (nI 6)))])
  (.seq (.cond (.t 8)
  .skip
  (.exit 0))
  (.seq (.block 1 (.seq (.region [(iO 9 (.mv (.t 7))),
    (iO 10 (.ix 6 1 false (.t 6) (.t 7))),
    (iO 3 (.mv (.t 9))),
    (iO 4 (.mv (.t 10)))])
  (.region [(iO 11 (.mv (.t 3))),
    (iO 12 (.mv (.t 4))),
    (iC 13 92 [((.t 12), some (.sl YEvent))]),
    (iO 14 (.fad 6 12 (.t 1))),
    (iO 15 (.iad 6 1 (.t 14) (.t 11))),
    (iS (.store 1 none (.t 15) (.t 13)))])))
  (.region [(iO 16 (.bin .add (.t 7) (nI 1))),
    (iO 7 (.mv (.t 16)))]))))
noncomputable def z39u0t (k n : Nat) (d : z39u0p.D) : Option (XD z39u0x) := sound_ownu0 k n d.1.2.1 d.1.2.2 d.2
theorem z39u0_k (k : Nat) : UOK P GL (mkU z39u0p z39u0x (z39u0t k k) nilU) z39u0d true z39u0b :=
  loop_typed (ud := z39u0d) (body := z39u0b) (uorc := uorT (z39U0 k)) hmo (T36_ok k).oo (z39U0_k k) (AllU.no (by kernel_rfl)) (t := z39u0t k) (fun d => by kernel_rfl) (fun n d => by kernel_rfl) k
noncomputable def z39U1 (k : Nat) : List (Nat × Ent) := (0, ⟨mkU z39u0p z39u0x (z39u0t k k) nilU⟩) :: z39U0 k
theorem z39U1_k (k : Nat) : UTab (z39U1 k) := (z39U0_k k).cons (mkU_nat nilU_nat)
noncomputable def sound_own (k : Nat) (x0 : DCell) : Option (DCell) :=
  Option.bind (sound_ownu0 k k x0.2.2.2.2.2.2.1 0 x0) fun (v155 : (Unit) × (DCell)) =>
  some v155.2
noncomputable def z39b : AC :=
  (.seq (.region [(iO 1 (.box (.t 0))),
    (iO 2 (.alloc 47 (.tv YCell)))])
  (.seq (.seq (.region [(iO 5 (.fad 6 12 (.t 1))),
    (iO 6 (.load true 6 (.t 5))),
    (iO 7 (.mv (nI 0)))])
  (.block 0 (.unit 0 z39u0d true z39u0b)))
  (.seq (.region [(iO 17 (.load true 18 (.t 1))),
    (iS (.store 18 none (.t 2) (.t 17)))])
  .ret)))
noncomputable def z39f : FDef := ⟨1, 18, [.cell 2 18 true (some YCell)], z39b⟩
noncomputable def z39p : XPat := ⟨.normal, [(.tv YCell)], []⟩
noncomputable def z39x : List XPat := [⟨.ret, [(.tv YCell)], []⟩]
noncomputable def z39t (k : Nat) (d : z39p.D) : Option (XD z39x) := sound_own k d
noncomputable def z39_e (k : Nat) : UEntry := mkU z39p z39x (z39t k) nilU
theorem z39_n (k : Nat) : UNat (z39_e k) := mkU_nat nilU_nat
theorem z39_fu (k : Nat) : FU P GL 75 (z39_e k) :=
  fn_typed (uorc := uorT (z39U1 k)) hmo (T36_ok k).oo (z39U1_k k) (fd := z39f) (AllU.seq (AllU.no (by kernel_rfl)) (AllU.seq (AllU.seq (AllU.no (by kernel_rfl)) (AllU.block (AllU.unit (uorc := uorT (z39U1 k)) (u := 0) (z39u0_k k)))) (AllU.no (by kernel_rfl)))) (fn := Tryz.f75) (by kernel_rfl) (by kernel_rfl) (fun d => by kernel_rfl) FU_nil
noncomputable def T37 (k : Nat) : List (Nat × Ent) := (75, ⟨z39_e k⟩) :: T36 k
theorem T37_ok (k : Nat) : TabOK P GL (T37 k) := (T36_ok k).cons (z39_fu k) (z39_n k)
/-! ### overspill.sound.Cells -/
noncomputable def z40U0 (_ : Nat) : List (Nat × Ent) := []
theorem z40U0_k (k : Nat) : UTab (z40U0 k) := UTab.nil
noncomputable def z40u0d : UDef := ⟨[(3, none), (16, none), (17, none), (18, none)], [3, 7, 18, 19, 20, 21, 22, 23, 24, 25, 26, 27], [((.exit 2), [(3, none)])], []⟩
noncomputable def z40u0p : XPat := ⟨.normal, [(.row 0), (.tv (.sl YCell)), (.tv (.int .i64)), (.tv (.int .i64))], [(.row YCell false)]⟩
noncomputable def z40u0x : List XPat := [⟨(.exit 2), [(.row 0)], [(.row YCell false)]⟩]
noncomputable def sound_Cellsu0 (k : Nat) : Nat → (List (DCell)) → (Int) → (Int) → (List (DCell)) → Option ((Unit) × (List (DCell)))
  | 0, _, _, _, _ => none
  | n + 1, x0, x1, x2, x3 =>
    bif (decide (x2 < x1)) then
      bif (inR x2 (List.length x0)) then
        Option.bind (sound_own k (List.getD x0 (Int.toNat x2) (0, (false, (0, (0, ((Ty.zero (.arr 2 (.int .i64))), ((Ty.zero (.arr 6 (.int .i64))), ((Ty.zero (.arr 6 (.sl YEvent))), ()))))))))) fun (v157 : DCell) =>
        bif (decide ((List.length x3) + 1 ≤ rowMax)) then
          Option.bind (sound_Cellsu0 k n x0 x1 (wr .i64 (x2 + 1)) (x3 ++ ([v157] : List (DCell)))) fun r => some r
        else
          none
      else
        none
    else
    some ((), x3)
noncomputable def z40u0b : AC :=
  (.seq (.region [(iO 19 (.bin .lss (.t 18) (.t 17)))])
  (.seq (.cond (.t 19)
  .skip
  (.exit 2))
  (.seq (.block 3 (.seq (.region [(iO 20 (.iads YCell (.t 16) (.t 18))),
    (iO 21 (.load true 18 (.t 20))),
    (iO 7 (.alloc 47 (.tv YCell))),
    (iS (.store 18 none (.t 7) (.t 21)))])
  (.region [(iO 22 (.mv (.t 3))),
    (iO 23 (.load true 18 (.t 7))),
    (iC 24 75 [((.t 23), some YCell)]),
    (iO 25 (.bslice YCell [(.t 24)])),
    (iO 26 (.app YCell (.t 22) (.t 25))),
    (iO 3 (.mv (.t 26)))])))
  (.region [(iO 27 (.bin .add (.t 18) (nI 1))),
    (iO 18 (.mv (.t 27)))]))))
noncomputable def z40u0t (k n : Nat) (d : z40u0p.D) : Option (XD z40u0x) := sound_Cellsu0 k n d.1.2.1 d.1.2.2.1 d.1.2.2.2 d.2
theorem z40u0_k (k : Nat) : UOK P GL (mkU z40u0p z40u0x (z40u0t k k) nilU) z40u0d true z40u0b :=
  loop_typed (ud := z40u0d) (body := z40u0b) (uorc := uorT (z40U0 k)) hmo (T37_ok k).oo (z40U0_k k) (AllU.no (by kernel_rfl)) (t := z40u0t k) (fun d => by kernel_rfl) (fun n d => by kernel_rfl) k
noncomputable def z40U1 (k : Nat) : List (Nat × Ent) := (0, ⟨mkU z40u0p z40u0x (z40u0t k k) nilU⟩) :: z40U0 k
theorem z40U1_k (k : Nat) : UTab (z40U1 k) := (z40U0_k k).cons (mkU_nat nilU_nat)
noncomputable def z40u1d : UDef := ⟨[(3, none), (9, none), (10, none), (11, none)], [3, 5, 7, 11, 12, 13, 14, 15, 16, 17, 18, 19, 20, 21, 22, 23, 24, 25, 26, 27, 28], [((.exit 0), [(3, none)])], []⟩
noncomputable def z40u1p : XPat := ⟨.normal, [(.row 0), (.tv (.sl YRow)), (.tv (.int .i64)), (.tv (.int .i64))], [(.row YCell false)]⟩
noncomputable def z40u1x : List XPat := [⟨(.exit 0), [(.row 0)], [(.row YCell false)]⟩]
noncomputable def sound_Cellsu1 (k : Nat) : Nat → (List (DRow)) → (Int) → (Int) → (List (DCell)) → Option ((Unit) × (List (DCell)))
  | 0, _, _, _, _ => none
  | n + 1, x0, x1, x2, x3 =>
    bif (decide (x2 < x1)) then
      bif (inR x2 (List.length x0)) then
        Option.bind (sound_Cellsu0 k k ((List.getD x0 (Int.toNat x2) (false, (0, (0, (([] : List (DCell)), ()))))).2.2.2.1) ((List.length (List.getD x0 (Int.toNat x2) (false, (0, (0, (([] : List (DCell)), ()))))).2.2.2.1 : Nat) : Int) 0 x3) fun (v159 : (Unit) × (List (DCell))) =>
        Option.bind (sound_Cellsu1 k n x0 x1 (wr .i64 (x2 + 1)) v159.2) fun r => some r
      else
        none
    else
    some ((), x3)
noncomputable def z40u1b : AC :=
  (.seq (.region [(iO 12 (.bin .lss (.t 11) (.t 10)))])
  (.seq (.cond (.t 12)
  .skip
  (.exit 0))
  (.seq (.block 1 (.seq (.region [(iO 13 (.iads YRow (.t 9) (.t 11))),
    (iO 14 (.load true 4 (.t 13))),
    (iO 5 (.alloc 50 (.cons (.tv .bool) (.cons (.tv (.int .i64)) (.cons (.tv (.int .i64)) (.cons (.row YCell) .nil)))))),
    (iS (.store 4 none (.t 5) (.t 14)))])
  (.seq (.region [(iO 15 (.fad 3 3 (.t 5))),
    (iO 16 (.load false 1 (.t 15))),
    (iO 17 (.len (.t 16))),
    (iO 18 (.mv (nI 0)))])
  (.block 2 (.unit 0 z40u0d true z40u0b)))))
  (.region [(iO 28 (.bin .add (.t 11) (nI 1))),
    (iO 11 (.mv (.t 28)))]))))
noncomputable def z40u1t (k n : Nat) (d : z40u1p.D) : Option (XD z40u1x) := sound_Cellsu1 k n d.1.2.1 d.1.2.2.1 d.1.2.2.2 d.2
theorem z40u1_k (k : Nat) : UOK P GL (mkU z40u1p z40u1x (z40u1t k k) nilU) z40u1d true z40u1b :=
  loop_typed (ud := z40u1d) (body := z40u1b) (uorc := uorT (z40U1 k)) hmo (T37_ok k).oo (z40U1_k k) (AllU.seq (AllU.no (by kernel_rfl)) (AllU.seq (AllU.no (by kernel_rfl)) (AllU.seq (AllU.block (AllU.seq (AllU.no (by kernel_rfl)) (AllU.seq (AllU.no (by kernel_rfl)) (AllU.block (AllU.unit (uorc := uorT (z40U1 k)) (u := 0) (z40u0_k k)))))) (AllU.no (by kernel_rfl))))) (t := z40u1t k) (fun d => by kernel_rfl) (fun n d => by kernel_rfl) k
noncomputable def z40U2 (k : Nat) : List (Nat × Ent) := (1, ⟨mkU z40u1p z40u1x (z40u1t k k) nilU⟩) :: z40U1 k
theorem z40U2_k (k : Nat) : UTab (z40U2 k) := (z40U1_k k).cons (mkU_nat nilU_nat)
noncomputable def sound_Cells (k : Nat) (x0 : DSheet) : Option (List (DCell)) :=
  Option.bind (sound_Cellsu1 k k x0.2.2.2.2.2.2.1 ((List.length x0.2.2.2.2.2.2.1 : Nat) : Int) 0 ([] : List (DCell))) fun (v160 : (Unit) × (List (DCell))) =>
  some v160.2
noncomputable def z40b : AC :=
  (.seq (.region [(iO 1 (.box (.t 0))),
    (iO 2 (.nrow YCell))])
  (.seq (.region [(iO 3 (.nrow YCell))])
  (.seq (.seq (.region [(iO 8 (.fad 6 6 (.t 1))),
    (iO 9 (.load false 1 (.t 8))),
    (iO 10 (.len (.t 9))),
    (iO 11 (.mv (nI 0)))])
  (.block 0 (.unit 1 z40u1d true z40u1b)))
  (.seq (.region [(iO 29 (.mv (.t 3))),
    (iO 2 (.mv (.t 29)))])
  .ret))))
noncomputable def z40f : FDef := ⟨1, 30, [.tmp 2 (some (.sl YCell))], z40b⟩
noncomputable def z40p : XPat := ⟨.normal, [(.tv YSheet)], []⟩
noncomputable def z40x : List XPat := [⟨.ret, [(.tv (.sl YCell))], []⟩]
noncomputable def z40t (k : Nat) (d : z40p.D) : Option (XD z40x) := sound_Cells k d
noncomputable def z40_e (k : Nat) : UEntry := mkU z40p z40x (z40t k) nilU
theorem z40_n (k : Nat) : UNat (z40_e k) := mkU_nat nilU_nat
theorem z40_fu (k : Nat) : FU P GL 44 (z40_e k) :=
  fn_typed (uorc := uorT (z40U2 k)) hmo (T37_ok k).oo (z40U2_k k) (fd := z40f) (AllU.seq (AllU.no (by kernel_rfl)) (AllU.seq (AllU.no (by kernel_rfl)) (AllU.seq (AllU.seq (AllU.no (by kernel_rfl)) (AllU.block (AllU.unit (uorc := uorT (z40U2 k)) (u := 1) (z40u1_k k)))) (AllU.no (by kernel_rfl))))) (fn := Tryz.f44) (by kernel_rfl) (by kernel_rfl) (fun d => by kernel_rfl) FU_nil
noncomputable def T38 (k : Nat) : List (Nat × Ent) := (44, ⟨z40_e k⟩) :: T37 k
theorem T38_ok (k : Nat) : TabOK P GL (T38 k) := (T37_ok k).cons (z40_fu k) (z40_n k)
/-! ### overspill.motion.within -/
noncomputable def z41U0 (_ : Nat) : List (Nat × Ent) := []
theorem z41U0_k (k : Nat) : UTab (z41U0 k) := UTab.nil
noncomputable def motion_within (k : Nat) (x0 : Int) (x1 : Int) (x2 : Int) : Option (Bool) :=
  bif (decide ((0 : Int) ≤ x0)) then
    some (decide ((wr .i64 ((wr .i64 (Int.tdiv (wr .i64 (x0 + 1)) 2)) + x1)) ≤ x2))
  else
  some false
noncomputable def z41b : AC :=
  (.seq (.region [(iO 6 (.mv (.c (.tv .bool (false : Bool)))))])
  (.seq (.region [(iO 7 (.mv (.t 0))),
    (iO 8 (.bin .geq (.t 7) (nI 0))),
    (iO 9 (.mv (.t 8))),
    ⟨some 10, some (2, 9, true), (.op (.mv (.t 0))), []⟩,
    ⟨some 11, some (2, 9, true), (.op (.bin .add (.t 10) (nI 1))), []⟩,
    ⟨some 12, some (2, 9, true), (.op (.bin .quo (.t 11) (nI 2))), []⟩,
    ⟨some 13, some (2, 9, true), (.op (.mv (.t 1))), []⟩,
    ⟨some 14, some (2, 9, true), (.op (.bin .add (.t 12) (.t 13))), []⟩,
    ⟨some 15, some (2, 9, true), (.op (.mv (.t 2))), []⟩,
    ⟨some 16, some (2, 9, true), (.op (.bin .leq (.t 14) (.t 15))), []⟩,
    (iO 17 (.pick (.t 9) (.t 16) (.c (.tv .bool (false : Bool))))),
    (iO 6 (.mv (.t 17)))])
  .ret))
noncomputable def z41f : FDef := ⟨3, 18, [.tmp 6 none], z41b⟩
noncomputable def z41p : XPat := ⟨.normal, [(.tv (.int .i64)), (.tv (.int .i64)), (.tv (.int .i64))], []⟩
noncomputable def z41x : List XPat := [⟨.ret, [(.tv .bool)], []⟩]
noncomputable def z41t (k : Nat) (d : z41p.D) : Option (XD z41x) := motion_within k d.1 d.2.1 d.2.2
noncomputable def z41_e (k : Nat) : UEntry := mkU z41p z41x (z41t k) nilU
theorem z41_n (k : Nat) : UNat (z41_e k) := mkU_nat nilU_nat
theorem z41_fu (k : Nat) : FU P GL 76 (z41_e k) :=
  fn_typed (uorc := uorT (z41U0 k)) hmo (T38_ok k).oo (z41U0_k k) (fd := z41f) (AllU.no (by kernel_rfl)) (fn := Tryz.f76) (by kernel_rfl) (by kernel_rfl) (fun d => by kernel_rfl) FU_nil
noncomputable def T39 (k : Nat) : List (Nat × Ent) := (76, ⟨z41_e k⟩) :: T38 k
theorem T39_ok (k : Nat) : TabOK P GL (T39 k) := (T38_ok k).cons (z41_fu k) (z41_n k)
/-! ### overspill.motion.May -/
noncomputable def z42U0 (_ : Nat) : List (Nat × Ent) := []
theorem z42U0_k (k : Nat) : UTab (z42U0 k) := UTab.nil
noncomputable def z42u0d : UDef := ⟨[(1, none), (7, none), (8, none), (11, none)], [25, 26, 27, 28, 29, 30, 31, 32, 33, 34, 35, 36, 37], [(.normal, [(37, none)])], []⟩
noncomputable def z42u0p : XPat := ⟨.normal, [(.tv (.int .i64)), (.tv (.int .i64)), (.tv (.int .i64)), (.tv .bool)], []⟩
noncomputable def z42u0x : List XPat := [⟨.normal, [(.tv .bool)], []⟩]
noncomputable def motion_Mayu0 (k : Nat) (x0 : Int) (x1 : Int) (x2 : Int) (x3 : Bool) : Option (Bool) :=
  bif (!x3) then
    some true
  else
  bif (decide (x0 < 0)) then
    some true
  else
  some (decide ((wr .i64 (x1 * x2)) ≤ x0))
noncomputable def z42u0b : AC :=
  (.region [(iO 25 (.mv (.t 11))),
    (iO 26 (.un .not (.t 25))),
    (iO 27 (.mv (.t 26))),
    ⟨some 28, some (2, 27, false), (.op (.mv (.t 1))), []⟩,
    ⟨some 29, some (2, 27, false), (.op (.bin .lss (.t 28) (nI 0))), []⟩,
    (iO 30 (.pick (.t 27) (.c (.tv .bool (true : Bool))) (.t 29))),
    (iO 31 (.mv (.t 30))),
    ⟨some 32, some (6, 31, false), (.op (.mv (.t 1))), []⟩,
    ⟨some 33, some (6, 31, false), (.op (.mv (.t 7))), []⟩,
    ⟨some 34, some (6, 31, false), (.op (.mv (.t 8))), []⟩,
    ⟨some 35, some (6, 31, false), (.op (.bin .mul (.t 33) (.t 34))), []⟩,
    ⟨some 36, some (6, 31, false), (.op (.bin .geq (.t 32) (.t 35))), []⟩,
    (iO 37 (.pick (.t 31) (.c (.tv .bool (true : Bool))) (.t 36)))])
noncomputable def z42u0t (k : Nat) (d : z42u0p.D) : Option (XD z42u0x) := motion_Mayu0 k d.1 d.2.1 d.2.2.1 d.2.2.2
theorem z42u0_k (k : Nat) : UOK P GL (mkU z42u0p z42u0x (z42u0t k) nilU) z42u0d false z42u0b :=
  unit_typed (ud := z42u0d) (body := z42u0b) (uorc := uorT (z42U0 k)) hmo (T39_ok k).oo (z42U0_k k) (AllU.no (by kernel_rfl)) (fun d => by kernel_rfl)
noncomputable def z42U1 (k : Nat) : List (Nat × Ent) := (0, ⟨mkU z42u0p z42u0x (z42u0t k) nilU⟩) :: z42U0 k
theorem z42U1_k (k : Nat) : UTab (z42U1 k) := (z42U0_k k).cons (mkU_nat nilU_nat)
noncomputable def z42u1d : UDef := ⟨[(38, none), (39, none)], [6, 13, 39, 40, 41, 42, 43, 44, 45, 46, 47, 48], [(.ret, [(6, none)]), ((.exit 0), [])], []⟩
noncomputable def z42u1p : XPat := ⟨.normal, [(.tv (.arr 2 (.int .i64))), (.tv (.int .i64))], []⟩
noncomputable def z42u1x : List XPat := [⟨.ret, [(.tv .bool)], []⟩, ⟨(.exit 0), [], []⟩]
noncomputable def motion_Mayu1 (k : Nat) : Nat → (List (Int)) → (Int) → Option ((Bool) ⊕ (Unit))
  | 0, _, _ => none
  | n + 1, x0, x1 =>
    bif (decide (x1 < 2)) then
      bif (inR x1 2) then
        bif (decide ((List.getD x0 (Int.toNat x1) 0) < (-32))) then
          some (Sum.inl false)
        else
        bif (decide ((31 : Int) < (List.getD x0 (Int.toNat x1) 0))) then
          some (Sum.inl false)
        else
        Option.bind (motion_Mayu1 k n x0 (wr .i64 (x1 + 1))) fun r => Sum.elim (fun w => some (Sum.inl w)) (fun w => some (Sum.inr w)) r
      else
        none
    else
    some (Sum.inr ())
noncomputable def z42u1b : AC :=
  (.seq (.region [(iO 40 (.bin .lss (.t 39) (nI 2)))])
  (.seq (.cond (.t 40)
  .skip
  (.exit 0))
  (.seq (.block 1 (.seq (.region [(iO 41 (.ix 2 1 false (.t 38) (.t 39))),
    (iO 13 (.mv (.t 41)))])
  (.seq (.region [(iO 42 (.mv (.t 13))),
    (iO 43 (.bin .lss (.t 42) (nI (-32)))),
    (iO 44 (.mv (.t 43))),
    ⟨some 45, some (2, 44, false), (.op (.mv (.t 13))), []⟩,
    ⟨some 46, some (2, 44, false), (.op (.bin .gtr (.t 45) (nI 31))), []⟩,
    (iO 47 (.pick (.t 44) (.c (.tv .bool (true : Bool))) (.t 46)))])
  (.cond (.t 47)
  (.seq (.region [(iO 6 (.mv (.c (.tv .bool (false : Bool)))))])
    .ret)
  .skip))))
  (.region [(iO 48 (.bin .add (.t 39) (nI 1))),
    (iO 39 (.mv (.t 48)))]))))
noncomputable def z42u1t (k n : Nat) (d : z42u1p.D) : Option (XD z42u1x) := motion_Mayu1 k n d.1 d.2
theorem z42u1_k (k : Nat) : UOK P GL (mkU z42u1p z42u1x (z42u1t k k) nilU) z42u1d true z42u1b :=
  loop_typed (ud := z42u1d) (body := z42u1b) (uorc := uorT (z42U1 k)) hmo (T39_ok k).oo (z42U1_k k) (AllU.no (by kernel_rfl)) (t := z42u1t k) (fun d => by kernel_rfl) (fun n d => by kernel_rfl) k
noncomputable def z42U2 (k : Nat) : List (Nat × Ent) := (1, ⟨mkU z42u1p z42u1x (z42u1t k k) nilU⟩) :: z42U1 k
theorem z42U2_k (k : Nat) : UTab (z42U2 k) := (z42U1_k k).cons (mkU_nat nilU_nat)
noncomputable def motion_May (k : Nat) (x0 : Int) (x1 : Int) (x2 : List (Int)) : Option (Bool) :=
  Option.bind (formats_Cells k x0) fun (v162 : (Int) × ((Int) × (Unit))) =>
  Option.bind (formats_Size k x0) fun (v163 : (Int) × ((Int) × ((Bool) × (Unit)))) =>
  Option.bind (motion_Mayu0 k x1 v162.1 v162.2.1 v163.2.2.1) fun (v164 : Bool) =>
  bif v164 then
    some false
  else
  Option.bind (motion_Mayu1 k k x2 0) fun r =>
  Sum.elim (fun (v165 : Bool) =>
    some v165)
    (fun (v166 : Unit) =>
    bif (decide (v162.1 = 0)) then
      none
    else
    Option.bind (motion_within k (wr .i64 ((wr .i64 (32 * (Int.tmod x1 v162.1))) + (List.getD x2 0 0))) 16 v163.1) fun (v167 : Bool) =>
    bif v167 then
      bif (decide (v162.1 = 0)) then
        none
      else
      Option.bind (motion_within k (wr .i64 ((wr .i64 (32 * (wr .i64 (Int.tdiv x1 v162.1)))) + (List.getD x2 1 0))) 16 v163.2.1) fun (v168 : Bool) =>
      some v168
    else
    some false) r
noncomputable def z42b : AC :=
  (.seq (.region [(iO 5 (.box (.t 2))),
    (iO 6 (.mv (.c (.tv .bool (false : Bool)))))])
  (.seq (.region [(iO 15 (.mv (.t 0))),
    (iC 16 22 [((.t 15), none)]),
    (iO 14 (.mv (.t 16))),
    (iO 17 (.ext (.t 14) 0)),
    (iO 18 (.ext (.t 14) 1)),
    (iO 7 (.mv (.t 17))),
    (iO 8 (.mv (.t 18)))])
  (.seq (.region [(iO 20 (.mv (.t 0))),
    (iC 21 48 [((.t 20), none)]),
    (iO 19 (.mv (.t 21))),
    (iO 22 (.ext (.t 19) 0)),
    (iO 23 (.ext (.t 19) 1)),
    (iO 24 (.ext (.t 19) 2)),
    (iO 9 (.mv (.t 22))),
    (iO 10 (.mv (.t 23))),
    (iO 11 (.mv (.t 24)))])
  (.seq (.seq (.unit 0 z42u0d false z42u0b)
  (.cond (.t 37)
  (.seq (.region [(iO 6 (.mv (.c (.tv .bool (false : Bool)))))])
    .ret)
  .skip))
  (.seq (.seq (.region [(iO 38 (.load true 2 (.t 5))),
    (iO 39 (.mv (nI 0)))])
  (.block 0 (.unit 1 z42u1d true z42u1b)))
  (.seq (.draw [(iO 49 (.mv (.t 1))),
    (iO 50 (.mv (.t 7))),
    (iOa 51 (.bin .rem (.t 49) (.t 50)) [0, 1]),
    (iOa 52 (.bin .mul (nI 32) (.t 51)) [0, 1, 2]),
    (iO 53 (.iad 2 1 (.t 5) (nI 0))),
    (iOa 54 (.load false 1 (.t 53)) [4]),
    (iOa 55 (.bin .add (.t 52) (.t 54)) (rg [0, 6])),
    (iO 56 (.mv (.t 9))),
    (iCa 57 76 [((.t 55), none), ((nI 16), none), ((.t 56), none)] (rg [0, 8])),
    (iOa 58 (.mv (.t 57)) (rg [0, 9])),
    ⟨some 59, some (9, 58, true), (.op (.mv (.t 1))), (rg [0, 10])⟩,
    ⟨some 60, some (9, 58, true), (.op (.mv (.t 7))), (rg [0, 10])⟩,
    ⟨some 61, some (9, 58, true), (.op (.bin .quo (.t 59) (.t 60))), (rg [0, 12])⟩,
    ⟨some 62, some (9, 58, true), (.op (.bin .mul (nI 32) (.t 61))), (rg [0, 13])⟩,
    ⟨some 63, some (9, 58, true), (.op (.iad 2 1 (.t 5) (nI 1))), (rg [0, 10])⟩,
    ⟨some 64, some (9, 58, true), (.op (.load false 1 (.t 63))), (rg [0, 10, 14, 1])⟩,
    ⟨some 65, some (9, 58, true), (.op (.bin .add (.t 62) (.t 64))), (rg [0, 16])⟩,
    ⟨some 66, some (9, 58, true), (.op (.mv (.t 10))), (rg [0, 10])⟩,
    ⟨some 67, some (9, 58, true), (.call (.c (.fn 76 .nil .nil)) [((.t 65), none), ((nI 16), none), ((.t 66), none)]), (rg [0, 18])⟩,
    (iOa 68 (.pick (.t 58) (.t 67) (.c (.tv .bool (false : Bool)))) (rg [0, 19])),
    (iOa 6 (.mv (.t 68)) (rg [0, 20]))])
  .ret))))))
noncomputable def z42f : FDef := ⟨3, 69, [.tmp 6 none], z42b⟩
noncomputable def z42p : XPat := ⟨.normal, [(.tv (.int .i64)), (.tv (.int .i64)), (.tv (.arr 2 (.int .i64)))], []⟩
noncomputable def z42x : List XPat := [⟨.ret, [(.tv .bool)], []⟩]
noncomputable def z42t (k : Nat) (d : z42p.D) : Option (XD z42x) := motion_May k d.1 d.2.1 d.2.2
noncomputable def z42_e (k : Nat) : UEntry := mkU z42p z42x (z42t k) nilU
theorem z42_n (k : Nat) : UNat (z42_e k) := mkU_nat nilU_nat
theorem z42_fu (k : Nat) : FU P GL 45 (z42_e k) :=
  fn_typed (uorc := uorT (z42U2 k)) hmo (T39_ok k).oo (z42U2_k k) (fd := z42f) (AllU.seq (AllU.no (by kernel_rfl)) (AllU.seq (AllU.no (by kernel_rfl)) (AllU.seq (AllU.no (by kernel_rfl)) (AllU.seq (AllU.seq (AllU.unit (uorc := uorT (z42U2 k)) (u := 0) (z42u0_k k)) (AllU.no (by kernel_rfl))) (AllU.seq (AllU.seq (AllU.no (by kernel_rfl)) (AllU.block (AllU.unit (uorc := uorT (z42U2 k)) (u := 1) (z42u1_k k)))) (AllU.no (by kernel_rfl))))))) (fn := Tryz.f45) (by kernel_rfl) (by kernel_rfl) (fun d => by kernel_rfl) FU_nil
noncomputable def T40 (k : Nat) : List (Nat × Ent) := (45, ⟨z42_e k⟩) :: T39 k
theorem T40_ok (k : Nat) : TabOK P GL (T40 k) := (T39_ok k).cons (z42_fu k) (z42_n k)
/-! ### overspill.sound.Check -/
noncomputable def z43U0 (_ : Nat) : List (Nat × Ent) := []
theorem z43U0_k (k : Nat) : UTab (z43U0 k) := UTab.nil
noncomputable def z43u0d : UDef := ⟨[(1, none), (3, none)], [13, 14, 15, 16, 17, 18, 19, 20, 21, 22, 23, 24, 25, 26, 27, 28, 29, 30, 31, 32, 33, 34, 35, 36, 37, 38, 39, 40], [(.normal, [(40, none)])], []⟩
noncomputable def z43u0p : XPat := ⟨.normal, [(.ptr 0 []), (.tv (.int .i64))], [(.box (.tv YSheet))]⟩
noncomputable def z43u0x : List XPat := [⟨.normal, [(.tv .bool)], [(.box (.tv YSheet))]⟩]
noncomputable def sound_Checku0 (k : Nat) (x0 : Int) (x1 : DSheet) : Option ((Bool) × (DSheet)) :=
  Option.bind (outbits_New k) fun (v149 : (Unit) × (((Unit) × ((Int) × (Unit))) × (List (Int)))) =>
  Option.bind (sheethead_Put k x1 v149.2.1.2.1 v149.2.2) fun (v150 : (Int) × (((Unit) × ((Int) × (Unit))) × (List (Int)))) =>
  bif (!(decide (v150.1 = 0))) then
    some (true, x1)
  else
  bif (decide (x1.2.2.2.2.2.2.2.1 < 0)) then
    some (true, x1)
  else
  bif (decide ((262144 : Int) < x1.2.2.2.2.2.2.2.1)) then
    some (true, x1)
  else
  bif (!(decide (((List.length x1.2.2.2.2.2.2.1 : Nat) : Int) = x0))) then
    some (true, x1)
  else
  Option.bind (sound_every k x0 x1) fun (v151 : Bool) =>
  some ((!v151), x1)
noncomputable def z43u0b : AC :=
  (.draw [(iC 13 7 []),
    (iO 14 (.load true 8 (.t 1))),
    (iCa 15 21 [((.t 13), none), ((.t 14), some YSheet)] [0, 1]),
    (iOa 16 (.bin .neq (.t 15) (nI 0)) [0, 1, 2]),
    (iOa 17 (.mv (.t 16)) (rg [0, 4])),
    ⟨some 18, some (4, 17, false), (.op (.fad 7 7 (.t 1))), (rg [0, 5])⟩,
    ⟨some 19, some (4, 17, false), (.op (.load false 1 (.t 18))), (rg [0, 6])⟩,
    ⟨some 20, some (4, 17, false), (.op (.bin .lss (.t 19) (nI 0))), (rg [0, 7])⟩,
    (iOa 21 (.pick (.t 17) (.c (.tv .bool (true : Bool))) (.t 20)) (rg [0, 8])),
    (iOa 22 (.mv (.t 21)) (rg [0, 9])),
    ⟨some 23, some (9, 22, false), (.op (.fad 7 7 (.t 1))), (rg [0, 10])⟩,
    ⟨some 24, some (9, 22, false), (.op (.load false 1 (.t 23))), (rg [0, 11])⟩,
    ⟨some 25, some (9, 22, false), (.op (.bin .gtr (.t 24) (nI 262144))), (rg [0, 12])⟩,
    (iOa 26 (.pick (.t 22) (.c (.tv .bool (true : Bool))) (.t 25)) (rg [0, 13])),
    (iOa 27 (.mv (.t 26)) (rg [0, 14])),
    ⟨some 28, some (14, 27, false), (.op (.fad 6 6 (.t 1))), (rg [0, 15])⟩,
    ⟨some 29, some (14, 27, false), (.op (.load false 1 (.t 28))), (rg [0, 16])⟩,
    ⟨some 30, some (14, 27, false), (.op (.len (.t 29))), (rg [0, 17])⟩,
    ⟨some 31, some (14, 27, false), (.op (.mv (.t 3))), (rg [0, 15])⟩,
    ⟨some 32, some (14, 27, false), (.op (.bin .neq (.t 30) (.t 31))), (rg [0, 19])⟩,
    (iOa 33 (.pick (.t 27) (.c (.tv .bool (true : Bool))) (.t 32)) (rg [0, 20])),
    (iOa 34 (.mv (.t 33)) (rg [0, 21])),
    ⟨some 35, some (21, 34, false), (.op (.mv (.t 3))), (rg [0, 22])⟩,
    ⟨some 36, some (21, 34, false), (.op (.load true 8 (.t 1))), (rg [0, 22])⟩,
    ⟨some 37, some (21, 34, false), (.op (.mkfn 43 [(.t 36)] [])), (rg [0, 22, 23, 1])⟩,
    ⟨some 38, some (21, 34, false), (.call (.c (.fn 42 .nil .nil)) [((.t 35), none), ((.t 37), none)]), (rg [0, 25])⟩,
    ⟨some 39, some (21, 34, false), (.op (.un .not (.t 38))), (rg [0, 26])⟩,
    (iOa 40 (.pick (.t 34) (.c (.tv .bool (true : Bool))) (.t 39)) (rg [0, 27]))])
noncomputable def z43u0t (k : Nat) (d : z43u0p.D) : Option (XD z43u0x) := sound_Checku0 k d.1.2 d.2
theorem z43u0_k (k : Nat) : UOK P GL (mkU z43u0p z43u0x (z43u0t k) nilU) z43u0d false z43u0b :=
  unit_typed (ud := z43u0d) (body := z43u0b) (uorc := uorT (z43U0 k)) hmo (T40_ok k).oo (z43U0_k k) (AllU.no (by kernel_rfl)) (fun d => by kernel_rfl)
noncomputable def z43U1 (k : Nat) : List (Nat × Ent) := (0, ⟨mkU z43u0p z43u0x (z43u0t k) nilU⟩) :: z43U0 k
theorem z43U1_k (k : Nat) : UTab (z43U1 k) := (z43U0_k k).cons (mkU_nat nilU_nat)
noncomputable def z43u1d : UDef := ⟨[(1, none), (42, none), (43, none), (44, none)], [2, 5, 6, 44, 45, 46, 47, 48, 49, 50, 51, 52, 53, 54, 55, 56, 57, 58, 59, 60, 61, 62, 63, 64, 65, 66], [(.ret, [(2, none)]), ((.exit 0), [])], []⟩
noncomputable def z43u1p : XPat := ⟨.normal, [(.ptr 0 []), (.tv (.sl YCell)), (.tv (.int .i64)), (.tv (.int .i64))], [(.box (.tv YSheet))]⟩
noncomputable def z43u1x : List XPat := [⟨.ret, [(.tv (.int .i64))], [(.box (.tv YSheet))]⟩, ⟨(.exit 0), [], [(.box (.tv YSheet))]⟩]
noncomputable def sound_Checku1 (k : Nat) : Nat → (List (DCell)) → (Int) → (Int) → (DSheet) → Option (((Int) × (DSheet)) ⊕ ((Unit) × (DSheet)))
  | 0, _, _, _, _ => none
  | n + 1, x0, x1, x2, x3 =>
    bif (decide (x2 < x1)) then
      bif (inR x2 (List.length x0)) then
        bif (!(decide ((List.getD x0 (Int.toNat x2) (0, (false, (0, (0, ((Ty.zero (.arr 2 (.int .i64))), ((Ty.zero (.arr 6 (.int .i64))), ((Ty.zero (.arr 6 (.sl YEvent))), ())))))))).2.2.1 = 3))) then
          bif (!(decide ((List.getD x0 (Int.toNat x2) (0, (false, (0, (0, ((Ty.zero (.arr 2 (.int .i64))), ((Ty.zero (.arr 6 (.int .i64))), ((Ty.zero (.arr 6 (.sl YEvent))), ())))))))).2.2.1 = 4))) then
            Option.bind (motion_May k x3.2.2.1 x2 ((List.getD x0 (Int.toNat x2) (0, (false, (0, (0, ((Ty.zero (.arr 2 (.int .i64))), ((Ty.zero (.arr 6 (.int .i64))), ((Ty.zero (.arr 6 (.sl YEvent))), ())))))))).2.2.2.2.1)) fun (v170 : Bool) =>
            bif (!v170) then
              some (Sum.inl (8, x3))
            else
            Option.bind (sound_Checku1 k n x0 x1 (wr .i64 (x2 + 1)) x3) fun r => Sum.elim (fun w => some (Sum.inl w)) (fun w => some (Sum.inr w)) r
          else
          Option.bind (sound_Checku1 k n x0 x1 (wr .i64 (x2 + 1)) x3) fun r => Sum.elim (fun w => some (Sum.inl w)) (fun w => some (Sum.inr w)) r
        else
        Option.bind (sound_Checku1 k n x0 x1 (wr .i64 (x2 + 1)) x3) fun r => Sum.elim (fun w => some (Sum.inl w)) (fun w => some (Sum.inr w)) r
      else
        none
    else
    some (Sum.inr ((), x3))
noncomputable def z43u1b : AC :=
  (.seq (.region [(iO 45 (.bin .lss (.t 44) (.t 43)))])
  (.seq (.cond (.t 45)
  .skip
  (.exit 0))
  (.seq (.block 1 (.seq (.region [(iO 46 (.mv (.t 44))),
    (iO 47 (.iads YCell (.t 42) (.t 44))),
    (iO 48 (.load true 18 (.t 47))),
    (iO 6 (.alloc 47 (.tv YCell))),
    (iO 5 (.mv (.t 46))),
    (iS (.store 18 none (.t 6) (.t 48)))])
  (.seq (.region [(iO 49 (.fad 2 2 (.t 6))),
    (iO 50 (.load false 1 (.t 49))),
    (iO 51 (.bin .neq (.t 50) (nI 3))),
    (iO 52 (.mv (.t 51))),
    ⟨some 53, some (3, 52, true), (.op (.fad 2 2 (.t 6))), []⟩,
    ⟨some 54, some (3, 52, true), (.op (.load false 1 (.t 53))), []⟩,
    ⟨some 55, some (3, 52, true), (.op (.bin .neq (.t 54) (nI 4))), []⟩,
    (iO 56 (.pick (.t 52) (.t 55) (.c (.tv .bool (false : Bool))))),
    (iO 57 (.mv (.t 56))),
    ⟨some 58, some (8, 57, true), (.op (.fad 2 2 (.t 1))), []⟩,
    ⟨some 59, some (8, 57, true), (.op (.load false 1 (.t 58))), []⟩,
    ⟨some 60, some (8, 57, true), (.op (.mv (.t 5))), []⟩,
    ⟨some 61, some (8, 57, true), (.op (.fad 4 4 (.t 6))), []⟩,
    ⟨some 62, some (8, 57, true), (.op (.load true 2 (.t 61))), []⟩,
    ⟨some 63, some (8, 57, true), (.call (.c (.fn 45 .nil .nil)) [((.t 59), none), ((.t 60), none), ((.t 62), some (.arr 2 (.int .i64)))]), []⟩,
    ⟨some 64, some (8, 57, true), (.op (.un .not (.t 63))), []⟩,
    (iO 65 (.pick (.t 57) (.t 64) (.c (.tv .bool (false : Bool)))))])
  (.cond (.t 65)
  (.seq (.region [(iO 2 (.mv (nI 8)))])
    .ret)
  .skip))))
  (.region [(iO 66 (.bin .add (.t 44) (nI 1))),
    (iO 44 (.mv (.t 66)))]))))
noncomputable def z43u1t (k n : Nat) (d : z43u1p.D) : Option (XD z43u1x) := sound_Checku1 k n d.1.2.1 d.1.2.2.1 d.1.2.2.2 d.2
theorem z43u1_k (k : Nat) : UOK P GL (mkU z43u1p z43u1x (z43u1t k k) nilU) z43u1d true z43u1b :=
  loop_typed (ud := z43u1d) (body := z43u1b) (uorc := uorT (z43U1 k)) hmo (T40_ok k).oo (z43U1_k k) (AllU.no (by kernel_rfl)) (t := z43u1t k) (fun d => by kernel_rfl) (fun n d => by kernel_rfl) k
noncomputable def z43U2 (k : Nat) : List (Nat × Ent) := (1, ⟨mkU z43u1p z43u1x (z43u1t k k) nilU⟩) :: z43U1 k
theorem z43U2_k (k : Nat) : UTab (z43U2 k) := (z43U1_k k).cons (mkU_nat nilU_nat)
noncomputable def sound_Check (k : Nat) (x0 : DSheet) : Option (Int) :=
  Option.bind (formats_Rows k x0.2.2.1) fun (v24 : (Int) × ((Int) × (Unit))) =>
  Option.bind (sound_Checku0 k v24.1 x0) fun (v152 : (Bool) × (DSheet)) =>
  bif v152.1 then
    some 12
  else
  Option.bind (sound_Cells k v152.2) fun (v161 : List (DCell)) =>
  Option.bind (sound_Checku1 k k v161 ((List.length v161 : Nat) : Int) 0 v152.2) fun r =>
  Sum.elim (fun (v171 : (Int) × (DSheet)) =>
    some v171.1)
    (fun (v172 : (Unit) × (DSheet)) =>
    some 0) r
noncomputable def z43b : AC :=
  (.seq (.region [(iO 1 (.box (.t 0))),
    (iO 2 (.mv (nI 0)))])
  (.seq (.region [(iO 8 (.fad 2 2 (.t 1))),
    (iO 9 (.load false 1 (.t 8))),
    (iC 10 23 [((.t 9), none)]),
    (iO 7 (.mv (.t 10))),
    (iO 11 (.ext (.t 7) 0)),
    (iO 12 (.ext (.t 7) 1)),
    (iO 3 (.mv (.t 11))),
    (iO 4 (.mv (.t 12)))])
  (.seq (.seq (.unit 0 z43u0d false z43u0b)
  (.cond (.t 40)
  (.seq (.region [(iO 2 (.mv (nI 12)))])
    .ret)
  .skip))
  (.seq (.seq (.region [(iO 41 (.load true 8 (.t 1))),
    (iC 42 44 [((.t 41), some YSheet)]),
    (iO 43 (.len (.t 42))),
    (iO 44 (.mv (nI 0)))])
  (.block 0 (.unit 1 z43u1d true z43u1b)))
  (.seq (.region [(iO 2 (.mv (nI 0)))])
  .ret)))))
noncomputable def z43f : FDef := ⟨1, 67, [.tmp 2 none], z43b⟩
noncomputable def z43p : XPat := ⟨.normal, [(.tv YSheet)], []⟩
noncomputable def z43x : List XPat := [⟨.ret, [(.tv (.int .i64))], []⟩]
noncomputable def z43t (k : Nat) (d : z43p.D) : Option (XD z43x) := sound_Check k d
noncomputable def z43_e (k : Nat) : UEntry := mkU z43p z43x (z43t k) nilU
theorem z43_n (k : Nat) : UNat (z43_e k) := mkU_nat nilU_nat
theorem z43_fu (k : Nat) : FU P GL 20 (z43_e k) :=
  fn_typed (uorc := uorT (z43U2 k)) hmo (T40_ok k).oo (z43U2_k k) (fd := z43f) (AllU.seq (AllU.no (by kernel_rfl)) (AllU.seq (AllU.no (by kernel_rfl)) (AllU.seq (AllU.seq (AllU.unit (uorc := uorT (z43U2 k)) (u := 0) (z43u0_k k)) (AllU.no (by kernel_rfl))) (AllU.seq (AllU.seq (AllU.no (by kernel_rfl)) (AllU.block (AllU.unit (uorc := uorT (z43U2 k)) (u := 1) (z43u1_k k)))) (AllU.no (by kernel_rfl)))))) (fn := Tryz.f20) (by kernel_rfl) (by kernel_rfl) (fun d => by kernel_rfl) FU_nil
noncomputable def T41 (k : Nat) : List (Nat × Ent) := (20, ⟨z43_e k⟩) :: T40 k
theorem T41_ok (k : Nat) : TabOK P GL (T41 k) := (T40_ok k).cons (z43_fu k) (z43_n k)
/-! ### overspill.rowhead.Put -/
noncomputable def z44U0 (_ : Nat) : List (Nat × Ent) := []
theorem z44U0_k (k : Nat) : UTab (z44U0 k) := UTab.nil
noncomputable def z44u0d : UDef := ⟨[(0, none), (1, none), (2, none), (3, none)], [8, 9, 10, 11, 12, 13, 14, 15, 16, 17, 18, 19, 20, 21, 22, 23, 24], [(.ret, [(8, none)]), (.normal, [])], []⟩
noncomputable def z44u0p : XPat := ⟨.normal, [(.ptr 0 []), (.tv (.int .i64)), (.tv (.int .i64)), (.tv (.int .i64))], [(.box (.cons (.row 1) (.cons (.tv (.int .i64)) .nil))), (.row (.int .u8) false)]⟩
noncomputable def z44u0x : List XPat := [⟨.ret, [(.tv (.int .i64))], [(.box (.cons (.row 1) (.cons (.tv (.int .i64)) .nil))), (.row (.int .u8) false)]⟩, ⟨.normal, [], [(.box (.cons (.row 1) (.cons (.tv (.int .i64)) .nil))), (.row (.int .u8) false)]⟩]
noncomputable def rowhead_Putu0 (k : Nat) (x0 : Int) (x1 : Int) (x2 : Int) (x3 : Int) (x4 : List (Int)) : Option (((Int) × (((Unit) × ((Int) × (Unit))) × (List (Int)))) ⊕ ((Unit) × (((Unit) × ((Int) × (Unit))) × (List (Int))))) :=
  bif (decide (x0 < 1)) then
    bif (decide (x0 < 1)) then
      some (Sum.inl (12, (((), (x3, ())), x4)))
    else
    some (Sum.inr ((), (((), (x3, ())), x4)))
  else
  bif (decide ((17 : Int) < x0)) then
    bif (decide ((17 : Int) < x0)) then
      some (Sum.inl (12, (((), (x3, ())), x4)))
    else
    some (Sum.inr ((), (((), (x3, ())), x4)))
  else
  bif (decide (x1 < 0)) then
    bif (decide (x1 < 0)) then
      some (Sum.inl (12, (((), (x3, ())), x4)))
    else
    some (Sum.inr ((), (((), (x3, ())), x4)))
  else
  bif (decide ((3 : Int) < x1)) then
    bif (decide ((3 : Int) < x1)) then
      some (Sum.inl (12, (((), (x3, ())), x4)))
    else
    some (Sum.inr ((), (((), (x3, ())), x4)))
  else
  bif (decide (x2 < 1)) then
    bif (decide (x2 < 1)) then
      some (Sum.inl (12, (((), (x3, ())), x4)))
    else
    some (Sum.inr ((), (((), (x3, ())), x4)))
  else
  bif (decide ((31 : Int) < x2)) then
    some (Sum.inl (12, (((), (x3, ())), x4)))
  else
  some (Sum.inr ((), (((), (x3, ())), x4)))
noncomputable def z44u0b : AC :=
  (.block 0 (.seq (.region [(iO 10 (.mv (.t 0))),
    (iO 11 (.eqp false (.t 10) (.c .nilp))),
    (iO 9 (.mv (.t 11)))])
  (.cond (.t 9)
  (.seq (.region [(iO 8 .bad)])
    .ret)
  (.seq (.seq (.region [(iO 13 (.mv (.t 1))),
      (iO 14 (.bin .lss (.t 13) (nI 1))),
      (iO 12 (.mv (.t 14)))])
    (.cond (.t 12)
    .skip
    (.seq (.region [(iO 15 (.mv (.t 1))),
        (iO 16 (.bin .gtr (.t 15) (nI 17))),
        (iO 12 (.mv (.t 16)))])
      (.cond (.t 12)
      .skip
      (.seq (.region [(iO 17 (.mv (.t 2))),
          (iO 18 (.bin .lss (.t 17) (nI 0))),
          (iO 12 (.mv (.t 18)))])
        (.cond (.t 12)
        .skip
        (.seq (.region [(iO 19 (.mv (.t 2))),
            (iO 20 (.bin .gtr (.t 19) (nI 3))),
            (iO 12 (.mv (.t 20)))])
          (.cond (.t 12)
          .skip
          (.seq (.region [(iO 21 (.mv (.t 3))),
              (iO 22 (.bin .lss (.t 21) (nI 1))),
              (iO 12 (.mv (.t 22)))])
            (.cond (.t 12)
            .skip
            (.region [(iO 23 (.mv (.t 3))),
                (iO 24 (.bin .gtr (.t 23) (nI 31))),
                (iO 12 (.mv (.t 24)))])))))))))))
    (.cond (.t 12)
    (.seq (.region [(iO 8 (.mv (nI 12)))])
      .ret)
    .skip)))))
noncomputable def z44u0t (k : Nat) (d : z44u0p.D) : Option (XD z44u0x) := rowhead_Putu0 k d.1.2.1 d.1.2.2.1 d.1.2.2.2 d.2.1.2.1 d.2.2
theorem z44u0_k (k : Nat) : UOK P GL (mkU z44u0p z44u0x (z44u0t k) nilU) z44u0d false z44u0b :=
  unit_typed (ud := z44u0d) (body := z44u0b) (uorc := uorT (z44U0 k)) hmo (T41_ok k).oo (z44U0_k k) (AllU.no (by kernel_rfl)) (fun d => by kernel_rfl)
noncomputable def z44U1 (k : Nat) : List (Nat × Ent) := (0, ⟨mkU z44u0p z44u0x (z44u0t k) nilU⟩) :: z44U0 k
theorem z44U1_k (k : Nat) : UTab (z44U1 k) := (z44U0_k k).cons (mkU_nat nilU_nat)
noncomputable def rowhead_Put (k : Nat) (x0 : Int) (x1 : Int) (x2 : Int) (x3 : Int) (x4 : List (Int)) : Option ((Int) × (((Unit) × ((Int) × (Unit))) × (List (Int)))) :=
  Option.bind (rowhead_Putu0 k x0 x1 x2 x3 x4) fun r =>
  Sum.elim (fun (v177 : (Int) × (((Unit) × ((Int) × (Unit))) × (List (Int)))) =>
    some (v177.1, (((), (v177.2.1.2.1, ())), v177.2.2)))
    (fun (v178 : (Unit) × (((Unit) × ((Int) × (Unit))) × (List (Int)))) =>
    Option.bind (marks_Put k x0 v178.2.1.2.1 v178.2.2) fun (v179 : (Int) × (((Unit) × ((Int) × (Unit))) × (List (Int)))) =>
    Option.bind (outbits_Writer_Put k x1 2 v179.2.1.2.1 v179.2.2) fun (v180 : (Int) × (((Unit) × ((Int) × (Unit))) × (List (Int)))) =>
    Option.bind (outbits_Writer_Put k x2 5 v180.2.1.2.1 v180.2.2) fun (v181 : (Int) × (((Unit) × ((Int) × (Unit))) × (List (Int)))) =>
    some (v181.1, (((), (v181.2.1.2.1, ())), v181.2.2))) r
noncomputable def z44b : AC :=
  (.seq (.region [(iO 8 (.mv (nI 0)))])
  (.seq (.unit 0 z44u0d false z44u0b)
  (.seq (.region [(iO 25 (.mv (.t 0))),
    (iO 26 (.mv (.t 1))),
    (iC 27 47 [((.t 25), none), ((.t 26), none)])])
  (.seq (.region [(iO 28 (.mv (.t 0))),
    (iO 29 (.mv (.t 2))),
    (iC 30 29 [((.t 28), none), ((.t 29), none), ((nI 2), none)])])
  (.seq (.region [(iO 31 (.mv (.t 0))),
    (iO 32 (.mv (.t 3))),
    (iC 33 29 [((.t 31), none), ((.t 32), none), ((nI 5), none)]),
    (iO 8 (.mv (.t 33)))])
  .ret)))))
noncomputable def z44f : FDef := ⟨4, 34, [.tmp 8 none], z44b⟩
noncomputable def z44p : XPat := ⟨.normal, [(.ptr 0 []), (.tv (.int .i64)), (.tv (.int .i64)), (.tv (.int .i64))], [(.box (.cons (.row 1) (.cons (.tv (.int .i64)) .nil))), (.row (.int .u8) false)]⟩
noncomputable def z44x : List XPat := [⟨.ret, [(.tv (.int .i64))], [(.box (.cons (.row 1) (.cons (.tv (.int .i64)) .nil))), (.row (.int .u8) false)]⟩]
noncomputable def z44t (k : Nat) (d : z44p.D) : Option (XD z44x) := rowhead_Put k d.1.2.1 d.1.2.2.1 d.1.2.2.2 d.2.1.2.1 d.2.2
noncomputable def z44_e (k : Nat) : UEntry := mkU z44p z44x (z44t k) nilU
theorem z44_n (k : Nat) : UNat (z44_e k) := mkU_nat nilU_nat
theorem z44_fu (k : Nat) : FU P GL 27 (z44_e k) :=
  fn_typed (uorc := uorT (z44U1 k)) hmo (T41_ok k).oo (z44U1_k k) (fd := z44f) (AllU.seq (AllU.no (by kernel_rfl)) (AllU.seq (AllU.unit (uorc := uorT (z44U1 k)) (u := 0) (z44u0_k k)) (AllU.no (by kernel_rfl)))) (fn := Tryz.f27) (by kernel_rfl) (by kernel_rfl) (fun d => by kernel_rfl) FU_nil
noncomputable def T42 (k : Nat) : List (Nat × Ent) := (27, ⟨z44_e k⟩) :: T41 k
theorem T42_ok (k : Nat) : TabOK P GL (T42 k) := (T41_ok k).cons (z44_fu k) (z44_n k)
/-! ### overspill.median.around -/
noncomputable def z45U0 (_ : Nat) : List (Nat × Ent) := []
theorem z45U0_k (k : Nat) : UTab (z45U0 k) := UTab.nil
noncomputable def z45u0d : UDef := ⟨[(0, none), (6, none), (9, none), (21, none)], [22, 23, 24, 25, 26], [(.normal, [])], []⟩
noncomputable def z45u0p : XPat := ⟨.normal, [(.tv (.sl (.arr 2 (.int .i64)))), (.ptr 0 []), (.tv (.int .i64)), (.tv .bool)], [(.box (.tv (.arr 2 (.int .i64))))]⟩
noncomputable def z45u0x : List XPat := [⟨.normal, [], [(.box (.tv (.arr 2 (.int .i64))))]⟩]
noncomputable def median_aroundu0 (k : Nat) (x0 : List (List (Int))) (x1 : Int) (x2 : Bool) (x3 : List (Int)) : Option ((Unit) × (List (Int))) :=
  bif x2 then
    bif (inR (wr .i64 (x1 - 1)) (List.length x0)) then
      some ((), (List.getD x0 (Int.toNat (wr .i64 (x1 - 1))) (Ty.zero (.arr 2 (.int .i64)))))
    else
      none
  else
  some ((), x3)
noncomputable def z45u0b : AC :=
  (.cond (.t 21)
  (.region [(iO 22 (.mv (.t 0))),
      (iO 23 (.mv (.t 9))),
      (iO 24 (.bin .sub (.t 23) (nI 1))),
      (iO 25 (.iads (.arr 2 (.int .i64)) (.t 22) (.t 24))),
      (iO 26 (.load true 2 (.t 25))),
      (iS (.store 2 none (.t 6) (.t 26)))])
  .skip)
noncomputable def z45u0t (k : Nat) (d : z45u0p.D) : Option (XD z45u0x) := median_aroundu0 k d.1.1 d.1.2.2.1 d.1.2.2.2 d.2
theorem z45u0_k (k : Nat) : UOK P GL (mkU z45u0p z45u0x (z45u0t k) nilU) z45u0d false z45u0b :=
  unit_typed (ud := z45u0d) (body := z45u0b) (uorc := uorT (z45U0 k)) hmo (T42_ok k).oo (z45U0_k k) (AllU.no (by kernel_rfl)) (fun d => by kernel_rfl)
noncomputable def z45U1 (k : Nat) : List (Nat × Ent) := (0, ⟨mkU z45u0p z45u0x (z45u0t k) nilU⟩) :: z45U0 k
theorem z45U1_k (k : Nat) : UTab (z45U1 k) := (z45U0_k k).cons (mkU_nat nilU_nat)
noncomputable def median_around (k : Nat) (x0 : List (List (Int))) (x1 : Int) (x2 : Int) : Option ((List (Int)) × ((List (Int)) × ((List (Int)) × (Unit)))) :=
  bif (decide (x1 = 0)) then
    none
  else
  bif (decide (x1 = 0)) then
    none
  else
  Option.bind (median_aroundu0 k x0 ((List.length x0 : Nat) : Int) (decide ((0 : Int) < (Int.tmod ((List.length x0 : Nat) : Int) x1))) (Ty.zero (.arr 2 (.int .i64)))) fun (v185 : (Unit) × (List (Int))) =>
  bif (decide ((wr .i64 (Int.tdiv ((List.length x0 : Nat) : Int) x1)) ≤ (mxI x2 0))) then
    some (v185.2, (v185.2, (v185.2, ())))
  else
  bif (inR (wr .i64 (((List.length x0 : Nat) : Int) - x1)) (List.length x0)) then
    bif (decide ((Int.tmod ((List.length x0 : Nat) : Int) x1) < (wr .i64 (x1 - 1)))) then
      bif (inR (wr .i64 ((wr .i64 (((List.length x0 : Nat) : Int) - x1)) + 1)) (List.length x0)) then
        some (v185.2, ((List.getD x0 (Int.toNat (wr .i64 (((List.length x0 : Nat) : Int) - x1))) (Ty.zero (.arr 2 (.int .i64)))), ((List.getD x0 (Int.toNat (wr .i64 ((wr .i64 (((List.length x0 : Nat) : Int) - x1)) + 1))) (Ty.zero (.arr 2 (.int .i64)))), ())))
      else
        none
    else
    some (v185.2, ((List.getD x0 (Int.toNat (wr .i64 (((List.length x0 : Nat) : Int) - x1))) (Ty.zero (.arr 2 (.int .i64)))), ((Ty.zero (.arr 2 (.int .i64))), ())))
  else
    none
noncomputable def z45b : AC :=
  (.seq (.region [(iO 6 (.alloc 42 (.tv (.arr 2 (.int .i64))))),
    (iO 7 (.alloc 42 (.tv (.arr 2 (.int .i64))))),
    (iO 8 (.alloc 42 (.tv (.arr 2 (.int .i64)))))])
  (.seq (.region [(iO 12 (.mv (.t 0))),
    (iO 13 (.len (.t 12))),
    (iO 9 (.mv (.t 13)))])
  (.seq (.draw [(iO 14 (.mv (.t 9))),
    (iO 15 (.mv (.t 1))),
    (iOa 16 (.bin .rem (.t 14) (.t 15)) [0, 1]),
    (iO 17 (.mv (.t 9))),
    (iO 18 (.mv (.t 1))),
    (iOa 19 (.bin .quo (.t 17) (.t 18)) [3, 4]),
    (iOa 10 (.mv (.t 16)) [0, 1, 2]),
    (iOa 11 (.mv (.t 19)) (rg [0, 7]))])
  (.seq (.seq (.region [(iO 20 (.mv (.t 10))),
    (iO 21 (.bin .gtr (.t 20) (nI 0)))])
  (.unit 0 z45u0d false z45u0b))
  (.seq (.seq (.region [(iO 27 (.mv (.t 11))),
    (iO 28 (.mv (.t 2))),
    (iO 29 (.mx (.t 28) (nI 0))),
    (iO 30 (.bin .leq (.t 27) (.t 29)))])
  (.cond (.t 30)
  (.seq (.region [(iO 31 (.load true 2 (.t 6))),
      (iO 32 (.load true 2 (.t 6))),
      (iO 33 (.load true 2 (.t 6))),
      (iS (.store 2 none (.t 6) (.t 31))),
      (iS (.store 2 none (.t 7) (.t 32))),
      (iS (.store 2 none (.t 8) (.t 33)))])
    .ret)
  .skip))
  (.seq (.region [(iO 34 (.mv (.t 0))),
    (iO 35 (.mv (.t 9))),
    (iO 36 (.mv (.t 1))),
    (iO 37 (.bin .sub (.t 35) (.t 36))),
    (iO 38 (.iads (.arr 2 (.int .i64)) (.t 34) (.t 37))),
    (iO 39 (.load true 2 (.t 38))),
    (iS (.store 2 none (.t 7) (.t 39)))])
  (.seq (.seq (.region [(iO 40 (.mv (.t 10))),
    (iO 41 (.mv (.t 1))),
    (iO 42 (.bin .sub (.t 41) (nI 1))),
    (iO 43 (.bin .lss (.t 40) (.t 42)))])
  (.cond (.t 43)
  (.region [(iO 44 (.mv (.t 0))),
      (iO 45 (.mv (.t 9))),
      (iO 46 (.mv (.t 1))),
      (iO 47 (.bin .sub (.t 45) (.t 46))),
      (iO 48 (.bin .add (.t 47) (nI 1))),
      (iO 49 (.iads (.arr 2 (.int .i64)) (.t 44) (.t 48))),
      (iO 50 (.load true 2 (.t 49))),
      (iS (.store 2 none (.t 8) (.t 50)))])
  .skip))
  (.seq (.draw [(iO 51 (.load true 2 (.t 6))),
    (iO 52 (.load true 2 (.t 7))),
    (iO 53 (.load true 2 (.t 8))),
    (iSa (.store 2 none (.t 6) (.t 51)) [0]),
    (iSa (.store 2 none (.t 7) (.t 52)) [0, 1, 3]),
    (iSa (.store 2 none (.t 8) (.t 53)) (rg [0, 5]))])
  .ret))))))))
noncomputable def z45f : FDef := ⟨3, 54, [.cell 6 2 true (some (.arr 2 (.int .i64))), .cell 7 2 true (some (.arr 2 (.int .i64))), .cell 8 2 true (some (.arr 2 (.int .i64)))], z45b⟩
noncomputable def z45p : XPat := ⟨.normal, [(.tv (.sl (.arr 2 (.int .i64)))), (.tv (.int .i64)), (.tv (.int .i64))], []⟩
noncomputable def z45x : List XPat := [⟨.ret, [(.tup (.cons (.tv (.arr 2 (.int .i64))) (.cons (.tv (.arr 2 (.int .i64))) (.cons (.tv (.arr 2 (.int .i64))) .nil))))], []⟩]
noncomputable def z45t (k : Nat) (d : z45p.D) : Option (XD z45x) := median_around k d.1 d.2.1 d.2.2
noncomputable def z45_e (k : Nat) : UEntry := mkU z45p z45x (z45t k) nilU
theorem z45_n (k : Nat) : UNat (z45_e k) := mkU_nat nilU_nat
theorem z45_fu (k : Nat) : FU P GL 59 (z45_e k) :=
  fn_typed (uorc := uorT (z45U1 k)) hmo (T42_ok k).oo (z45U1_k k) (fd := z45f) (AllU.seq (AllU.no (by kernel_rfl)) (AllU.seq (AllU.no (by kernel_rfl)) (AllU.seq (AllU.no (by kernel_rfl)) (AllU.seq (AllU.seq (AllU.no (by kernel_rfl)) (AllU.unit (uorc := uorT (z45U1 k)) (u := 0) (z45u0_k k))) (AllU.no (by kernel_rfl)))))) (fn := Tryz.f59) (by kernel_rfl) (by kernel_rfl) (fun d => by kernel_rfl) FU_nil
noncomputable def T43 (k : Nat) : List (Nat × Ent) := (59, ⟨z45_e k⟩) :: T42 k
theorem T43_ok (k : Nat) : TabOK P GL (T43 k) := (T42_ok k).cons (z45_fu k) (z45_n k)
/-! ### overspill.whole.Middle -/
noncomputable def z46U0 (_ : Nat) : List (Nat × Ent) := []
theorem z46U0_k (k : Nat) : UTab (z46U0 k) := UTab.nil
noncomputable def whole_Middle (k : Nat) (x0 : Int) (x1 : Int) (x2 : Int) : Option (Int) :=
  some (mxI (mnI x0 x1) (mnI (mxI x0 x1) x2))
noncomputable def z46b : AC :=
  (.seq (.region [(iO 6 (.mv (nI 0)))])
  (.seq (.region [(iO 7 (.mv (.t 0))),
    (iO 8 (.mv (.t 1))),
    (iO 9 (.mn (.t 7) (.t 8))),
    (iO 10 (.mv (.t 0))),
    (iO 11 (.mv (.t 1))),
    (iO 12 (.mx (.t 10) (.t 11))),
    (iO 13 (.mv (.t 2))),
    (iO 14 (.mn (.t 12) (.t 13))),
    (iO 15 (.mx (.t 9) (.t 14))),
    (iO 6 (.mv (.t 15)))])
  .ret))
noncomputable def z46f : FDef := ⟨3, 16, [.tmp 6 none], z46b⟩
noncomputable def z46p : XPat := ⟨.normal, [(.tv (.int .i64)), (.tv (.int .i64)), (.tv (.int .i64))], []⟩
noncomputable def z46x : List XPat := [⟨.ret, [(.tv (.int .i64))], []⟩]
noncomputable def z46t (k : Nat) (d : z46p.D) : Option (XD z46x) := whole_Middle k d.1 d.2.1 d.2.2
noncomputable def z46_e (k : Nat) : UEntry := mkU z46p z46x (z46t k) nilU
theorem z46_n (k : Nat) : UNat (z46_e k) := mkU_nat nilU_nat
theorem z46_fu (k : Nat) : FU P GL 60 (z46_e k) :=
  fn_typed (uorc := uorT (z46U0 k)) hmo (T43_ok k).oo (z46U0_k k) (fd := z46f) (AllU.no (by kernel_rfl)) (fn := Tryz.f60) (by kernel_rfl) (by kernel_rfl) (fun d => by kernel_rfl) FU_nil
noncomputable def T44 (k : Nat) : List (Nat × Ent) := (60, ⟨z46_e k⟩) :: T43 k
theorem T44_ok (k : Nat) : TabOK P GL (T44 k) := (T43_ok k).cons (z46_fu k) (z46_n k)
/-! ### overspill.median.Of -/
noncomputable def z47U0 (_ : Nat) : List (Nat × Ent) := []
theorem z47U0_k (k : Nat) : UTab (z47U0 k) := UTab.nil
noncomputable def z47u0d : UDef := ⟨[(7, none), (8, none), (9, none), (10, none), (23, none)], [11, 23, 24, 25, 26, 27, 28, 29, 30, 31, 32, 33, 34, 35, 36, 37, 38], [((.exit 0), [])], []⟩
noncomputable def z47u0p : XPat := ⟨.normal, [(.ptr 0 []), (.ptr 1 []), (.ptr 2 []), (.ptr 3 []), (.tv (.int .i64))], [(.box (.tv (.arr 2 (.int .i64)))), (.box (.tv (.arr 2 (.int .i64)))), (.box (.tv (.arr 2 (.int .i64)))), (.box (.tv (.arr 2 (.int .i64))))]⟩
noncomputable def z47u0x : List XPat := [⟨(.exit 0), [], [(.box (.tv (.arr 2 (.int .i64)))), (.box (.tv (.arr 2 (.int .i64)))), (.box (.tv (.arr 2 (.int .i64)))), (.box (.tv (.arr 2 (.int .i64))))]⟩]
noncomputable def median_Ofu0 (k : Nat) : Nat → (Int) → (List (Int)) → (List (Int)) → (List (Int)) → (List (Int)) → Option ((Unit) × ((List (Int)) × ((List (Int)) × ((List (Int)) × (List (Int))))))
  | 0, _, _, _, _, _ => none
  | n + 1, x0, x1, x2, x3, x4 =>
    bif (decide (x0 < 2)) then
      bif (inR x0 2) then
        bif (inR x0 2) then
          bif (inR x0 2) then
            Option.bind (whole_Middle k (List.getD x1 (Int.toNat x0) 0) (List.getD x2 (Int.toNat x0) 0) (List.getD x3 (Int.toNat x0) 0)) fun (v188 : Int) =>
            bif (inR x0 2) then
              Option.bind (median_Ofu0 k n (wr .i64 (x0 + 1)) x1 x2 x3 (List.set x4 (Int.toNat x0) v188)) fun r => some r
            else
              none
          else
            none
        else
          none
      else
        none
    else
    some ((), (x1, (x2, (x3, x4))))
noncomputable def z47u0b : AC :=
  (.seq (.region [(iO 24 (.bin .lss (.t 23) (nI 2)))])
  (.seq (.cond (.t 24)
  .skip
  (.exit 0))
  (.seq (.block 1 (.seq (.region [(iO 25 (.mv (.t 23))),
    (iO 11 (.mv (.t 25)))])
  (.draw [(iO 26 (.mv (.t 11))),
    (iO 27 (.mv (.t 11))),
    (iOa 28 (.iad 2 1 (.t 7) (.t 27)) [1]),
    (iOa 29 (.load false 1 (.t 28)) [1, 2]),
    (iO 30 (.mv (.t 11))),
    (iOa 31 (.iad 2 1 (.t 8) (.t 30)) [4]),
    (iOa 32 (.load false 1 (.t 31)) [4, 5]),
    (iO 33 (.mv (.t 11))),
    (iOa 34 (.iad 2 1 (.t 9) (.t 33)) [7]),
    (iOa 35 (.load false 1 (.t 34)) [7, 8]),
    (iCa 36 60 [((.t 29), none), ((.t 32), none), ((.t 35), none)] (rg [1, 9])),
    (iOa 37 (.iad 2 1 (.t 10) (.t 26)) (rg [0, 11])),
    (iSa (.store 1 none (.t 37) (.t 36)) (rg [0, 12]))])))
  (.region [(iO 38 (.bin .add (.t 23) (nI 1))),
    (iO 23 (.mv (.t 38)))]))))
noncomputable def z47u0t (k n : Nat) (d : z47u0p.D) : Option (XD z47u0x) := median_Ofu0 k n d.1.2.2.2.2 d.2.1 d.2.2.1 d.2.2.2.1 d.2.2.2.2
theorem z47u0_k (k : Nat) : UOK P GL (mkU z47u0p z47u0x (z47u0t k k) nilU) z47u0d true z47u0b :=
  loop_typed (ud := z47u0d) (body := z47u0b) (uorc := uorT (z47U0 k)) hmo (T44_ok k).oo (z47U0_k k) (AllU.no (by kernel_rfl)) (t := z47u0t k) (fun d => by kernel_rfl) (fun n d => by kernel_rfl) k
noncomputable def z47U1 (k : Nat) : List (Nat × Ent) := (0, ⟨mkU z47u0p z47u0x (z47u0t k k) nilU⟩) :: z47U0 k
theorem z47U1_k (k : Nat) : UTab (z47U1 k) := (z47U0_k k).cons (mkU_nat nilU_nat)
noncomputable def median_Of (k : Nat) (x0 : List (List (Int))) (x1 : Int) (x2 : Int) : Option (List (Int)) :=
  bif (decide (x1 < 1)) then
    some (Ty.zero (.arr 2 (.int .i64)))
  else
  Option.bind (median_around k x0 x1 x2) fun (v186 : (List (Int)) × ((List (Int)) × ((List (Int)) × (Unit)))) =>
  Option.bind (median_Ofu0 k k 0 v186.1 v186.2.1 v186.2.2.1 (Ty.zero (.arr 2 (.int .i64)))) fun (v189 : (Unit) × ((List (Int)) × ((List (Int)) × ((List (Int)) × (List (Int)))))) =>
  some v189.2.2.2.2
noncomputable def z47b : AC :=
  (.seq (.region [(iO 6 (.alloc 42 (.tv (.arr 2 (.int .i64)))))])
  (.seq (.seq (.region [(iO 12 (.mv (.t 1))),
    (iO 13 (.bin .lss (.t 12) (nI 1)))])
  (.cond (.t 13)
  (.seq (.region [(iO 14 (.build 42 (.tv (.arr 2 (.int .i64))) [])),
      (iS (.store 2 none (.t 6) (.t 14)))])
    .ret)
  .skip))
  (.seq (.region [(iO 16 (.mv (.t 0))),
    (iO 17 (.mv (.t 1))),
    (iO 18 (.mv (.t 2))),
    (iC 19 59 [((.t 16), some (.sl (.arr 2 (.int .i64)))), ((.t 17), none), ((.t 18), none)]),
    (iO 15 (.mv (.t 19))),
    (iO 20 (.ext (.t 15) 0)),
    (iO 21 (.ext (.t 15) 1)),
    (iO 22 (.ext (.t 15) 2)),
    (iO 7 (.alloc 42 (.tv (.arr 2 (.int .i64))))),
    (iO 8 (.alloc 42 (.tv (.arr 2 (.int .i64))))),
    (iO 9 (.alloc 42 (.tv (.arr 2 (.int .i64))))),
    (iS (.store 2 none (.t 7) (.t 20))),
    (iS (.store 2 none (.t 8) (.t 21))),
    (iS (.store 2 none (.t 9) (.t 22)))])
  (.seq (.region [(iO 10 (.alloc 42 (.tv (.arr 2 (.int .i64)))))])
  (.seq (.seq (.region [(iO 23 (.mv (nI 0)))])
  (.block 0 (.unit 0 z47u0d true z47u0b)))
  (.seq (.region [(iO 39 (.load true 2 (.t 10))),
    (iS (.store 2 none (.t 6) (.t 39)))])
  .ret))))))
noncomputable def z47f : FDef := ⟨3, 40, [.cell 6 2 true (some (.arr 2 (.int .i64)))], z47b⟩
noncomputable def z47p : XPat := ⟨.normal, [(.tv (.sl (.arr 2 (.int .i64)))), (.tv (.int .i64)), (.tv (.int .i64))], []⟩
noncomputable def z47x : List XPat := [⟨.ret, [(.tv (.arr 2 (.int .i64)))], []⟩]
noncomputable def z47t (k : Nat) (d : z47p.D) : Option (XD z47x) := median_Of k d.1 d.2.1 d.2.2
noncomputable def z47_e (k : Nat) : UEntry := mkU z47p z47x (z47t k) nilU
theorem z47_n (k : Nat) : UNat (z47_e k) := mkU_nat nilU_nat
theorem z47_fu (k : Nat) : FU P GL 26 (z47_e k) :=
  fn_typed (uorc := uorT (z47U1 k)) hmo (T44_ok k).oo (z47U1_k k) (fd := z47f) (AllU.seq (AllU.no (by kernel_rfl)) (AllU.seq (AllU.no (by kernel_rfl)) (AllU.seq (AllU.no (by kernel_rfl)) (AllU.seq (AllU.no (by kernel_rfl)) (AllU.seq (AllU.seq (AllU.no (by kernel_rfl)) (AllU.block (AllU.unit (uorc := uorT (z47U1 k)) (u := 0) (z47u0_k k)))) (AllU.no (by kernel_rfl))))))) (fn := Tryz.f26) (by kernel_rfl) (by kernel_rfl) (fun d => by kernel_rfl) FU_nil
noncomputable def T45 (k : Nat) : List (Nat × Ent) := (26, ⟨z47_e k⟩) :: T44 k
theorem T45_ok (k : Nat) : TabOK P GL (T45 k) := (T44_ok k).cons (z47_fu k) (z47_n k)
/-! ### overspill.mcbpc.row -/
noncomputable def z48U0 (_ : Nat) : List (Nat × Ent) := []
theorem z48U0_k (k : Nat) : UTab (z48U0 k) := UTab.nil
noncomputable def mcbpc_row (k : Nat) (x0 : Bool) (x1 : Int) : Option (List UInt8) :=
  bif (!x0) then
    bif (decide (x1 = 3)) then
      some ([49, 32, 48, 48, 49, 32, 48, 49, 48, 32, 48, 49, 49] : List UInt8)
    else
    bif (decide (x1 = 4)) then
      some ([48, 48, 48, 49, 32, 48, 48, 48, 48, 48, 49, 32, 48, 48, 48, 48, 49, 48, 32, 48, 48, 48, 48, 49, 49] : List UInt8)
    else
    bif (decide (x1 = 5)) then
      some ([48, 48, 48, 48, 48, 48, 48, 48, 49] : List UInt8)
    else
    some ([] : List UInt8)
  else
  bif (decide (x1 = 0)) then
    some ([49, 32, 48, 48, 49, 49, 32, 48, 48, 49, 48, 32, 48, 48, 48, 49, 48, 49] : List UInt8)
  else
  bif (decide (x1 = 1)) then
    some ([48, 49, 49, 32, 48, 48, 48, 48, 49, 49, 49, 32, 48, 48, 48, 48, 49, 49, 48, 32, 48, 48, 48, 48, 48, 48, 49, 48, 49] : List UInt8)
  else
  bif (decide (x1 = 2)) then
    some ([48, 49, 48, 32, 48, 48, 48, 48, 49, 48, 49, 32, 48, 48, 48, 48, 49, 48, 48, 32, 48, 48, 48, 48, 48, 49, 48, 49] : List UInt8)
  else
  bif (decide (x1 = 3)) then
    some ([48, 48, 48, 49, 49, 32, 48, 48, 48, 48, 48, 49, 48, 48, 32, 48, 48, 48, 48, 48, 48, 49, 49, 32, 48, 48, 48, 48, 48, 49, 49] : List UInt8)
  else
  bif (decide (x1 = 4)) then
    some ([48, 48, 48, 49, 48, 48, 32, 48, 48, 48, 48, 48, 48, 49, 48, 48, 32, 48, 48, 48, 48, 48, 48, 48, 49, 49, 32, 48, 48, 48, 48, 48, 48, 48, 49, 48] : List UInt8)
  else
  bif (decide (x1 = 5)) then
    some ([48, 48, 48, 48, 48, 48, 48, 48, 49] : List UInt8)
  else
  some ([] : List UInt8)
noncomputable def z48b : AC :=
  (.seq (.region [(iO 4 (.mv (.c (.tv .str (([] : List UInt8) : List UInt8)))))])
  (.seq (.seq (.region [(iO 5 (.mv (.t 0))),
    (iO 6 (.un .not (.t 5)))])
  (.cond (.t 6)
  (.seq (.seq (.region [(iO 7 (.mv (.t 1)))])
    (.block 0 (.seq (.region [(iO 9 (.bin .eql (.t 7) (nI 3))),
      (iO 8 (.mv (.t 9)))])
    (.cond (.t 8)
    (.seq (.region [(iO 4 (.mv (.c (.tv .str (([49, 32, 48, 48, 49, 32, 48, 49, 48, 32, 48, 49, 49] : List UInt8) : List UInt8)))))])
      .ret)
    (.seq (.region [(iO 11 (.bin .eql (.t 7) (nI 4))),
        (iO 10 (.mv (.t 11)))])
      (.cond (.t 10)
      (.seq (.region [(iO 4 (.mv (.c (.tv .str (([48, 48, 48, 49, 32, 48, 48, 48, 48, 48, 49, 32, 48, 48, 48, 48, 49, 48, 32, 48, 48, 48, 48, 49, 49] : List UInt8) : List UInt8)))))])
        .ret)
      (.seq (.region [(iO 13 (.bin .eql (.t 7) (nI 5))),
          (iO 12 (.mv (.t 13)))])
        (.cond (.t 12)
        (.seq (.region [(iO 4 (.mv (.c (.tv .str (([48, 48, 48, 48, 48, 48, 48, 48, 49] : List UInt8) : List UInt8)))))])
          .ret)
        .skip))))))))
    (.seq (.region [(iO 4 (.mv (.c (.tv .str (([] : List UInt8) : List UInt8)))))])
    .ret))
  .skip))
  (.seq (.seq (.region [(iO 14 (.mv (.t 1)))])
  (.block 1 (.seq (.region [(iO 16 (.bin .eql (.t 14) (nI 0))),
    (iO 15 (.mv (.t 16)))])
  (.cond (.t 15)
  (.seq (.region [(iO 4 (.mv (.c (.tv .str (([49, 32, 48, 48, 49, 49, 32, 48, 48, 49, 48, 32, 48, 48, 48, 49, 48, 49] : List UInt8) : List UInt8)))))])
    .ret)
  (.seq (.region [(iO 18 (.bin .eql (.t 14) (nI 1))),
      (iO 17 (.mv (.t 18)))])
    (.cond (.t 17)
    (.seq (.region [(iO 4 (.mv (.c (.tv .str (([48, 49, 49, 32, 48, 48, 48, 48, 49, 49, 49, 32, 48, 48, 48, 48, 49, 49, 48, 32, 48, 48, 48, 48, 48, 48, 49, 48, 49] : List UInt8) : List UInt8)))))])
      .ret)
    (.seq (.region [(iO 20 (.bin .eql (.t 14) (nI 2))),
        (iO 19 (.mv (.t 20)))])
      (.cond (.t 19)
      (.seq (.region [(iO 4 (.mv (.c (.tv .str (([48, 49, 48, 32, 48, 48, 48, 48, 49, 48, 49, 32, 48, 48, 48, 48, 49, 48, 48, 32, 48, 48, 48, 48, 48, 49, 48, 49] : List UInt8) : List UInt8)))))])
        .ret)
      (.seq (.region [(iO 22 (.bin .eql (.t 14) (nI 3))),
          (iO 21 (.mv (.t 22)))])
        (.cond (.t 21)
        (.seq (.region [(iO 4 (.mv (.c (.tv .str (([48, 48, 48, 49, 49, 32, 48, 48, 48, 48, 48, 49, 48, 48, 32, 48, 48, 48, 48, 48, 48, 49, 49, 32, 48, 48, 48, 48, 48, 49, 49] : List UInt8) : List UInt8)))))])
          .ret)
        (.seq (.region [(iO 24 (.bin .eql (.t 14) (nI 4))),
            (iO 23 (.mv (.t 24)))])
          (.cond (.t 23)
          (.seq (.region [(iO 4 (.mv (.c (.tv .str (([48, 48, 48, 49, 48, 48, 32, 48, 48, 48, 48, 48, 48, 49, 48, 48, 32, 48, 48, 48, 48, 48, 48, 48, 49, 49, 32, 48, 48, 48, 48, 48, 48, 48, 49, 48] : List UInt8) : List UInt8)))))])
            .ret)
          (.seq (.region [(iO 26 (.bin .eql (.t 14) (nI 5))),
              (iO 25 (.mv (.t 26)))])
            (.cond (.t 25)
            (.seq (.region [(iO 4 (.mv (.c (.tv .str (([48, 48, 48, 48, 48, 48, 48, 48, 49] : List UInt8) : List UInt8)))))])
              .ret)
            .skip))))))))))))))
  (.seq (.region [(iO 4 (.mv (.c (.tv .str (([] : List UInt8) : List UInt8)))))])
  .ret))))
noncomputable def z48f : FDef := ⟨2, 27, [.tmp 4 none], z48b⟩
noncomputable def z48p : XPat := ⟨.normal, [(.tv .bool), (.tv (.int .i64))], []⟩
noncomputable def z48x : List XPat := [⟨.ret, [(.tv .str)], []⟩]
noncomputable def z48t (k : Nat) (d : z48p.D) : Option (XD z48x) := mcbpc_row k d.1 d.2
noncomputable def z48_e (k : Nat) : UEntry := mkU z48p z48x (z48t k) nilU
theorem z48_n (k : Nat) : UNat (z48_e k) := mkU_nat nilU_nat
theorem z48_fu (k : Nat) : FU P GL 94 (z48_e k) :=
  fn_typed (uorc := uorT (z48U0 k)) hmo (T45_ok k).oo (z48U0_k k) (fd := z48f) (AllU.no (by kernel_rfl)) (fn := Tryz.f94) (by kernel_rfl) (by kernel_rfl) (fun d => by kernel_rfl) FU_nil
noncomputable def T46 (k : Nat) : List (Nat × Ent) := (94, ⟨z48_e k⟩) :: T45 k
theorem T46_ok (k : Nat) : TabOK P GL (T46 k) := (T45_ok k).cons (z48_fu k) (z48_n k)
/-! ### strings.Fields -/
noncomputable def z49U0 (_ : Nat) : List (Nat × Ent) := []
theorem z49U0_k (k : Nat) : UTab (z49U0 k) := UTab.nil
noncomputable def z49u0d : UDef := ⟨[(0, none), (3, none), (4, none), (5, none), (6, none)], [3, 4, 5, 6, 7, 8, 13, 14, 15, 16, 17, 18, 19, 20, 21, 22, 23, 24, 25, 26, 27, 28, 29, 30, 31, 32, 33, 34, 35], [((.exit 0), [(3, none), (5, none)])], []⟩
noncomputable def z49u0p : XPat := ⟨.normal, [(.tv .str), (.tv (.int .i64)), (.tv (.int .i64)), (.tv (.int .u8)), (.tv (.int .i64))], []⟩
noncomputable def z49u0x : List XPat := [⟨(.exit 0), [(.tv (.int .i64)), (.tv (.int .u8))], []⟩]
noncomputable def strings_Fieldsu0 (k : Nat) : Nat → (List UInt8) → (Int) → (Int) → (Int) → (Int) → Option ((Int) × (Int))
  | 0, _, _, _, _, _ => none
  | n + 1, x0, x1, x2, x3, x4 =>
    bif (decide (x4 < ((List.length x0 : Nat) : Int))) then
      bif (inR x4 (List.length x0)) then
        bif (inR ((UInt8.toNat (List.getD x0 (Int.toNat x4) 0) : Nat) : Int) 256) then
          Option.bind (strings_Fieldsu0 k n x0 (wr .i64 (x1 + (bitop .and .i64 x2 (bitop .xor .i64 (-1) (wr .i64 (List.getD tbl3 (Int.toNat ((UInt8.toNat (List.getD x0 (Int.toNat x4) 0) : Nat) : Int)) 0)))))) (wr .i64 (List.getD tbl3 (Int.toNat ((UInt8.toNat (List.getD x0 (Int.toNat x4) 0) : Nat) : Int)) 0)) (bitop .or .u8 x3 ((UInt8.toNat (List.getD x0 (Int.toNat x4) 0) : Nat) : Int)) (wr .i64 (x4 + 1))) fun r => some r
        else
          none
      else
        none
    else
    some (x1, x3)
noncomputable def z49u0b : AC :=
  (.seq (.seq (.region [(iO 13 (.mv (.t 6))),
    (iO 14 (.mv (.t 0))),
    (iO 15 (.lens (.t 14))),
    (iO 16 (.bin .lss (.t 13) (.t 15)))])
  (.cond (.t 16)
  .skip
  (.exit 0)))
  (.seq (.block 1 (.seq (.region [(iO 19 (.mv (.t 0))),
    (iO 20 (.mv (.t 6))),
    (iO 21 (.ixs (.t 19) (.t 20))),
    (iO 7 (.mv (.t 21)))])
  (.seq (.region [(iO 22 (.mv (.t 5))),
    (iO 23 (.mv (.t 7))),
    (iO 24 (.bin .or (.t 22) (.t 23))),
    (iO 5 (.mv (.t 24)))])
  (.seq (.region [(iO 25 (.mv (.t 7))),
    (iO 26 (.iad 256 1 (.g 3) (.t 25))),
    (iO 27 (.load false 1 (.t 26))),
    (iO 28 (.conv .i64 (.t 27))),
    (iO 8 (.mv (.t 28)))])
  (.seq (.region [(iO 29 (.mv (.t 3))),
    (iO 30 (.mv (.t 4))),
    (iO 31 (.mv (.t 8))),
    (iO 32 (.un .xor (.t 31))),
    (iO 33 (.bin .and (.t 30) (.t 32))),
    (iO 34 (.bin .add (.t 29) (.t 33))),
    (iO 3 (.mv (.t 34)))])
  (.region [(iO 35 (.mv (.t 8))),
    (iO 4 (.mv (.t 35)))]))))))
  (.region [(iO 17 (.mv (.t 6))),
    (iO 18 (.bin .add (.t 17) (nI 1))),
    (iO 6 (.mv (.t 18)))])))
noncomputable def z49u0t (k n : Nat) (d : z49u0p.D) : Option (XD z49u0x) := strings_Fieldsu0 k n d.1 d.2.1 d.2.2.1 d.2.2.2.1 d.2.2.2.2
theorem z49u0_k (k : Nat) : UOK P GL (mkU z49u0p z49u0x (z49u0t k k) nilU) z49u0d true z49u0b :=
  loop_typed (ud := z49u0d) (body := z49u0b) (uorc := uorT (z49U0 k)) hmo (T46_ok k).oo (z49U0_k k) (AllU.no (by kernel_rfl)) (t := z49u0t k) (fun d => by kernel_rfl) (fun n d => by kernel_rfl) k
noncomputable def z49U1 (k : Nat) : List (Nat × Ent) := (0, ⟨mkU z49u0p z49u0x (z49u0t k k) nilU⟩) :: z49U0 k
theorem z49U1_k (k : Nat) : UTab (z49U1 k) := (z49U0_k k).cons (mkU_nat nilU_nat)
noncomputable def z49u1d : UDef := ⟨[(0, none), (12, none)], [12, 42, 43, 44, 45, 46, 47, 48, 49, 50, 51, 52, 53, 54, 55], [((.exit 2), [(12, none)])], []⟩
noncomputable def z49u1p : XPat := ⟨.normal, [(.tv .str), (.tv (.int .i64))], []⟩
noncomputable def z49u1x : List XPat := [⟨(.exit 2), [(.tv (.int .i64))], []⟩]
noncomputable def strings_Fieldsu1 (k : Nat) : Nat → (List UInt8) → (Int) → Option (Int)
  | 0, _, _ => none
  | n + 1, x0, x1 =>
    bif (decide (x1 < ((List.length x0 : Nat) : Int))) then
      bif (inR x1 (List.length x0)) then
        bif (inR ((UInt8.toNat (List.getD x0 (Int.toNat x1) 0) : Nat) : Int) 256) then
          bif (!(decide ((List.getD tbl3 (Int.toNat ((UInt8.toNat (List.getD x0 (Int.toNat x1) 0) : Nat) : Int)) 0) = 0))) then
            Option.bind (strings_Fieldsu1 k n x0 (wr .i64 (x1 + 1))) fun r => some r
          else
          some x1
        else
          none
      else
        none
    else
    some x1
noncomputable def z49u1b : AC :=
  (.seq (.seq (.region [(iO 42 (.mv (.t 12))),
    (iO 43 (.mv (.t 0))),
    (iO 44 (.lens (.t 43))),
    (iO 45 (.bin .lss (.t 42) (.t 44))),
    (iO 46 (.mv (.t 45))),
    ⟨some 47, some (4, 46, true), (.op (.mv (.t 0))), []⟩,
    ⟨some 48, some (4, 46, true), (.op (.mv (.t 12))), []⟩,
    ⟨some 49, some (4, 46, true), (.op (.ixs (.t 47) (.t 48))), []⟩,
    ⟨some 50, some (4, 46, true), (.op (.iad 256 1 (.g 3) (.t 49))), []⟩,
    ⟨some 51, some (4, 46, true), (.op (.load false 1 (.t 50))), []⟩,
    ⟨some 52, some (4, 46, true), (.op (.bin .neq (.t 51) (.c (.tv (.int .u8) (0 : Int))))), []⟩,
    (iO 53 (.pick (.t 46) (.t 52) (.c (.tv .bool (false : Bool)))))])
  (.cond (.t 53)
  .skip
  (.exit 2)))
  (.block 3 (.region [(iO 54 (.mv (.t 12))),
    (iO 55 (.bin .add (.t 54) (nI 1))),
    (iO 12 (.mv (.t 55)))])))
noncomputable def z49u1t (k n : Nat) (d : z49u1p.D) : Option (XD z49u1x) := strings_Fieldsu1 k n d.1 d.2
theorem z49u1_k (k : Nat) : UOK P GL (mkU z49u1p z49u1x (z49u1t k k) nilU) z49u1d true z49u1b :=
  loop_typed (ud := z49u1d) (body := z49u1b) (uorc := uorT (z49U1 k)) hmo (T46_ok k).oo (z49U1_k k) (AllU.no (by kernel_rfl)) (t := z49u1t k) (fun d => by kernel_rfl) (fun n d => by kernel_rfl) k
noncomputable def z49U2 (k : Nat) : List (Nat × Ent) := (1, ⟨mkU z49u1p z49u1x (z49u1t k k) nilU⟩) :: z49U1 k
theorem z49U2_k (k : Nat) : UTab (z49U2 k) := (z49U1_k k).cons (mkU_nat nilU_nat)
noncomputable def z49u2d : UDef := ⟨[(0, none), (12, none)], [12, 80, 81, 82, 83, 84, 85, 86, 87, 88, 89, 90, 91, 92, 93], [((.exit 6), [(12, none)])], []⟩
noncomputable def z49u2p : XPat := ⟨.normal, [(.tv .str), (.tv (.int .i64))], []⟩
noncomputable def z49u2x : List XPat := [⟨(.exit 6), [(.tv (.int .i64))], []⟩]
noncomputable def strings_Fieldsu2 (k : Nat) : Nat → (List UInt8) → (Int) → Option (Int)
  | 0, _, _ => none
  | n + 1, x0, x1 =>
    bif (decide (x1 < ((List.length x0 : Nat) : Int))) then
      bif (inR x1 (List.length x0)) then
        bif (inR ((UInt8.toNat (List.getD x0 (Int.toNat x1) 0) : Nat) : Int) 256) then
          bif (!(decide ((List.getD tbl3 (Int.toNat ((UInt8.toNat (List.getD x0 (Int.toNat x1) 0) : Nat) : Int)) 0) = 0))) then
            Option.bind (strings_Fieldsu2 k n x0 (wr .i64 (x1 + 1))) fun r => some r
          else
          some x1
        else
          none
      else
        none
    else
    some x1
noncomputable def z49u2b : AC :=
  (.seq (.seq (.region [(iO 80 (.mv (.t 12))),
    (iO 81 (.mv (.t 0))),
    (iO 82 (.lens (.t 81))),
    (iO 83 (.bin .lss (.t 80) (.t 82))),
    (iO 84 (.mv (.t 83))),
    ⟨some 85, some (4, 84, true), (.op (.mv (.t 0))), []⟩,
    ⟨some 86, some (4, 84, true), (.op (.mv (.t 12))), []⟩,
    ⟨some 87, some (4, 84, true), (.op (.ixs (.t 85) (.t 86))), []⟩,
    ⟨some 88, some (4, 84, true), (.op (.iad 256 1 (.g 3) (.t 87))), []⟩,
    ⟨some 89, some (4, 84, true), (.op (.load false 1 (.t 88))), []⟩,
    ⟨some 90, some (4, 84, true), (.op (.bin .neq (.t 89) (.c (.tv (.int .u8) (0 : Int))))), []⟩,
    (iO 91 (.pick (.t 84) (.t 90) (.c (.tv .bool (false : Bool)))))])
  (.cond (.t 91)
  .skip
  (.exit 6)))
  (.block 7 (.region [(iO 92 (.mv (.t 12))),
    (iO 93 (.bin .add (.t 92) (nI 1))),
    (iO 12 (.mv (.t 93)))])))
noncomputable def z49u2t (k n : Nat) (d : z49u2p.D) : Option (XD z49u2x) := strings_Fieldsu2 k n d.1 d.2
theorem z49u2_k (k : Nat) : UOK P GL (mkU z49u2p z49u2x (z49u2t k k) nilU) z49u2d true z49u2b :=
  loop_typed (ud := z49u2d) (body := z49u2b) (uorc := uorT (z49U2 k)) hmo (T46_ok k).oo (z49U2_k k) (AllU.no (by kernel_rfl)) (t := z49u2t k) (fun d => by kernel_rfl) (fun n d => by kernel_rfl) k
noncomputable def z49U3 (k : Nat) : List (Nat × Ent) := (2, ⟨mkU z49u2p z49u2x (z49u2t k k) nilU⟩) :: z49U2 k
theorem z49U3_k (k : Nat) : UTab (z49U3 k) := (z49U2_k k).cons (mkU_nat nilU_nat)
noncomputable def z49u3d : UDef := ⟨[(0, none), (9, none), (10, none), (11, none), (12, none)], [10, 11, 12, 57, 58, 59, 60, 61, 62, 63, 64, 65, 66, 67, 68, 69, 70, 71, 72, 73, 74, 75, 76, 77, 78, 79, 80, 81, 82, 83, 84, 85, 86, 87, 88, 89, 90, 91, 92, 93, 94], [((.exit 4), [(9, none), (10, none), (11, none)])], []⟩
noncomputable def z49u3p : XPat := ⟨.normal, [(.tv .str), (.row 0), (.tv (.int .i64)), (.tv (.int .i64)), (.tv (.int .i64))], [(.row .str false)]⟩
noncomputable def z49u3x : List XPat := [⟨(.exit 4), [(.row 0), (.tv (.int .i64)), (.tv (.int .i64))], [(.row .str false)]⟩]
noncomputable def strings_Fieldsu3 (k : Nat) : Nat → (List UInt8) → (Int) → (Int) → (Int) → (List (List UInt8)) → Option (((Unit) × ((Int) × (Int))) × (List (List UInt8)))
  | 0, _, _, _, _, _ => none
  | n + 1, x0, x1, x2, x3, x4 =>
    bif (decide (x3 < ((List.length x0 : Nat) : Int))) then
      bif (inR x3 (List.length x0)) then
        bif (inR ((UInt8.toNat (List.getD x0 (Int.toNat x3) 0) : Nat) : Int) 256) then
          bif (decide ((List.getD tbl3 (Int.toNat ((UInt8.toNat (List.getD x0 (Int.toNat x3) 0) : Nat) : Int)) 0) = 0)) then
            Option.bind (strings_Fieldsu3 k n x0 x1 x2 (wr .i64 (x3 + 1)) x4) fun r => some r
          else
          bif (decide ((0 : Int) ≤ x2 ∧ x2 ≤ x3 ∧ x3 ≤ (((List.length x0) : Nat) : Int))) then
            bif (inR x1 (List.length x4)) then
              Option.bind (strings_Fieldsu2 k k x0 (wr .i64 (x3 + 1))) fun (v197 : Int) =>
              Option.bind (strings_Fieldsu3 k n x0 (wr .i64 (x1 + 1)) v197 v197 (List.set x4 (Int.toNat x1) (List.drop (Int.toNat x2) (List.take (Int.toNat x3) x0)))) fun r => some r
            else
              none
          else
            none
        else
          none
      else
        none
    else
    some (((), (x1, x2)), x4)
noncomputable def z49u3b : AC :=
  (.seq (.seq (.region [(iO 57 (.mv (.t 12))),
    (iO 58 (.mv (.t 0))),
    (iO 59 (.lens (.t 58))),
    (iO 60 (.bin .lss (.t 57) (.t 59)))])
  (.cond (.t 60)
  .skip
  (.exit 4)))
  (.block 5 (.seq (.seq (.region [(iO 61 (.mv (.t 0))),
    (iO 62 (.mv (.t 12))),
    (iO 63 (.ixs (.t 61) (.t 62))),
    (iO 64 (.iad 256 1 (.g 3) (.t 63))),
    (iO 65 (.load false 1 (.t 64))),
    (iO 66 (.bin .eql (.t 65) (.c (.tv (.int .u8) (0 : Int)))))])
  (.cond (.t 66)
  (.seq (.region [(iO 67 (.mv (.t 12))),
      (iO 68 (.bin .add (.t 67) (nI 1))),
      (iO 12 (.mv (.t 68)))])
    (.exit 5))
  .skip))
  (.seq (.region [(iO 69 (.mv (.t 9))),
    (iO 70 (.mv (.t 10))),
    (iO 71 (.mv (.t 0))),
    (iO 72 (.mv (.t 11))),
    (iO 73 (.mv (.t 12))),
    (iO 74 (.slis (.t 71) (some (.t 72)) (some (.t 73)))),
    (iO 75 (.iads .str (.t 69) (.t 70))),
    (iS (.store 1 none (.t 75) (.t 74)))])
  (.seq (.region [(iO 76 (.mv (.t 10))),
    (iO 77 (.bin .add (.t 76) (nI 1))),
    (iO 10 (.mv (.t 77)))])
  (.seq (.region [(iO 78 (.mv (.t 12))),
    (iO 79 (.bin .add (.t 78) (nI 1))),
    (iO 12 (.mv (.t 79)))])
  (.seq (.block 6 (.unit 2 z49u2d true z49u2b))
  (.region [(iO 94 (.mv (.t 12))),
    (iO 11 (.mv (.t 94)))]))))))))
noncomputable def z49u3t (k n : Nat) (d : z49u3p.D) : Option (XD z49u3x) := strings_Fieldsu3 k n d.1.1 d.1.2.2.1 d.1.2.2.2.1 d.1.2.2.2.2 d.2
theorem z49u3_k (k : Nat) : UOK P GL (mkU z49u3p z49u3x (z49u3t k k) nilU) z49u3d true z49u3b :=
  loop_typed (ud := z49u3d) (body := z49u3b) (uorc := uorT (z49U3 k)) hmo (T46_ok k).oo (z49U3_k k) (AllU.seq (AllU.no (by kernel_rfl)) (AllU.block (AllU.seq (AllU.no (by kernel_rfl)) (AllU.seq (AllU.no (by kernel_rfl)) (AllU.seq (AllU.no (by kernel_rfl)) (AllU.seq (AllU.no (by kernel_rfl)) (AllU.seq (AllU.block (AllU.unit (uorc := uorT (z49U3 k)) (u := 2) (z49u2_k k))) (AllU.no (by kernel_rfl))))))))) (t := z49u3t k) (fun d => by kernel_rfl) (fun n d => by kernel_rfl) k
noncomputable def z49U4 (k : Nat) : List (Nat × Ent) := (3, ⟨mkU z49u3p z49u3x (z49u3t k k) nilU⟩) :: z49U3 k
theorem z49U4_k (k : Nat) : UTab (z49U4 k) := (z49U3_k k).cons (mkU_nat nilU_nat)
noncomputable def strings_Fields (k : Nat) (x0 : List UInt8) : Option (List (List UInt8)) :=
  Option.bind (strings_Fieldsu0 k k x0 0 1 0 0) fun (v194 : (Int) × (Int)) =>
  bif (decide ((128 : Int) ≤ v194.2)) then
    none
  else
  bif (decide ((0 : Int) ≤ v194.1 ∧ v194.1 ≤ v194.1 ∧ v194.1 ≤ ((rowMax : Nat) : Int))) then
    Option.bind (strings_Fieldsu1 k k x0 0) fun (v195 : Int) =>
    Option.bind (strings_Fieldsu3 k k x0 0 v195 v195 (List.replicate (Int.toNat v194.1) ([] : List UInt8))) fun (v198 : ((Unit) × ((Int) × (Int))) × (List (List UInt8))) =>
    bif (decide (v198.1.2.2 < ((List.length x0 : Nat) : Int))) then
      bif (decide ((0 : Int) ≤ v198.1.2.2 ∧ v198.1.2.2 ≤ (((List.length x0) : Nat) : Int))) then
        bif (inR v198.1.2.1 (List.length v198.2)) then
          some (List.set v198.2 (Int.toNat v198.1.2.1) (List.drop (Int.toNat v198.1.2.2) (List.take (List.length x0) x0)))
        else
          none
      else
        none
    else
    some v198.2
  else
    none
noncomputable def z49b : AC :=
  (.seq (.region [(iO 2 (.nrow .str))])
  (.seq (.region [(iO 3 (.mv (nI 0)))])
  (.seq (.region [(iO 4 (.mv (nI 1)))])
  (.seq (.region [(iO 5 (.mv (.c (.tv (.int .u8) (0 : Int)))))])
  (.seq (.seq (.region [(iO 6 (.mv (nI 0)))])
  (.block 0 (.unit 0 z49u0d true z49u0b)))
  (.seq (.seq (.region [(iO 36 (.mv (.t 5))),
    (iO 37 (.bin .geq (.t 36) (.c (.tv (.int .u8) (128 : Int)))))])
  (.cond (.t 37)
  (.seq (.region [(iO 38 (.mv (.t 0))),
      (iO 39 .bad),
      (iO 2 .bad)])
    .ret)
  .skip))
  (.seq (.region [(iO 40 (.mv (.t 3))),
    (iO 41 (.mkslice .str (.t 40) (.t 40))),
    (iO 9 (.mv (.t 41)))])
  (.seq (.region [(iO 10 (.mv (nI 0)))])
  (.seq (.region [(iO 11 (.mv (nI 0)))])
  (.seq (.region [(iO 12 (.mv (nI 0)))])
  (.seq (.block 2 (.unit 1 z49u1d true z49u1b))
  (.seq (.region [(iO 56 (.mv (.t 12))),
    (iO 11 (.mv (.t 56)))])
  (.seq (.block 4 (.unit 3 z49u3d true z49u3b))
  (.seq (.seq (.region [(iO 95 (.mv (.t 11))),
    (iO 96 (.mv (.t 0))),
    (iO 97 (.lens (.t 96))),
    (iO 98 (.bin .lss (.t 95) (.t 97)))])
  (.cond (.t 98)
  (.region [(iO 99 (.mv (.t 9))),
      (iO 100 (.mv (.t 10))),
      (iO 101 (.mv (.t 0))),
      (iO 102 (.mv (.t 11))),
      (iO 103 (.slis (.t 101) (some (.t 102)) none)),
      (iO 104 (.iads .str (.t 99) (.t 100))),
      (iS (.store 1 none (.t 104) (.t 103)))])
  .skip))
  (.seq (.region [(iO 105 (.mv (.t 9))),
    (iO 2 (.mv (.t 105)))])
  .ret)))))))))))))))
noncomputable def z49f : FDef := ⟨1, 106, [.tmp 2 (some (.sl .str))], z49b⟩
noncomputable def z49p : XPat := ⟨.normal, [(.tv .str)], []⟩
noncomputable def z49x : List XPat := [⟨.ret, [(.tv (.sl .str))], []⟩]
noncomputable def z49t (k : Nat) (d : z49p.D) : Option (XD z49x) := strings_Fields k d
noncomputable def z49_e (k : Nat) : UEntry := mkU z49p z49x (z49t k) nilU
theorem z49_n (k : Nat) : UNat (z49_e k) := mkU_nat nilU_nat
theorem z49_fu (k : Nat) : FU P GL 93 (z49_e k) :=
  fn_typed (uorc := uorT (z49U4 k)) hmo (T46_ok k).oo (z49U4_k k) (fd := z49f) (AllU.seq (AllU.no (by kernel_rfl)) (AllU.seq (AllU.no (by kernel_rfl)) (AllU.seq (AllU.no (by kernel_rfl)) (AllU.seq (AllU.no (by kernel_rfl)) (AllU.seq (AllU.seq (AllU.no (by kernel_rfl)) (AllU.block (AllU.unit (uorc := uorT (z49U4 k)) (u := 0) (z49u0_k k)))) (AllU.seq (AllU.no (by kernel_rfl)) (AllU.seq (AllU.no (by kernel_rfl)) (AllU.seq (AllU.no (by kernel_rfl)) (AllU.seq (AllU.no (by kernel_rfl)) (AllU.seq (AllU.no (by kernel_rfl)) (AllU.seq (AllU.block (AllU.unit (uorc := uorT (z49U4 k)) (u := 1) (z49u1_k k))) (AllU.seq (AllU.no (by kernel_rfl)) (AllU.seq (AllU.block (AllU.unit (uorc := uorT (z49U4 k)) (u := 3) (z49u3_k k))) (AllU.no (by kernel_rfl))))))))))))))) (fn := Tryz.f93) (by kernel_rfl) (by kernel_rfl) (fun d => by kernel_rfl) FU_nil
noncomputable def T47 (k : Nat) : List (Nat × Ent) := (93, ⟨z49_e k⟩) :: T46 k
theorem T47_ok (k : Nat) : TabOK P GL (T47 k) := (T46_ok k).cons (z49_fu k) (z49_n k)
/-! ### overspill.mcbpc.Row -/
noncomputable def z50U0 (_ : Nat) : List (Nat × Ent) := []
theorem z50U0_k (k : Nat) : UTab (z50U0 k) := UTab.nil
noncomputable def z50u0d : UDef := ⟨[(2, none), (8, none)], [13, 14, 15, 16, 17, 18, 19, 20], [(.normal, [(20, none)])], []⟩
noncomputable def z50u0p : XPat := ⟨.normal, [(.tv (.int .i64)), (.tv (.sl .str))], []⟩
noncomputable def z50u0x : List XPat := [⟨.normal, [(.tv .bool)], []⟩]
noncomputable def mcbpc_Rowu0 (k : Nat) (x0 : Int) (x1 : List (List UInt8)) : Option (Bool) :=
  bif (decide (x0 < 0)) then
    some true
  else
  some (decide (((List.length x1 : Nat) : Int) ≤ x0))
noncomputable def z50u0b : AC :=
  (.region [(iO 13 (.mv (.t 2))),
    (iO 14 (.bin .lss (.t 13) (nI 0))),
    (iO 15 (.mv (.t 14))),
    ⟨some 16, some (2, 15, false), (.op (.mv (.t 2))), []⟩,
    ⟨some 17, some (2, 15, false), (.op (.mv (.t 8))), []⟩,
    ⟨some 18, some (2, 15, false), (.op (.len (.t 17))), []⟩,
    ⟨some 19, some (2, 15, false), (.op (.bin .geq (.t 16) (.t 18))), []⟩,
    (iO 20 (.pick (.t 15) (.c (.tv .bool (true : Bool))) (.t 19)))])
noncomputable def z50u0t (k : Nat) (d : z50u0p.D) : Option (XD z50u0x) := mcbpc_Rowu0 k d.1 d.2
theorem z50u0_k (k : Nat) : UOK P GL (mkU z50u0p z50u0x (z50u0t k) nilU) z50u0d false z50u0b :=
  unit_typed (ud := z50u0d) (body := z50u0b) (uorc := uorT (z50U0 k)) hmo (T47_ok k).oo (z50U0_k k) (AllU.no (by kernel_rfl)) (fun d => by kernel_rfl)
noncomputable def z50U1 (k : Nat) : List (Nat × Ent) := (0, ⟨mkU z50u0p z50u0x (z50u0t k) nilU⟩) :: z50U0 k
theorem z50U1_k (k : Nat) : UTab (z50U1 k) := (z50U0_k k).cons (mkU_nat nilU_nat)
noncomputable def mcbpc_Row (k : Nat) (x0 : Bool) (x1 : Int) (x2 : Int) : Option ((List UInt8) × ((Bool) × (Unit))) :=
  Option.bind (mcbpc_row k x0 x1) fun (v193 : List UInt8) =>
  Option.bind (strings_Fields k v193) fun (v199 : List (List UInt8)) =>
  Option.bind (mcbpc_Rowu0 k x2 v199) fun (v200 : Bool) =>
  bif v200 then
    some (([] : List UInt8), (false, ()))
  else
  bif (inR x2 (List.length v199)) then
    some ((List.getD v199 (Int.toNat x2) ([] : List UInt8)), (true, ()))
  else
    none
noncomputable def z50b : AC :=
  (.seq (.region [(iO 6 (.mv (.c (.tv .str (([] : List UInt8) : List UInt8))))),
    (iO 7 (.mv (.c (.tv .bool (false : Bool)))))])
  (.seq (.region [(iO 9 (.mv (.t 0))),
    (iO 10 (.mv (.t 1))),
    (iC 11 94 [((.t 9), none), ((.t 10), none)]),
    (iC 12 93 [((.t 11), none)]),
    (iO 8 (.mv (.t 12)))])
  (.seq (.seq (.unit 0 z50u0d false z50u0b)
  (.cond (.t 20)
  (.seq (.region [(iO 6 (.mv (.c (.tv .str (([] : List UInt8) : List UInt8))))),
      (iO 7 (.mv (.c (.tv .bool (false : Bool)))))])
    .ret)
  .skip))
  (.seq (.region [(iO 21 (.mv (.t 8))),
    (iO 22 (.mv (.t 2))),
    (iO 23 (.iads .str (.t 21) (.t 22))),
    (iO 24 (.load false 1 (.t 23))),
    (iO 6 (.mv (.t 24))),
    (iO 7 (.mv (.c (.tv .bool (true : Bool)))))])
  .ret))))
noncomputable def z50f : FDef := ⟨3, 25, [.tmp 6 none, .tmp 7 none], z50b⟩
noncomputable def z50p : XPat := ⟨.normal, [(.tv .bool), (.tv (.int .i64)), (.tv (.int .i64))], []⟩
noncomputable def z50x : List XPat := [⟨.ret, [(.tup (.cons (.tv .str) (.cons (.tv .bool) .nil)))], []⟩]
noncomputable def z50t (k : Nat) (d : z50p.D) : Option (XD z50x) := mcbpc_Row k d.1 d.2.1 d.2.2
noncomputable def z50_e (k : Nat) : UEntry := mkU z50p z50x (z50t k) nilU
theorem z50_n (k : Nat) : UNat (z50_e k) := mkU_nat nilU_nat
theorem z50_fu (k : Nat) : FU P GL 79 (z50_e k) :=
  fn_typed (uorc := uorT (z50U1 k)) hmo (T47_ok k).oo (z50U1_k k) (fd := z50f) (AllU.seq (AllU.no (by kernel_rfl)) (AllU.seq (AllU.no (by kernel_rfl)) (AllU.seq (AllU.seq (AllU.unit (uorc := uorT (z50U1 k)) (u := 0) (z50u0_k k)) (AllU.no (by kernel_rfl))) (AllU.no (by kernel_rfl))))) (fn := Tryz.f79) (by kernel_rfl) (by kernel_rfl) (fun d => by kernel_rfl) FU_nil
noncomputable def T48 (k : Nat) : List (Nat × Ent) := (79, ⟨z50_e k⟩) :: T47 k
theorem T48_ok (k : Nat) : TabOK P GL (T48 k) := (T47_ok k).cons (z50_fu k) (z50_n k)
end Go.Proofs.YtlmajdbchmnhdaaGreatDoor
