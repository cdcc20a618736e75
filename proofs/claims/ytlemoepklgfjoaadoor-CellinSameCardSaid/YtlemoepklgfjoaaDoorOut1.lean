/-
  The functions of the program as typed functions; each is what the machine's call tells. Printed by a program of mine.
-/
import Derived.Test.YtlemoepklgfjoaaDoorA29
import Derived.Test.YtlemoepklgfjoaaDoorProg
set_option maxRecDepth 100000
namespace Go.Proofs.YtlemoepklgfjoaaDoor
open Go Go.Av

noncomputable abbrev P : Program := Tryd.prog
theorem hmo : P.follows .mixedOrders = true := by kernel_rfl
abbrev wr (k : IntKind) (x : Int) : Int := k.wrap x
def tbl0 : List Int := [1, 1, 1, 1, 3, 5, 4, 3, 11, 10, 9, 17, 16, 15, 14, 13, 12, 11, 10, 9, 8, 7, 6, 5, 4, 7, 6, 5, 4, 3, 2, 3, 2]
def tbl1 : List Int := [2, 15, 21, 23, 31, 37, 36, 33, 32, 7, 6, 32, 6, 20, 30, 15, 33, 80, 14, 29, 14, 81, 13, 35, 13, 12, 34, 82, 11, 12, 83, 19, 11, 84, 18, 10, 17, 9, 16, 8, 22, 85, 21, 20, 28, 27, 33, 32, 31, 30, 29, 28, 27, 26, 34, 35, 86, 87, 7, 25, 5, 15, 4, 14, 13, 12, 19, 18, 17, 16, 26, 25, 24, 23, 22, 21, 20, 19, 24, 23, 22, 21, 20, 19, 18, 17, 7, 6, 5, 4, 36, 37, 38, 39, 88, 89, 90, 91, 92, 93, 94, 95]
def tbl2 : List Int := [2, 4, 6, 7, 8, 9, 9, 10, 10, 11, 11, 11, 3, 6, 8, 10, 11, 12, 4, 8, 10, 12, 5, 9, 10, 5, 9, 12, 5, 10, 12, 6, 10, 12, 6, 10, 6, 10, 6, 10, 7, 12, 7, 7, 8, 8, 9, 9, 9, 9, 9, 9, 9, 9, 11, 11, 12, 12, 4, 9, 11, 6, 11, 6, 6, 6, 7, 7, 7, 7, 8, 8, 8, 8, 8, 8, 8, 8, 9, 9, 9, 9, 9, 9, 9, 9, 10, 10, 10, 10, 11, 11, 11, 11, 12, 12, 12, 12, 12, 12, 12, 12]
def tbl3 : List Int := [0, 0, 0, 0, 0, 0, 0, 0, 0, 1, 1, 1, 1, 1, 0, 0, 0, 0, 0, 0, 0, 0, 0, 0, 0, 0, 0, 0, 0, 0, 0, 0, 1, 0, 0, 0, 0, 0, 0, 0, 0, 0, 0, 0, 0, 0, 0, 0, 0, 0, 0, 0, 0, 0, 0, 0, 0, 0, 0, 0, 0, 0, 0, 0, 0, 0, 0, 0, 0, 0, 0, 0, 0, 0, 0, 0, 0, 0, 0, 0, 0, 0, 0, 0, 0, 0, 0, 0, 0, 0, 0, 0, 0, 0, 0, 0, 0, 0, 0, 0, 0, 0, 0, 0, 0, 0, 0, 0, 0, 0, 0, 0, 0, 0, 0, 0, 0, 0, 0, 0, 0, 0, 0, 0, 0, 0, 0, 0, 0, 0, 0, 0, 0, 0, 0, 0, 0, 0, 0, 0, 0, 0, 0, 0, 0, 0, 0, 0, 0, 0, 0, 0, 0, 0, 0, 0, 0, 0, 0, 0, 0, 0, 0, 0, 0, 0, 0, 0, 0, 0, 0, 0, 0, 0, 0, 0, 0, 0, 0, 0, 0, 0, 0, 0, 0, 0, 0, 0, 0, 0, 0, 0, 0, 0, 0, 0, 0, 0, 0, 0, 0, 0, 0, 0, 0, 0, 0, 0, 0, 0, 0, 0, 0, 0, 0, 0, 0, 0, 0, 0, 0, 0, 0, 0, 0, 0, 0, 0, 0, 0, 0, 0, 0, 0, 0, 0, 0, 0, 0, 0, 0, 0, 0, 0, 0, 0, 0, 0, 0, 0, 0, 0, 0, 0, 0, 0]
noncomputable def GL : Nat → AV := fun n => bif Nat.beq n 0 then .fp (.arr 33 (.int .i64)) tbl0 else bif Nat.beq n 1 then .fp (.arr 102 (.int .i64)) tbl1 else bif Nat.beq n 2 then .fp (.arr 102 (.int .i64)) tbl2 else bif Nat.beq n 3 then .fp (.arr 256 (.int .u8)) tbl3 else .dead
noncomputable def T0 (_ : Nat) : List (Nat × Ent) := []
theorem T0_ok (k : Nat) : TabOK P GL (T0 k) := TabOK.nil
abbrev YReader : Ty := (.pr .str (.pr (.int .i64) .nil))
abbrev DReader : Type := (List UInt8) × Int × Unit
/-! ### overspill.inbits.New -/
noncomputable def inbits_New_U0 (_ : Nat) : List (Nat × Ent) := []
theorem inbits_New_U0_ok (k : Nat) : UTab (inbits_New_U0 k) := UTab.nil
noncomputable def inbits_New (k : Nat) (x0 : List UInt8) : Option ((Unit) × (DReader)) :=
  some ((), (x0, (0, ())))
noncomputable def inbits_New_b : AC :=
  (.seq (.region [⟨some 2, none, (.op (.mv (.c .nilp))), []⟩])
  (.seq (.region [⟨some 3, none, (.op (.mv (.t 0))), []⟩,
    ⟨some 4, none, (.op (.build 55 (.tv YReader) [(0, (.fld 0 0), 1, (.t 3))])), []⟩,
    ⟨some 5, none, (.op (.box (.t 4))), []⟩,
    ⟨some 2, none, (.op (.mv (.t 5))), []⟩])
  .ret))
noncomputable def inbits_New_f : FDef := ⟨1, 6, [.tmp 2 none], inbits_New_b⟩
noncomputable def inbits_New_p : XPat := ⟨.normal, [(.tv .str)], []⟩
noncomputable def inbits_New_x : List XPat := [⟨.ret, [(.ptr 0 [])], [(.box (.tv YReader))]⟩]
noncomputable def inbits_New_t (k : Nat) (d : inbits_New_p.D) : Option (XD inbits_New_x) := inbits_New k d
noncomputable def inbits_New_e (k : Nat) : UEntry := mkU inbits_New_p inbits_New_x (inbits_New_t k) nilU
theorem inbits_New_n (k : Nat) : UNat (inbits_New_e k) := mkU_nat nilU_nat
theorem inbits_New_m : mfn P inbits_New_f Tryd.f7 = true := by kernel_rfl
theorem inbits_New_fu (k : Nat) : FU P GL 7 (inbits_New_e k) :=
  fn_typed (uorc := uorT (inbits_New_U0 k)) hmo (T0_ok k).oo (inbits_New_U0_ok k) (fd := inbits_New_f) (AllU.no (by kernel_rfl)) (fn := Tryd.f7) (by kernel_rfl) inbits_New_m (fun d => by kernel_rfl) FU_nil
noncomputable def T1 (k : Nat) : List (Nat × Ent) := (7, ⟨inbits_New_e k⟩) :: T0 k
theorem T1_ok (k : Nat) : TabOK P GL (T1 k) := (T0_ok k).cons (inbits_New_fu k) (inbits_New_n k)
abbrev YEvent : Ty := (.pr .bool (.pr (.int .i64) (.pr (.int .i64) .nil)))
abbrev YCell : Ty := (.pr (.int .i64) (.pr .bool (.pr (.int .i64) (.pr (.int .i64) (.pr (.arr 2 (.int .i64)) (.pr (.arr 6 (.int .i64)) (.pr (.arr 6 (.sl YEvent)) .nil)))))))
/-! ### (*overspill.inbits.Reader).At -/
noncomputable def inbits_Reader_At_U0 (_ : Nat) : List (Nat × Ent) := []
theorem inbits_Reader_At_U0_ok (k : Nat) : UTab (inbits_Reader_At_U0 k) := UTab.nil
noncomputable def inbits_Reader_At (k : Nat) (x0 : DReader) : Option ((Int) × (DReader)) :=
  some (x0.2.1, x0)
noncomputable def inbits_Reader_At_b : AC :=
  (.seq (.region [⟨some 2, none, (.op (.mv (.c (.tv (.int .i64) (0 : Int))))), []⟩])
  (.seq (.seq (.region [⟨some 3, none, (.op (.mv (.t 0))), []⟩,
    ⟨some 4, none, (.op (.eqp false (.t 3) (.c .nilp))), []⟩])
  (.cond (.t 4)
  (.seq (.region [⟨some 2, none, .op .bad, []⟩])
    .ret)
  .skip))
  (.seq (.region [⟨some 5, none, (.op (.mv (.t 0))), []⟩,
    ⟨some 6, none, (.op (.nilc (.t 5))), []⟩,
    ⟨some 7, none, (.op (.fad 1 1 (.t 6))), []⟩,
    ⟨some 8, none, (.op (.load false 1 (.t 7))), []⟩,
    ⟨some 2, none, (.op (.mv (.t 8))), []⟩])
  .ret)))
noncomputable def inbits_Reader_At_f : FDef := ⟨1, 9, [.tmp 2 none], inbits_Reader_At_b⟩
noncomputable def inbits_Reader_At_p : XPat := ⟨.normal, [(.ptr 0 [])], [(.box (.tv YReader))]⟩
noncomputable def inbits_Reader_At_x : List XPat := [⟨.ret, [(.tv (.int .i64))], [(.box (.tv YReader))]⟩]
noncomputable def inbits_Reader_At_t (k : Nat) (d : inbits_Reader_At_p.D) : Option (XD inbits_Reader_At_x) := inbits_Reader_At k d.2
noncomputable def inbits_Reader_At_e (k : Nat) : UEntry := mkU inbits_Reader_At_p inbits_Reader_At_x (inbits_Reader_At_t k) nilU
theorem inbits_Reader_At_n (k : Nat) : UNat (inbits_Reader_At_e k) := mkU_nat nilU_nat
theorem inbits_Reader_At_m : mfn P inbits_Reader_At_f Tryd.f14 = true := by kernel_rfl
theorem inbits_Reader_At_fu (k : Nat) : FU P GL 14 (inbits_Reader_At_e k) :=
  fn_typed (uorc := uorT (inbits_Reader_At_U0 k)) hmo (T1_ok k).oo (inbits_Reader_At_U0_ok k) (fd := inbits_Reader_At_f) (AllU.no (by kernel_rfl)) (fn := Tryd.f14) (by kernel_rfl) inbits_Reader_At_m (fun d => by kernel_rfl) FU_nil
noncomputable def T2 (k : Nat) : List (Nat × Ent) := (14, ⟨inbits_Reader_At_e k⟩) :: T1 k
theorem T2_ok (k : Nat) : TabOK P GL (T2 k) := (T1_ok k).cons (inbits_Reader_At_fu k) (inbits_Reader_At_n k)
/-! ### (*overspill.inbits.Reader).Peek -/
noncomputable def inbits_Reader_Peek_U0 (_ : Nat) : List (Nat × Ent) := []
theorem inbits_Reader_Peek_U0_ok (k : Nat) : UTab (inbits_Reader_Peek_U0 k) := UTab.nil
noncomputable def inbits_Reader_Peeku0_d : UDef := ⟨[(1, none), (9, none)], [9, 12, 13, 14, 15], [(.normal, [(9, none)])], []⟩
noncomputable def inbits_Reader_Peeku0_p : XPat := ⟨.normal, [(.tv (.int .i64)), (.tv .bool)], []⟩
noncomputable def inbits_Reader_Peeku0_x : List XPat := [⟨.normal, [(.tv .bool)], []⟩]
noncomputable def inbits_Reader_Peeku0 (k : Nat) (x0 : Int) (x1 : Bool) : Option (Bool) :=
  bif x1 then
    some x1
  else
  bif (decide (x0 < 0)) then
    some (decide (x0 < 0))
  else
  some (decide ((32 : Int) < x0))
noncomputable def inbits_Reader_Peeku0_b : AC :=
  (.cond (.t 9)
  .skip
  (.seq (.region [⟨some 12, none, (.op (.mv (.t 1))), []⟩,
      ⟨some 13, none, (.op (.bin .lss (.t 12) (.c (.tv (.int .i64) (0 : Int))))), []⟩,
      ⟨some 9, none, (.op (.mv (.t 13))), []⟩])
    (.cond (.t 9)
    .skip
    (.region [⟨some 14, none, (.op (.mv (.t 1))), []⟩,
        ⟨some 15, none, (.op (.bin .gtr (.t 14) (.c (.tv (.int .i64) (32 : Int))))), []⟩,
        ⟨some 9, none, (.op (.mv (.t 15))), []⟩]))))
noncomputable def inbits_Reader_Peeku0_t (k : Nat) (d : inbits_Reader_Peeku0_p.D) : Option (XD inbits_Reader_Peeku0_x) := inbits_Reader_Peeku0 k d.1 d.2
theorem inbits_Reader_Peeku0_ok (k : Nat) : UOK P GL (mkU inbits_Reader_Peeku0_p inbits_Reader_Peeku0_x (inbits_Reader_Peeku0_t k) nilU) inbits_Reader_Peeku0_d false inbits_Reader_Peeku0_b :=
  unit_typed (ud := inbits_Reader_Peeku0_d) (body := inbits_Reader_Peeku0_b) (uorc := uorT (inbits_Reader_Peek_U0 k)) hmo (T2_ok k).oo (inbits_Reader_Peek_U0_ok k) (AllU.no (by kernel_rfl)) (fun d => by kernel_rfl)
noncomputable def inbits_Reader_Peek_U1 (k : Nat) : List (Nat × Ent) := (0, ⟨mkU inbits_Reader_Peeku0_p inbits_Reader_Peeku0_x (inbits_Reader_Peeku0_t k) nilU⟩) :: inbits_Reader_Peek_U0 k
theorem inbits_Reader_Peek_U1_ok (k : Nat) : UTab (inbits_Reader_Peek_U1 k) := (inbits_Reader_Peek_U0_ok k).cons (mkU_nat nilU_nat)
noncomputable def inbits_Reader_Peeku1_d : UDef := ⟨[(0, none), (6, none), (30, none), (31, none)], [6, 7, 8, 31, 32, 33, 34, 35, 36, 37, 38, 39, 40, 41, 42, 43, 44, 45, 46, 47, 48, 49, 50, 51, 52, 53, 54, 55, 56, 57], [((.exit 1), [(6, none)])], []⟩
noncomputable def inbits_Reader_Peeku1_p : XPat := ⟨.normal, [(.ptr 0 []), (.tv (.int .i64)), (.tv (.int .i64)), (.tv (.int .i64))], [(.box (.tv YReader))]⟩
noncomputable def inbits_Reader_Peeku1_x : List XPat := [⟨(.exit 1), [(.tv (.int .i64))], [(.box (.tv YReader))]⟩]
noncomputable def inbits_Reader_Peeku1 (k : Nat) : Nat → (Int) → (Int) → (Int) → (DReader) → Option ((Int) × (DReader))
  | 0, _, _, _, _ => none
  | n + 1, x0, x1, x2, x3 =>
    bif (decide (x2 < x1)) then
      bif (inR (wr .i64 (Int.tdiv (wr .i64 (x3.2.1 + x2)) 8)) (List.length x3.1)) then
        bif (decide ((wr .u64 (wr .i64 (7 - (Int.tmod (wr .i64 (x3.2.1 + x2)) 8)))) < 0)) then
          none
        else
        Option.bind (inbits_Reader_Peeku1 k n (bitop .or .i64 (shlI .i64 x0 1) (wr .i64 (bitop .and .u8 (shrI .u8 ((UInt8.toNat (List.getD x3.1 (Int.toNat (wr .i64 (Int.tdiv (wr .i64 (x3.2.1 + x2)) 8))) 0) : Nat) : Int) (wr .u64 (wr .i64 (7 - (Int.tmod (wr .i64 (x3.2.1 + x2)) 8))))) 1))) x1 (wr .i64 (x2 + 1)) x3) fun r => some r
      else
        none
    else
    some (x0, x3)
noncomputable def inbits_Reader_Peeku1_b : AC :=
  (.seq (.region [⟨some 32, none, (.op (.bin .lss (.t 31) (.t 30))), []⟩])
  (.seq (.cond (.t 32)
  .skip
  (.exit 1))
  (.seq (.block 2 (.seq (.region [⟨some 33, none, (.op (.mv (.t 31))), []⟩,
    ⟨some 7, none, (.op (.mv (.t 33))), []⟩])
  (.seq (.region [⟨some 34, none, (.op (.mv (.t 0))), []⟩,
    ⟨some 35, none, (.op (.nilc (.t 34))), []⟩,
    ⟨some 36, none, (.op (.fad 1 1 (.t 35))), []⟩,
    ⟨some 37, none, (.op (.load false 1 (.t 36))), []⟩,
    ⟨some 38, none, (.op (.mv (.t 7))), []⟩,
    ⟨some 39, none, (.op (.bin .add (.t 37) (.t 38))), []⟩,
    ⟨some 8, none, (.op (.mv (.t 39))), []⟩])
  (.region [⟨some 40, none, (.op (.mv (.t 6))), []⟩,
    ⟨some 41, none, (.op (.bin .shl (.t 40) (.c (.tv (.int .u64) (1 : Int))))), []⟩,
    ⟨some 42, none, (.op (.mv (.t 0))), []⟩,
    ⟨some 43, none, (.op (.nilc (.t 42))), []⟩,
    ⟨some 44, none, (.op (.fad 0 0 (.t 43))), []⟩,
    ⟨some 45, none, (.op (.load false 1 (.t 44))), []⟩,
    ⟨some 46, none, (.op (.mv (.t 8))), []⟩,
    ⟨some 47, none, (.op (.bin .quo (.t 46) (.c (.tv (.int .i64) (8 : Int))))), []⟩,
    ⟨some 48, none, (.op (.ixs (.t 45) (.t 47))), []⟩,
    ⟨some 49, none, (.op (.mv (.t 8))), []⟩,
    ⟨some 50, none, (.op (.bin .rem (.t 49) (.c (.tv (.int .i64) (8 : Int))))), []⟩,
    ⟨some 51, none, (.op (.bin .sub (.c (.tv (.int .i64) (7 : Int))) (.t 50))), []⟩,
    ⟨some 52, none, (.op (.conv .u64 (.t 51))), []⟩,
    ⟨some 53, none, (.op (.bin .shr (.t 48) (.t 52))), []⟩,
    ⟨some 54, none, (.op (.bin .and (.t 53) (.c (.tv (.int .u8) (1 : Int))))), []⟩,
    ⟨some 55, none, (.op (.conv .i64 (.t 54))), []⟩,
    ⟨some 56, none, (.op (.bin .or (.t 41) (.t 55))), []⟩,
    ⟨some 6, none, (.op (.mv (.t 56))), []⟩]))))
  (.region [⟨some 57, none, (.op (.bin .add (.t 31) (.c (.tv (.int .i64) (1 : Int))))), []⟩,
    ⟨some 31, none, (.op (.mv (.t 57))), []⟩]))))
noncomputable def inbits_Reader_Peeku1_t (k n : Nat) (d : inbits_Reader_Peeku1_p.D) : Option (XD inbits_Reader_Peeku1_x) := inbits_Reader_Peeku1 k n d.1.2.1 d.1.2.2.1 d.1.2.2.2 d.2
theorem inbits_Reader_Peeku1_ok (k : Nat) : UOK P GL (mkU inbits_Reader_Peeku1_p inbits_Reader_Peeku1_x (inbits_Reader_Peeku1_t k k) nilU) inbits_Reader_Peeku1_d true inbits_Reader_Peeku1_b :=
  loop_typed (ud := inbits_Reader_Peeku1_d) (body := inbits_Reader_Peeku1_b) (uorc := uorT (inbits_Reader_Peek_U1 k)) hmo (T2_ok k).oo (inbits_Reader_Peek_U1_ok k) (AllU.no (by kernel_rfl)) (t := inbits_Reader_Peeku1_t k) (fun d => by kernel_rfl) (fun n d => by kernel_rfl) k
noncomputable def inbits_Reader_Peek_U2 (k : Nat) : List (Nat × Ent) := (1, ⟨mkU inbits_Reader_Peeku1_p inbits_Reader_Peeku1_x (inbits_Reader_Peeku1_t k k) nilU⟩) :: inbits_Reader_Peek_U1 k
theorem inbits_Reader_Peek_U2_ok (k : Nat) : UTab (inbits_Reader_Peek_U2 k) := (inbits_Reader_Peek_U1_ok k).cons (mkU_nat nilU_nat)
noncomputable def inbits_Reader_Peek (k : Nat) (x0 : Int) (x1 : DReader) : Option (((Int) × ((Int) × (Unit))) × (DReader)) :=
  Option.bind (inbits_Reader_Peeku0 k x0 false) fun (v4 : Bool) =>
  bif v4 then
    some ((0, (1, ())), x1)
  else
  bif (decide ((wr .i64 ((wr .i64 (8 * ((List.length x1.1 : Nat) : Int))) - x1.2.1)) < x0)) then
    some ((0, (2, ())), x1)
  else
  Option.bind (inbits_Reader_Peeku1 k k 0 x0 0 x1) fun (v5 : (Int) × (DReader)) =>
  some ((v5.1, (0, ())), v5.2)
noncomputable def inbits_Reader_Peek_b : AC :=
  (.seq (.region [⟨some 4, none, (.op (.mv (.c (.tv (.int .i64) (0 : Int))))), []⟩,
    ⟨some 5, none, (.op (.mv (.c (.tv (.int .i64) (0 : Int))))), []⟩])
  (.seq (.block 0 (.seq (.seq (.region [⟨some 10, none, (.op (.mv (.t 0))), []⟩,
    ⟨some 11, none, (.op (.eqp false (.t 10) (.c .nilp))), []⟩,
    ⟨some 9, none, (.op (.mv (.t 11))), []⟩])
  (.unit 0 inbits_Reader_Peeku0_d false inbits_Reader_Peeku0_b))
  (.cond (.t 9)
  (.seq (.region [⟨some 4, none, (.op (.mv (.c (.tv (.int .i64) (0 : Int))))), []⟩,
      ⟨some 5, none, (.op (.mv (.c (.tv (.int .i64) (1 : Int))))), []⟩])
    .ret)
  (.seq (.draw [⟨some 17, none, (.op (.mv (.t 1))), []⟩,
      ⟨some 18, none, (.op (.mv (.t 0))), []⟩,
      ⟨some 19, none, (.op (.nilc (.t 18))), [1]⟩,
      ⟨some 20, none, (.op (.fad 0 0 (.t 19))), [1, 2]⟩,
      ⟨some 21, none, (.op (.load false 1 (.t 20))), [1, 2, 3]⟩,
      ⟨some 22, none, (.op (.lens (.t 21))), [1, 2, 3, 4]⟩,
      ⟨some 23, none, (.op (.bin .mul (.c (.tv (.int .i64) (8 : Int))) (.t 22))), [1, 2, 3, 4, 5]⟩,
      ⟨some 24, none, (.op (.mv (.t 0))), []⟩,
      ⟨some 25, none, (.op (.nilc (.t 24))), [7]⟩,
      ⟨some 26, none, (.op (.fad 1 1 (.t 25))), [7, 8]⟩,
      ⟨some 27, none, (.op (.load false 1 (.t 26))), [7, 8, 9]⟩,
      ⟨some 28, none, (.op (.bin .sub (.t 23) (.t 27))), [1, 2, 3, 4, 5, 6, 7, 8, 9, 10]⟩,
      ⟨some 29, none, (.op (.bin .gtr (.t 17) (.t 28))), [0, 1, 2, 3, 4, 5, 6, 7, 8, 9, 10, 11]⟩,
      ⟨some 16, none, (.op (.mv (.t 29))), [0, 1, 2, 3, 4, 5, 6, 7, 8, 9, 10, 11, 12]⟩])
    (.cond (.t 16)
    (.seq (.region [⟨some 4, none, (.op (.mv (.c (.tv (.int .i64) (0 : Int))))), []⟩,
        ⟨some 5, none, (.op (.mv (.c (.tv (.int .i64) (2 : Int))))), []⟩])
      .ret)
    .skip)))))
  (.seq (.region [⟨some 6, none, (.op (.mv (.c (.tv (.int .i64) (0 : Int))))), []⟩])
  (.seq (.seq (.region [⟨some 30, none, (.op (.mv (.t 1))), []⟩,
    ⟨some 31, none, (.op (.mv (.c (.tv (.int .i64) (0 : Int))))), []⟩])
  (.block 1 (.unit 1 inbits_Reader_Peeku1_d true inbits_Reader_Peeku1_b)))
  (.seq (.region [⟨some 58, none, (.op (.mv (.t 6))), []⟩,
    ⟨some 4, none, (.op (.mv (.t 58))), []⟩,
    ⟨some 5, none, (.op (.mv (.c (.tv (.int .i64) (0 : Int))))), []⟩])
  .ret)))))
noncomputable def inbits_Reader_Peek_f : FDef := ⟨2, 59, [.tmp 4 none, .tmp 5 none], inbits_Reader_Peek_b⟩
noncomputable def inbits_Reader_Peek_p : XPat := ⟨.normal, [(.ptr 0 []), (.tv (.int .i64))], [(.box (.tv YReader))]⟩
noncomputable def inbits_Reader_Peek_x : List XPat := [⟨.ret, [(.tup (.cons (.tv (.int .i64)) (.cons (.tv (.int .i64)) .nil)))], [(.box (.tv YReader))]⟩]
noncomputable def inbits_Reader_Peek_t (k : Nat) (d : inbits_Reader_Peek_p.D) : Option (XD inbits_Reader_Peek_x) := inbits_Reader_Peek k d.1.2 d.2
noncomputable def inbits_Reader_Peek_e (k : Nat) : UEntry := mkU inbits_Reader_Peek_p inbits_Reader_Peek_x (inbits_Reader_Peek_t k) nilU
theorem inbits_Reader_Peek_n (k : Nat) : UNat (inbits_Reader_Peek_e k) := mkU_nat nilU_nat
theorem inbits_Reader_Peek_m : mfn P inbits_Reader_Peek_f Tryd.f95 = true := by kernel_rfl
theorem inbits_Reader_Peek_fu (k : Nat) : FU P GL 95 (inbits_Reader_Peek_e k) :=
  fn_typed (uorc := uorT (inbits_Reader_Peek_U2 k)) hmo (T2_ok k).oo (inbits_Reader_Peek_U2_ok k) (fd := inbits_Reader_Peek_f) (AllU.seq (AllU.no (by kernel_rfl)) (AllU.seq (AllU.block (AllU.seq (AllU.seq (AllU.no (by kernel_rfl)) (AllU.unit (uorc := uorT (inbits_Reader_Peek_U2 k)) (u := 0) (inbits_Reader_Peeku0_ok k))) (AllU.no (by kernel_rfl)))) (AllU.seq (AllU.no (by kernel_rfl)) (AllU.seq (AllU.seq (AllU.no (by kernel_rfl)) (AllU.block (AllU.unit (uorc := uorT (inbits_Reader_Peek_U2 k)) (u := 1) (inbits_Reader_Peeku1_ok k)))) (AllU.no (by kernel_rfl)))))) (fn := Tryd.f95) (by kernel_rfl) inbits_Reader_Peek_m (fun d => by kernel_rfl) FU_nil
noncomputable def T3 (k : Nat) : List (Nat × Ent) := (95, ⟨inbits_Reader_Peek_e k⟩) :: T2 k
theorem T3_ok (k : Nat) : TabOK P GL (T3 k) := (T2_ok k).cons (inbits_Reader_Peek_fu k) (inbits_Reader_Peek_n k)
/-! ### (*overspill.inbits.Reader).Take -/
noncomputable def inbits_Reader_Take_U0 (_ : Nat) : List (Nat × Ent) := []
theorem inbits_Reader_Take_U0_ok (k : Nat) : UTab (inbits_Reader_Take_U0 k) := UTab.nil
noncomputable def inbits_Reader_Take (k : Nat) (x0 : Int) (x1 : DReader) : Option (((Int) × ((Int) × (Unit))) × (DReader)) :=
  Option.bind (inbits_Reader_Peek k x0 x1) fun (v6 : ((Int) × ((Int) × (Unit))) × (DReader)) =>
  bif (decide (v6.1.2.1 = 0)) then
    some ((v6.1.1, (v6.1.2.1, ())), (v6.2.1, ((wr .i64 (v6.2.2.1 + x0)), v6.2.2.2)))
  else
  some ((v6.1.1, (v6.1.2.1, ())), v6.2)
noncomputable def inbits_Reader_Take_b : AC :=
  (.seq (.region [⟨some 4, none, (.op (.mv (.c (.tv (.int .i64) (0 : Int))))), []⟩,
    ⟨some 5, none, (.op (.mv (.c (.tv (.int .i64) (0 : Int))))), []⟩])
  (.seq (.region [⟨some 9, none, (.op (.mv (.t 0))), []⟩,
    ⟨some 10, none, (.op (.mv (.t 1))), []⟩,
    ⟨some 11, none, (.call (.c (.fn 95 .nil .nil)) [((.t 9), none), ((.t 10), none)]), []⟩,
    ⟨some 8, none, (.op (.mv (.t 11))), []⟩,
    ⟨some 12, none, (.op (.ext (.t 8) 0)), []⟩,
    ⟨some 13, none, (.op (.ext (.t 8) 1)), []⟩,
    ⟨some 6, none, (.op (.mv (.t 12))), []⟩,
    ⟨some 7, none, (.op (.mv (.t 13))), []⟩])
  (.seq (.seq (.region [⟨some 14, none, (.op (.mv (.t 7))), []⟩,
    ⟨some 15, none, (.op (.bin .eql (.t 14) (.c (.tv (.int .i64) (0 : Int))))), []⟩])
  (.cond (.t 15)
  (.region [⟨some 16, none, (.op (.mv (.t 0))), []⟩,
      ⟨some 17, none, (.op (.nilc (.t 16))), []⟩,
      ⟨some 18, none, (.op (.fad 1 1 (.t 17))), []⟩,
      ⟨some 19, none, (.op (.load false 1 (.t 18))), []⟩,
      ⟨some 20, none, (.op (.mv (.t 1))), []⟩,
      ⟨some 21, none, (.op (.bin .add (.t 19) (.t 20))), []⟩,
      ⟨some 22, none, (.op (.nilc (.t 16))), []⟩,
      ⟨some 23, none, (.op (.fad 1 1 (.t 22))), []⟩,
      ⟨none, none, (.op (.store 1 none (.t 23) (.t 21))), []⟩])
  .skip))
  (.seq (.region [⟨some 24, none, (.op (.mv (.t 6))), []⟩,
    ⟨some 25, none, (.op (.mv (.t 7))), []⟩,
    ⟨some 4, none, (.op (.mv (.t 24))), []⟩,
    ⟨some 5, none, (.op (.mv (.t 25))), []⟩])
  .ret))))
noncomputable def inbits_Reader_Take_f : FDef := ⟨2, 26, [.tmp 4 none, .tmp 5 none], inbits_Reader_Take_b⟩
noncomputable def inbits_Reader_Take_p : XPat := ⟨.normal, [(.ptr 0 []), (.tv (.int .i64))], [(.box (.tv YReader))]⟩
noncomputable def inbits_Reader_Take_x : List XPat := [⟨.ret, [(.tup (.cons (.tv (.int .i64)) (.cons (.tv (.int .i64)) .nil)))], [(.box (.tv YReader))]⟩]
noncomputable def inbits_Reader_Take_t (k : Nat) (d : inbits_Reader_Take_p.D) : Option (XD inbits_Reader_Take_x) := inbits_Reader_Take k d.1.2 d.2
noncomputable def inbits_Reader_Take_e (k : Nat) : UEntry := mkU inbits_Reader_Take_p inbits_Reader_Take_x (inbits_Reader_Take_t k) nilU
theorem inbits_Reader_Take_n (k : Nat) : UNat (inbits_Reader_Take_e k) := mkU_nat nilU_nat
theorem inbits_Reader_Take_m : mfn P inbits_Reader_Take_f Tryd.f72 = true := by kernel_rfl
theorem inbits_Reader_Take_fu (k : Nat) : FU P GL 72 (inbits_Reader_Take_e k) :=
  fn_typed (uorc := uorT (inbits_Reader_Take_U0 k)) hmo (T3_ok k).oo (inbits_Reader_Take_U0_ok k) (fd := inbits_Reader_Take_f) (AllU.no (by kernel_rfl)) (fn := Tryd.f72) (by kernel_rfl) inbits_Reader_Take_m (fun d => by kernel_rfl) FU_nil
noncomputable def T4 (k : Nat) : List (Nat × Ent) := (72, ⟨inbits_Reader_Take_e k⟩) :: T3 k
theorem T4_ok (k : Nat) : TabOK P GL (T4 k) := (T3_ok k).cons (inbits_Reader_Take_fu k) (inbits_Reader_Take_n k)
/-! ### (*overspill.cellin.reader).bit -/
noncomputable def cellin_reader_bit_U0 (_ : Nat) : List (Nat × Ent) := []
theorem cellin_reader_bit_U0_ok (k : Nat) : UTab (cellin_reader_bit_U0 k) := UTab.nil
noncomputable def cellin_reader_bit (k : Nat) (x0 : Int) (x1 : DReader) : Option ((Int) × (((Unit) × ((Int) × (Unit))) × (DReader))) :=
  bif (!(decide (x0 = 0))) then
    some (0, (((), (x0, ())), x1))
  else
  Option.bind (inbits_Reader_Take k 1 x1) fun (v7 : ((Int) × ((Int) × (Unit))) × (DReader)) =>
  some (v7.1.1, (((), (v7.1.2.1, ())), v7.2))
noncomputable def cellin_reader_bit_b : AC :=
  (.seq (.region [⟨some 2, none, (.op (.mv (.c (.tv (.int .i64) (0 : Int))))), []⟩])
  (.seq (.seq (.region [⟨some 5, none, (.op (.mv (.t 0))), []⟩,
    ⟨some 6, none, (.op (.nilc (.t 5))), []⟩,
    ⟨some 7, none, (.op (.fad 1 1 (.t 6))), []⟩,
    ⟨some 8, none, (.op (.load false 1 (.t 7))), []⟩,
    ⟨some 9, none, (.op (.bin .neq (.t 8) (.c (.tv (.int .i64) (0 : Int))))), []⟩])
  (.cond (.t 9)
  (.seq (.region [⟨some 2, none, (.op (.mv (.c (.tv (.int .i64) (0 : Int))))), []⟩])
    .ret)
  .skip))
  (.seq (.region [⟨some 11, none, (.op (.mv (.t 0))), []⟩,
    ⟨some 12, none, (.op (.nilc (.t 11))), []⟩,
    ⟨some 13, none, (.op (.fad 0 0 (.t 12))), []⟩,
    ⟨some 14, none, (.op (.load false 1 (.t 13))), []⟩,
    ⟨some 15, none, (.call (.c (.fn 72 .nil .nil)) [((.t 14), none), ((.c (.tv (.int .i64) (1 : Int))), none)]), []⟩,
    ⟨some 10, none, (.op (.mv (.t 15))), []⟩,
    ⟨some 16, none, (.op (.ext (.t 10) 0)), []⟩,
    ⟨some 17, none, (.op (.ext (.t 10) 1)), []⟩,
    ⟨some 3, none, (.op (.mv (.t 16))), []⟩,
    ⟨some 4, none, (.op (.mv (.t 17))), []⟩])
  (.seq (.region [⟨some 18, none, (.op (.mv (.t 0))), []⟩,
    ⟨some 19, none, (.op (.mv (.t 4))), []⟩,
    ⟨some 20, none, (.op (.nilc (.t 18))), []⟩,
    ⟨some 21, none, (.op (.fad 1 1 (.t 20))), []⟩,
    ⟨none, none, (.op (.store 1 none (.t 21) (.t 19))), []⟩])
  (.seq (.region [⟨some 22, none, (.op (.mv (.t 3))), []⟩,
    ⟨some 2, none, (.op (.mv (.t 22))), []⟩])
  .ret)))))
noncomputable def cellin_reader_bit_f : FDef := ⟨1, 23, [.tmp 2 none], cellin_reader_bit_b⟩
noncomputable def cellin_reader_bit_p : XPat := ⟨.normal, [(.ptr 0 [])], [(.box (.cons (.ptr 1 []) (.cons (.tv (.int .i64)) .nil))), (.box (.tv YReader))]⟩
noncomputable def cellin_reader_bit_x : List XPat := [⟨.ret, [(.tv (.int .i64))], [(.box (.cons (.ptr 1 []) (.cons (.tv (.int .i64)) .nil))), (.box (.tv YReader))]⟩]
noncomputable def cellin_reader_bit_t (k : Nat) (d : cellin_reader_bit_p.D) : Option (XD cellin_reader_bit_x) := cellin_reader_bit k d.2.1.2.1 d.2.2
noncomputable def cellin_reader_bit_e (k : Nat) : UEntry := mkU cellin_reader_bit_p cellin_reader_bit_x (cellin_reader_bit_t k) nilU
theorem cellin_reader_bit_n (k : Nat) : UNat (cellin_reader_bit_e k) := mkU_nat nilU_nat
theorem cellin_reader_bit_m : mfn P cellin_reader_bit_f Tryd.f50 = true := by kernel_rfl
theorem cellin_reader_bit_fu (k : Nat) : FU P GL 50 (cellin_reader_bit_e k) :=
  fn_typed (uorc := uorT (cellin_reader_bit_U0 k)) hmo (T4_ok k).oo (cellin_reader_bit_U0_ok k) (fd := cellin_reader_bit_f) (AllU.no (by kernel_rfl)) (fn := Tryd.f50) (by kernel_rfl) cellin_reader_bit_m (fun d => by kernel_rfl) FU_nil
noncomputable def T5 (k : Nat) : List (Nat × Ent) := (50, ⟨cellin_reader_bit_e k⟩) :: T4 k
theorem T5_ok (k : Nat) : TabOK P GL (T5 k) := (T4_ok k).cons (cellin_reader_bit_fu k) (cellin_reader_bit_n k)
/-! ### overspill.mcbpc.row -/
noncomputable def mcbpc_row_U0 (_ : Nat) : List (Nat × Ent) := []
theorem mcbpc_row_U0_ok (k : Nat) : UTab (mcbpc_row_U0 k) := UTab.nil
noncomputable def mcbpc_row (k : Nat) (x0 : Bool) (x1 : Int) : Option (List UInt8) :=
  bif (!x0) then
    bif (decide (x1 = 3)) then
      some ([49, 32, 48, 48, 49, 32, 48, 49, 48, 32, 48, 49, 49] : List UInt8)
    else
    bif (decide (x1 = 4)) then
      some ([48, 48, 48, 49, 32, 48, 48, 48, 48, 48, 49, 32, 48, 48, 48, 48, 49, 48, 32, 48, 48, 48, 48, 49, 49] : List UInt8)
    else
    bif (decide (x1 = 5)) then
      some ([48, 48, 48, 48, 48, 48, 48, 48, 49] : List UInt8)
    else
    some ([] : List UInt8)
  else
  bif (decide (x1 = 0)) then
    some ([49, 32, 48, 48, 49, 49, 32, 48, 48, 49, 48, 32, 48, 48, 48, 49, 48, 49] : List UInt8)
  else
  bif (decide (x1 = 1)) then
    some ([48, 49, 49, 32, 48, 48, 48, 48, 49, 49, 49, 32, 48, 48, 48, 48, 49, 49, 48, 32, 48, 48, 48, 48, 48, 48, 49, 48, 49] : List UInt8)
  else
  bif (decide (x1 = 2)) then
    some ([48, 49, 48, 32, 48, 48, 48, 48, 49, 48, 49, 32, 48, 48, 48, 48, 49, 48, 48, 32, 48, 48, 48, 48, 48, 49, 48, 49] : List UInt8)
  else
  bif (decide (x1 = 3)) then
    some ([48, 48, 48, 49, 49, 32, 48, 48, 48, 48, 48, 49, 48, 48, 32, 48, 48, 48, 48, 48, 48, 49, 49, 32, 48, 48, 48, 48, 48, 49, 49] : List UInt8)
  else
  bif (decide (x1 = 4)) then
    some ([48, 48, 48, 49, 48, 48, 32, 48, 48, 48, 48, 48, 48, 49, 48, 48, 32, 48, 48, 48, 48, 48, 48, 48, 49, 49, 32, 48, 48, 48, 48, 48, 48, 48, 49, 48] : List UInt8)
  else
  bif (decide (x1 = 5)) then
    some ([48, 48, 48, 48, 48, 48, 48, 48, 49] : List UInt8)
  else
  some ([] : List UInt8)
noncomputable def mcbpc_row_b : AC :=
  (.seq (.region [⟨some 4, none, (.op (.mv (.c (.tv .str (([] : List UInt8) : List UInt8))))), []⟩])
  (.seq (.seq (.region [⟨some 5, none, (.op (.mv (.t 0))), []⟩,
    ⟨some 6, none, (.op (.un .not (.t 5))), []⟩])
  (.cond (.t 6)
  (.seq (.seq (.region [⟨some 7, none, (.op (.mv (.t 1))), []⟩])
    (.block 0 (.seq (.region [⟨some 9, none, (.op (.bin .eql (.t 7) (.c (.tv (.int .i64) (3 : Int))))), []⟩,
      ⟨some 8, none, (.op (.mv (.t 9))), []⟩])
    (.cond (.t 8)
    (.seq (.region [⟨some 4, none, (.op (.mv (.c (.tv .str (([49, 32, 48, 48, 49, 32, 48, 49, 48, 32, 48, 49, 49] : List UInt8) : List UInt8))))), []⟩])
      .ret)
    (.seq (.region [⟨some 11, none, (.op (.bin .eql (.t 7) (.c (.tv (.int .i64) (4 : Int))))), []⟩,
        ⟨some 10, none, (.op (.mv (.t 11))), []⟩])
      (.cond (.t 10)
      (.seq (.region [⟨some 4, none, (.op (.mv (.c (.tv .str (([48, 48, 48, 49, 32, 48, 48, 48, 48, 48, 49, 32, 48, 48, 48, 48, 49, 48, 32, 48, 48, 48, 48, 49, 49] : List UInt8) : List UInt8))))), []⟩])
        .ret)
      (.seq (.region [⟨some 13, none, (.op (.bin .eql (.t 7) (.c (.tv (.int .i64) (5 : Int))))), []⟩,
          ⟨some 12, none, (.op (.mv (.t 13))), []⟩])
        (.cond (.t 12)
        (.seq (.region [⟨some 4, none, (.op (.mv (.c (.tv .str (([48, 48, 48, 48, 48, 48, 48, 48, 49] : List UInt8) : List UInt8))))), []⟩])
          .ret)
        .skip))))))))
    (.seq (.region [⟨some 4, none, (.op (.mv (.c (.tv .str (([] : List UInt8) : List UInt8))))), []⟩])
    .ret))
  .skip))
  (.seq (.seq (.region [⟨some 14, none, (.op (.mv (.t 1))), []⟩])
  (.block 1 (.seq (.region [⟨some 16, none, (.op (.bin .eql (.t 14) (.c (.tv (.int .i64) (0 : Int))))), []⟩,
    ⟨some 15, none, (.op (.mv (.t 16))), []⟩])
  (.cond (.t 15)
  (.seq (.region [⟨some 4, none, (.op (.mv (.c (.tv .str (([49, 32, 48, 48, 49, 49, 32, 48, 48, 49, 48, 32, 48, 48, 48, 49, 48, 49] : List UInt8) : List UInt8))))), []⟩])
    .ret)
  (.seq (.region [⟨some 18, none, (.op (.bin .eql (.t 14) (.c (.tv (.int .i64) (1 : Int))))), []⟩,
      ⟨some 17, none, (.op (.mv (.t 18))), []⟩])
    (.cond (.t 17)
    (.seq (.region [⟨some 4, none, (.op (.mv (.c (.tv .str (([48, 49, 49, 32, 48, 48, 48, 48, 49, 49, 49, 32, 48, 48, 48, 48, 49, 49, 48, 32, 48, 48, 48, 48, 48, 48, 49, 48, 49] : List UInt8) : List UInt8))))), []⟩])
      .ret)
    (.seq (.region [⟨some 20, none, (.op (.bin .eql (.t 14) (.c (.tv (.int .i64) (2 : Int))))), []⟩,
        ⟨some 19, none, (.op (.mv (.t 20))), []⟩])
      (.cond (.t 19)
      (.seq (.region [⟨some 4, none, (.op (.mv (.c (.tv .str (([48, 49, 48, 32, 48, 48, 48, 48, 49, 48, 49, 32, 48, 48, 48, 48, 49, 48, 48, 32, 48, 48, 48, 48, 48, 49, 48, 49] : List UInt8) : List UInt8))))), []⟩])
        .ret)
      (.seq (.region [⟨some 22, none, (.op (.bin .eql (.t 14) (.c (.tv (.int .i64) (3 : Int))))), []⟩,
          ⟨some 21, none, (.op (.mv (.t 22))), []⟩])
        (.cond (.t 21)
        (.seq (.region [⟨some 4, none, (.op (.mv (.c (.tv .str (([48, 48, 48, 49, 49, 32, 48, 48, 48, 48, 48, 49, 48, 48, 32, 48, 48, 48, 48, 48, 48, 49, 49, 32, 48, 48, 48, 48, 48, 49, 49] : List UInt8) : List UInt8))))), []⟩])
          .ret)
        (.seq (.region [⟨some 24, none, (.op (.bin .eql (.t 14) (.c (.tv (.int .i64) (4 : Int))))), []⟩,
            ⟨some 23, none, (.op (.mv (.t 24))), []⟩])
          (.cond (.t 23)
          (.seq (.region [⟨some 4, none, (.op (.mv (.c (.tv .str (([48, 48, 48, 49, 48, 48, 32, 48, 48, 48, 48, 48, 48, 49, 48, 48, 32, 48, 48, 48, 48, 48, 48, 48, 49, 49, 32, 48, 48, 48, 48, 48, 48, 48, 49, 48] : List UInt8) : List UInt8))))), []⟩])
            .ret)
          (.seq (.region [⟨some 26, none, (.op (.bin .eql (.t 14) (.c (.tv (.int .i64) (5 : Int))))), []⟩,
              ⟨some 25, none, (.op (.mv (.t 26))), []⟩])
            (.cond (.t 25)
            (.seq (.region [⟨some 4, none, (.op (.mv (.c (.tv .str (([48, 48, 48, 48, 48, 48, 48, 48, 49] : List UInt8) : List UInt8))))), []⟩])
              .ret)
            .skip))))))))))))))
  (.seq (.region [⟨some 4, none, (.op (.mv (.c (.tv .str (([] : List UInt8) : List UInt8))))), []⟩])
  .ret))))
noncomputable def mcbpc_row_f : FDef := ⟨2, 27, [.tmp 4 none], mcbpc_row_b⟩
noncomputable def mcbpc_row_p : XPat := ⟨.normal, [(.tv .bool), (.tv (.int .i64))], []⟩
noncomputable def mcbpc_row_x : List XPat := [⟨.ret, [(.tv .str)], []⟩]
noncomputable def mcbpc_row_t (k : Nat) (d : mcbpc_row_p.D) : Option (XD mcbpc_row_x) := mcbpc_row k d.1 d.2
noncomputable def mcbpc_row_e (k : Nat) : UEntry := mkU mcbpc_row_p mcbpc_row_x (mcbpc_row_t k) nilU
theorem mcbpc_row_n (k : Nat) : UNat (mcbpc_row_e k) := mkU_nat nilU_nat
theorem mcbpc_row_m : mfn P mcbpc_row_f Tryd.f89 = true := by kernel_rfl
theorem mcbpc_row_fu (k : Nat) : FU P GL 89 (mcbpc_row_e k) :=
  fn_typed (uorc := uorT (mcbpc_row_U0 k)) hmo (T5_ok k).oo (mcbpc_row_U0_ok k) (fd := mcbpc_row_f) (AllU.no (by kernel_rfl)) (fn := Tryd.f89) (by kernel_rfl) mcbpc_row_m (fun d => by kernel_rfl) FU_nil
noncomputable def T6 (k : Nat) : List (Nat × Ent) := (89, ⟨mcbpc_row_e k⟩) :: T5 k
theorem T6_ok (k : Nat) : TabOK P GL (T6 k) := (T5_ok k).cons (mcbpc_row_fu k) (mcbpc_row_n k)
/-! ### strings.Fields -/
noncomputable def strings_Fields_U0 (_ : Nat) : List (Nat × Ent) := []
theorem strings_Fields_U0_ok (k : Nat) : UTab (strings_Fields_U0 k) := UTab.nil
noncomputable def strings_Fieldsu0_d : UDef := ⟨[(0, none), (3, none), (4, none), (5, none), (6, none)], [3, 4, 5, 6, 7, 8, 13, 14, 15, 16, 17, 18, 19, 20, 21, 22, 23, 24, 25, 26, 27, 28, 29, 30, 31, 32, 33, 34, 35], [((.exit 0), [(3, none), (5, none)])], []⟩
noncomputable def strings_Fieldsu0_p : XPat := ⟨.normal, [(.tv .str), (.tv (.int .i64)), (.tv (.int .i64)), (.tv (.int .u8)), (.tv (.int .i64))], []⟩
noncomputable def strings_Fieldsu0_x : List XPat := [⟨(.exit 0), [(.tv (.int .i64)), (.tv (.int .u8))], []⟩]
noncomputable def strings_Fieldsu0 (k : Nat) : Nat → (List UInt8) → (Int) → (Int) → (Int) → (Int) → Option ((Int) × (Int))
  | 0, _, _, _, _, _ => none
  | n + 1, x0, x1, x2, x3, x4 =>
    bif (decide (x4 < ((List.length x0 : Nat) : Int))) then
      bif (inR x4 (List.length x0)) then
        bif (inR ((UInt8.toNat (List.getD x0 (Int.toNat x4) 0) : Nat) : Int) 256) then
          Option.bind (strings_Fieldsu0 k n x0 (wr .i64 (x1 + (bitop .and .i64 x2 (bitop .xor .i64 (-1) (wr .i64 (List.getD tbl3 (Int.toNat ((UInt8.toNat (List.getD x0 (Int.toNat x4) 0) : Nat) : Int)) 0)))))) (wr .i64 (List.getD tbl3 (Int.toNat ((UInt8.toNat (List.getD x0 (Int.toNat x4) 0) : Nat) : Int)) 0)) (bitop .or .u8 x3 ((UInt8.toNat (List.getD x0 (Int.toNat x4) 0) : Nat) : Int)) (wr .i64 (x4 + 1))) fun r => some r
        else
          none
      else
        none
    else
    some (x1, x3)
noncomputable def strings_Fieldsu0_b : AC :=
  (.seq (.seq (.region [⟨some 13, none, (.op (.mv (.t 6))), []⟩,
    ⟨some 14, none, (.op (.mv (.t 0))), []⟩,
    ⟨some 15, none, (.op (.lens (.t 14))), []⟩,
    ⟨some 16, none, (.op (.bin .lss (.t 13) (.t 15))), []⟩])
  (.cond (.t 16)
  .skip
  (.exit 0)))
  (.seq (.block 1 (.seq (.region [⟨some 19, none, (.op (.mv (.t 0))), []⟩,
    ⟨some 20, none, (.op (.mv (.t 6))), []⟩,
    ⟨some 21, none, (.op (.ixs (.t 19) (.t 20))), []⟩,
    ⟨some 7, none, (.op (.mv (.t 21))), []⟩])
  (.seq (.region [⟨some 22, none, (.op (.mv (.t 5))), []⟩,
    ⟨some 23, none, (.op (.mv (.t 7))), []⟩,
    ⟨some 24, none, (.op (.bin .or (.t 22) (.t 23))), []⟩,
    ⟨some 5, none, (.op (.mv (.t 24))), []⟩])
  (.seq (.region [⟨some 25, none, (.op (.mv (.t 7))), []⟩,
    ⟨some 26, none, (.op (.iad 256 1 (.g 3) (.t 25))), []⟩,
    ⟨some 27, none, (.op (.load false 1 (.t 26))), []⟩,
    ⟨some 28, none, (.op (.conv .i64 (.t 27))), []⟩,
    ⟨some 8, none, (.op (.mv (.t 28))), []⟩])
  (.seq (.region [⟨some 29, none, (.op (.mv (.t 3))), []⟩,
    ⟨some 30, none, (.op (.mv (.t 4))), []⟩,
    ⟨some 31, none, (.op (.mv (.t 8))), []⟩,
    ⟨some 32, none, (.op (.un .xor (.t 31))), []⟩,
    ⟨some 33, none, (.op (.bin .and (.t 30) (.t 32))), []⟩,
    ⟨some 34, none, (.op (.bin .add (.t 29) (.t 33))), []⟩,
    ⟨some 3, none, (.op (.mv (.t 34))), []⟩])
  (.region [⟨some 35, none, (.op (.mv (.t 8))), []⟩,
    ⟨some 4, none, (.op (.mv (.t 35))), []⟩]))))))
  (.region [⟨some 17, none, (.op (.mv (.t 6))), []⟩,
    ⟨some 18, none, (.op (.bin .add (.t 17) (.c (.tv (.int .i64) (1 : Int))))), []⟩,
    ⟨some 6, none, (.op (.mv (.t 18))), []⟩])))
noncomputable def strings_Fieldsu0_t (k n : Nat) (d : strings_Fieldsu0_p.D) : Option (XD strings_Fieldsu0_x) := strings_Fieldsu0 k n d.1 d.2.1 d.2.2.1 d.2.2.2.1 d.2.2.2.2
theorem strings_Fieldsu0_ok (k : Nat) : UOK P GL (mkU strings_Fieldsu0_p strings_Fieldsu0_x (strings_Fieldsu0_t k k) nilU) strings_Fieldsu0_d true strings_Fieldsu0_b :=
  loop_typed (ud := strings_Fieldsu0_d) (body := strings_Fieldsu0_b) (uorc := uorT (strings_Fields_U0 k)) hmo (T6_ok k).oo (strings_Fields_U0_ok k) (AllU.no (by kernel_rfl)) (t := strings_Fieldsu0_t k) (fun d => by kernel_rfl) (fun n d => by kernel_rfl) k
noncomputable def strings_Fields_U1 (k : Nat) : List (Nat × Ent) := (0, ⟨mkU strings_Fieldsu0_p strings_Fieldsu0_x (strings_Fieldsu0_t k k) nilU⟩) :: strings_Fields_U0 k
theorem strings_Fields_U1_ok (k : Nat) : UTab (strings_Fields_U1 k) := (strings_Fields_U0_ok k).cons (mkU_nat nilU_nat)
noncomputable def strings_Fieldsu1_d : UDef := ⟨[(0, none), (12, none)], [12, 42, 43, 44, 45, 46, 47, 48, 49, 50, 51, 52, 53, 54, 55], [((.exit 2), [(12, none)])], []⟩
noncomputable def strings_Fieldsu1_p : XPat := ⟨.normal, [(.tv .str), (.tv (.int .i64))], []⟩
noncomputable def strings_Fieldsu1_x : List XPat := [⟨(.exit 2), [(.tv (.int .i64))], []⟩]
noncomputable def strings_Fieldsu1 (k : Nat) : Nat → (List UInt8) → (Int) → Option (Int)
  | 0, _, _ => none
  | n + 1, x0, x1 =>
    bif (decide (x1 < ((List.length x0 : Nat) : Int))) then
      bif (inR x1 (List.length x0)) then
        bif (inR ((UInt8.toNat (List.getD x0 (Int.toNat x1) 0) : Nat) : Int) 256) then
          bif (!(decide ((List.getD tbl3 (Int.toNat ((UInt8.toNat (List.getD x0 (Int.toNat x1) 0) : Nat) : Int)) 0) = 0))) then
            Option.bind (strings_Fieldsu1 k n x0 (wr .i64 (x1 + 1))) fun r => some r
          else
          some x1
        else
          none
      else
        none
    else
    some x1
noncomputable def strings_Fieldsu1_b : AC :=
  (.seq (.seq (.region [⟨some 42, none, (.op (.mv (.t 12))), []⟩,
    ⟨some 43, none, (.op (.mv (.t 0))), []⟩,
    ⟨some 44, none, (.op (.lens (.t 43))), []⟩,
    ⟨some 45, none, (.op (.bin .lss (.t 42) (.t 44))), []⟩,
    ⟨some 46, none, (.op (.mv (.t 45))), []⟩,
    ⟨some 47, some (4, 46, true), (.op (.mv (.t 0))), []⟩,
    ⟨some 48, some (4, 46, true), (.op (.mv (.t 12))), []⟩,
    ⟨some 49, some (4, 46, true), (.op (.ixs (.t 47) (.t 48))), []⟩,
    ⟨some 50, some (4, 46, true), (.op (.iad 256 1 (.g 3) (.t 49))), []⟩,
    ⟨some 51, some (4, 46, true), (.op (.load false 1 (.t 50))), []⟩,
    ⟨some 52, some (4, 46, true), (.op (.bin .neq (.t 51) (.c (.tv (.int .u8) (0 : Int))))), []⟩,
    ⟨some 53, none, (.op (.pick (.t 46) (.t 52) (.c (.tv .bool (false : Bool))))), []⟩])
  (.cond (.t 53)
  .skip
  (.exit 2)))
  (.block 3 (.region [⟨some 54, none, (.op (.mv (.t 12))), []⟩,
    ⟨some 55, none, (.op (.bin .add (.t 54) (.c (.tv (.int .i64) (1 : Int))))), []⟩,
    ⟨some 12, none, (.op (.mv (.t 55))), []⟩])))
noncomputable def strings_Fieldsu1_t (k n : Nat) (d : strings_Fieldsu1_p.D) : Option (XD strings_Fieldsu1_x) := strings_Fieldsu1 k n d.1 d.2
theorem strings_Fieldsu1_ok (k : Nat) : UOK P GL (mkU strings_Fieldsu1_p strings_Fieldsu1_x (strings_Fieldsu1_t k k) nilU) strings_Fieldsu1_d true strings_Fieldsu1_b :=
  loop_typed (ud := strings_Fieldsu1_d) (body := strings_Fieldsu1_b) (uorc := uorT (strings_Fields_U1 k)) hmo (T6_ok k).oo (strings_Fields_U1_ok k) (AllU.no (by kernel_rfl)) (t := strings_Fieldsu1_t k) (fun d => by kernel_rfl) (fun n d => by kernel_rfl) k
noncomputable def strings_Fields_U2 (k : Nat) : List (Nat × Ent) := (1, ⟨mkU strings_Fieldsu1_p strings_Fieldsu1_x (strings_Fieldsu1_t k k) nilU⟩) :: strings_Fields_U1 k
theorem strings_Fields_U2_ok (k : Nat) : UTab (strings_Fields_U2 k) := (strings_Fields_U1_ok k).cons (mkU_nat nilU_nat)
noncomputable def strings_Fieldsu2_d : UDef := ⟨[(0, none), (12, none)], [12, 80, 81, 82, 83, 84, 85, 86, 87, 88, 89, 90, 91, 92, 93], [((.exit 6), [(12, none)])], []⟩
noncomputable def strings_Fieldsu2_p : XPat := ⟨.normal, [(.tv .str), (.tv (.int .i64))], []⟩
noncomputable def strings_Fieldsu2_x : List XPat := [⟨(.exit 6), [(.tv (.int .i64))], []⟩]
noncomputable def strings_Fieldsu2 (k : Nat) : Nat → (List UInt8) → (Int) → Option (Int)
  | 0, _, _ => none
  | n + 1, x0, x1 =>
    bif (decide (x1 < ((List.length x0 : Nat) : Int))) then
      bif (inR x1 (List.length x0)) then
        bif (inR ((UInt8.toNat (List.getD x0 (Int.toNat x1) 0) : Nat) : Int) 256) then
          bif (!(decide ((List.getD tbl3 (Int.toNat ((UInt8.toNat (List.getD x0 (Int.toNat x1) 0) : Nat) : Int)) 0) = 0))) then
            Option.bind (strings_Fieldsu2 k n x0 (wr .i64 (x1 + 1))) fun r => some r
          else
          some x1
        else
          none
      else
        none
    else
    some x1
noncomputable def strings_Fieldsu2_b : AC :=
  (.seq (.seq (.region [⟨some 80, none, (.op (.mv (.t 12))), []⟩,
    ⟨some 81, none, (.op (.mv (.t 0))), []⟩,
    ⟨some 82, none, (.op (.lens (.t 81))), []⟩,
    ⟨some 83, none, (.op (.bin .lss (.t 80) (.t 82))), []⟩,
    ⟨some 84, none, (.op (.mv (.t 83))), []⟩,
    ⟨some 85, some (4, 84, true), (.op (.mv (.t 0))), []⟩,
    ⟨some 86, some (4, 84, true), (.op (.mv (.t 12))), []⟩,
    ⟨some 87, some (4, 84, true), (.op (.ixs (.t 85) (.t 86))), []⟩,
    ⟨some 88, some (4, 84, true), (.op (.iad 256 1 (.g 3) (.t 87))), []⟩,
    ⟨some 89, some (4, 84, true), (.op (.load false 1 (.t 88))), []⟩,
    ⟨some 90, some (4, 84, true), (.op (.bin .neq (.t 89) (.c (.tv (.int .u8) (0 : Int))))), []⟩,
    ⟨some 91, none, (.op (.pick (.t 84) (.t 90) (.c (.tv .bool (false : Bool))))), []⟩])
  (.cond (.t 91)
  .skip
  (.exit 6)))
  (.block 7 (.region [⟨some 92, none, (.op (.mv (.t 12))), []⟩,
    ⟨some 93, none, (.op (.bin .add (.t 92) (.c (.tv (.int .i64) (1 : Int))))), []⟩,
    ⟨some 12, none, (.op (.mv (.t 93))), []⟩])))
noncomputable def strings_Fieldsu2_t (k n : Nat) (d : strings_Fieldsu2_p.D) : Option (XD strings_Fieldsu2_x) := strings_Fieldsu2 k n d.1 d.2
theorem strings_Fieldsu2_ok (k : Nat) : UOK P GL (mkU strings_Fieldsu2_p strings_Fieldsu2_x (strings_Fieldsu2_t k k) nilU) strings_Fieldsu2_d true strings_Fieldsu2_b :=
  loop_typed (ud := strings_Fieldsu2_d) (body := strings_Fieldsu2_b) (uorc := uorT (strings_Fields_U2 k)) hmo (T6_ok k).oo (strings_Fields_U2_ok k) (AllU.no (by kernel_rfl)) (t := strings_Fieldsu2_t k) (fun d => by kernel_rfl) (fun n d => by kernel_rfl) k
noncomputable def strings_Fields_U3 (k : Nat) : List (Nat × Ent) := (2, ⟨mkU strings_Fieldsu2_p strings_Fieldsu2_x (strings_Fieldsu2_t k k) nilU⟩) :: strings_Fields_U2 k
theorem strings_Fields_U3_ok (k : Nat) : UTab (strings_Fields_U3 k) := (strings_Fields_U2_ok k).cons (mkU_nat nilU_nat)
noncomputable def strings_Fieldsu3_d : UDef := ⟨[(0, none), (9, none), (10, none), (11, none), (12, none)], [10, 11, 12, 57, 58, 59, 60, 61, 62, 63, 64, 65, 66, 67, 68, 69, 70, 71, 72, 73, 74, 75, 76, 77, 78, 79, 80, 81, 82, 83, 84, 85, 86, 87, 88, 89, 90, 91, 92, 93, 94], [((.exit 4), [(9, none), (10, none), (11, none)])], []⟩
noncomputable def strings_Fieldsu3_p : XPat := ⟨.normal, [(.tv .str), (.row 0), (.tv (.int .i64)), (.tv (.int .i64)), (.tv (.int .i64))], [(.row .str false)]⟩
noncomputable def strings_Fieldsu3_x : List XPat := [⟨(.exit 4), [(.row 0), (.tv (.int .i64)), (.tv (.int .i64))], [(.row .str false)]⟩]
noncomputable def strings_Fieldsu3 (k : Nat) : Nat → (List UInt8) → (Int) → (Int) → (Int) → (List (List UInt8)) → Option (((Unit) × ((Int) × (Int))) × (List (List UInt8)))
  | 0, _, _, _, _, _ => none
  | n + 1, x0, x1, x2, x3, x4 =>
    bif (decide (x3 < ((List.length x0 : Nat) : Int))) then
      bif (inR x3 (List.length x0)) then
        bif (inR ((UInt8.toNat (List.getD x0 (Int.toNat x3) 0) : Nat) : Int) 256) then
          bif (decide ((List.getD tbl3 (Int.toNat ((UInt8.toNat (List.getD x0 (Int.toNat x3) 0) : Nat) : Int)) 0) = 0)) then
            Option.bind (strings_Fieldsu3 k n x0 x1 x2 (wr .i64 (x3 + 1)) x4) fun r => some r
          else
          bif (decide ((0 : Int) ≤ x2 ∧ x2 ≤ x3 ∧ x3 ≤ (((List.length x0) : Nat) : Int))) then
            bif (inR x1 (List.length x4)) then
              Option.bind (strings_Fieldsu2 k k x0 (wr .i64 (x3 + 1))) fun (v16 : Int) =>
              Option.bind (strings_Fieldsu3 k n x0 (wr .i64 (x1 + 1)) v16 v16 (List.set x4 (Int.toNat x1) (List.drop (Int.toNat x2) (List.take (Int.toNat x3) x0)))) fun r => some r
            else
              none
          else
            none
        else
          none
      else
        none
    else
    some (((), (x1, x2)), x4)
noncomputable def strings_Fieldsu3_b : AC :=
  (.seq (.seq (.region [⟨some 57, none, (.op (.mv (.t 12))), []⟩,
    ⟨some 58, none, (.op (.mv (.t 0))), []⟩,
    ⟨some 59, none, (.op (.lens (.t 58))), []⟩,
    ⟨some 60, none, (.op (.bin .lss (.t 57) (.t 59))), []⟩])
  (.cond (.t 60)
  .skip
  (.exit 4)))
  (.block 5 (.seq (.seq (.region [⟨some 61, none, (.op (.mv (.t 0))), []⟩,
    ⟨some 62, none, (.op (.mv (.t 12))), []⟩,
    ⟨some 63, none, (.op (.ixs (.t 61) (.t 62))), []⟩,
    ⟨some 64, none, (.op (.iad 256 1 (.g 3) (.t 63))), []⟩,
    ⟨some 65, none, (.op (.load false 1 (.t 64))), []⟩,
    ⟨some 66, none, (.op (.bin .eql (.t 65) (.c (.tv (.int .u8) (0 : Int))))), []⟩])
  (.cond (.t 66)
  (.seq (.region [⟨some 67, none, (.op (.mv (.t 12))), []⟩,
      ⟨some 68, none, (.op (.bin .add (.t 67) (.c (.tv (.int .i64) (1 : Int))))), []⟩,
      ⟨some 12, none, (.op (.mv (.t 68))), []⟩])
    (.exit 5))
  .skip))
  (.seq (.region [⟨some 69, none, (.op (.mv (.t 9))), []⟩,
    ⟨some 70, none, (.op (.mv (.t 10))), []⟩,
    ⟨some 71, none, (.op (.mv (.t 0))), []⟩,
    ⟨some 72, none, (.op (.mv (.t 11))), []⟩,
    ⟨some 73, none, (.op (.mv (.t 12))), []⟩,
    ⟨some 74, none, (.op (.slis (.t 71) (some (.t 72)) (some (.t 73)))), []⟩,
    ⟨some 75, none, (.op (.iads .str (.t 69) (.t 70))), []⟩,
    ⟨none, none, (.op (.store 1 none (.t 75) (.t 74))), []⟩])
  (.seq (.region [⟨some 76, none, (.op (.mv (.t 10))), []⟩,
    ⟨some 77, none, (.op (.bin .add (.t 76) (.c (.tv (.int .i64) (1 : Int))))), []⟩,
    ⟨some 10, none, (.op (.mv (.t 77))), []⟩])
  (.seq (.region [⟨some 78, none, (.op (.mv (.t 12))), []⟩,
    ⟨some 79, none, (.op (.bin .add (.t 78) (.c (.tv (.int .i64) (1 : Int))))), []⟩,
    ⟨some 12, none, (.op (.mv (.t 79))), []⟩])
  (.seq (.block 6 (.unit 2 strings_Fieldsu2_d true strings_Fieldsu2_b))
  (.region [⟨some 94, none, (.op (.mv (.t 12))), []⟩,
    ⟨some 11, none, (.op (.mv (.t 94))), []⟩]))))))))
noncomputable def strings_Fieldsu3_t (k n : Nat) (d : strings_Fieldsu3_p.D) : Option (XD strings_Fieldsu3_x) := strings_Fieldsu3 k n d.1.1 d.1.2.2.1 d.1.2.2.2.1 d.1.2.2.2.2 d.2
theorem strings_Fieldsu3_ok (k : Nat) : UOK P GL (mkU strings_Fieldsu3_p strings_Fieldsu3_x (strings_Fieldsu3_t k k) nilU) strings_Fieldsu3_d true strings_Fieldsu3_b :=
  loop_typed (ud := strings_Fieldsu3_d) (body := strings_Fieldsu3_b) (uorc := uorT (strings_Fields_U3 k)) hmo (T6_ok k).oo (strings_Fields_U3_ok k) (AllU.seq (AllU.no (by kernel_rfl)) (AllU.block (AllU.seq (AllU.no (by kernel_rfl)) (AllU.seq (AllU.no (by kernel_rfl)) (AllU.seq (AllU.no (by kernel_rfl)) (AllU.seq (AllU.no (by kernel_rfl)) (AllU.seq (AllU.block (AllU.unit (uorc := uorT (strings_Fields_U3 k)) (u := 2) (strings_Fieldsu2_ok k))) (AllU.no (by kernel_rfl))))))))) (t := strings_Fieldsu3_t k) (fun d => by kernel_rfl) (fun n d => by kernel_rfl) k
noncomputable def strings_Fields_U4 (k : Nat) : List (Nat × Ent) := (3, ⟨mkU strings_Fieldsu3_p strings_Fieldsu3_x (strings_Fieldsu3_t k k) nilU⟩) :: strings_Fields_U3 k
theorem strings_Fields_U4_ok (k : Nat) : UTab (strings_Fields_U4 k) := (strings_Fields_U3_ok k).cons (mkU_nat nilU_nat)
noncomputable def strings_Fields (k : Nat) (x0 : List UInt8) : Option (List (List UInt8)) :=
  Option.bind (strings_Fieldsu0 k k x0 0 1 0 0) fun (v13 : (Int) × (Int)) =>
  bif (decide ((128 : Int) ≤ v13.2)) then
    none
  else
  bif (decide ((0 : Int) ≤ v13.1 ∧ v13.1 ≤ v13.1 ∧ v13.1 ≤ ((rowMax : Nat) : Int))) then
    Option.bind (strings_Fieldsu1 k k x0 0) fun (v14 : Int) =>
    Option.bind (strings_Fieldsu3 k k x0 0 v14 v14 (List.replicate (Int.toNat v13.1) ([] : List UInt8))) fun (v17 : ((Unit) × ((Int) × (Int))) × (List (List UInt8))) =>
    bif (decide (v17.1.2.2 < ((List.length x0 : Nat) : Int))) then
      bif (decide ((0 : Int) ≤ v17.1.2.2 ∧ v17.1.2.2 ≤ (((List.length x0) : Nat) : Int))) then
        bif (inR v17.1.2.1 (List.length v17.2)) then
          some (List.set v17.2 (Int.toNat v17.1.2.1) (List.drop (Int.toNat v17.1.2.2) (List.take (List.length x0) x0)))
        else
          none
      else
        none
    else
    some v17.2
  else
    none
noncomputable def strings_Fields_b : AC :=
  (.seq (.region [⟨some 2, none, (.op (.nrow .str)), []⟩])
  (.seq (.region [⟨some 3, none, (.op (.mv (.c (.tv (.int .i64) (0 : Int))))), []⟩])
  (.seq (.region [⟨some 4, none, (.op (.mv (.c (.tv (.int .i64) (1 : Int))))), []⟩])
  (.seq (.region [⟨some 5, none, (.op (.mv (.c (.tv (.int .u8) (0 : Int))))), []⟩])
  (.seq (.seq (.region [⟨some 6, none, (.op (.mv (.c (.tv (.int .i64) (0 : Int))))), []⟩])
  (.block 0 (.unit 0 strings_Fieldsu0_d true strings_Fieldsu0_b)))
  (.seq (.seq (.region [⟨some 36, none, (.op (.mv (.t 5))), []⟩,
    ⟨some 37, none, (.op (.bin .geq (.t 36) (.c (.tv (.int .u8) (128 : Int))))), []⟩])
  (.cond (.t 37)
  (.seq (.region [⟨some 38, none, (.op (.mv (.t 0))), []⟩,
      ⟨some 39, none, .op .bad, []⟩,
      ⟨some 2, none, .op .bad, []⟩])
    .ret)
  .skip))
  (.seq (.region [⟨some 40, none, (.op (.mv (.t 3))), []⟩,
    ⟨some 41, none, (.op (.mkslice .str (.t 40) (.t 40))), []⟩,
    ⟨some 9, none, (.op (.mv (.t 41))), []⟩])
  (.seq (.region [⟨some 10, none, (.op (.mv (.c (.tv (.int .i64) (0 : Int))))), []⟩])
  (.seq (.region [⟨some 11, none, (.op (.mv (.c (.tv (.int .i64) (0 : Int))))), []⟩])
  (.seq (.region [⟨some 12, none, (.op (.mv (.c (.tv (.int .i64) (0 : Int))))), []⟩])
  (.seq (.block 2 (.unit 1 strings_Fieldsu1_d true strings_Fieldsu1_b))
  (.seq (.region [⟨some 56, none, (.op (.mv (.t 12))), []⟩,
    ⟨some 11, none, (.op (.mv (.t 56))), []⟩])
  (.seq (.block 4 (.unit 3 strings_Fieldsu3_d true strings_Fieldsu3_b))
  (.seq (.seq (.region [⟨some 95, none, (.op (.mv (.t 11))), []⟩,
    ⟨some 96, none, (.op (.mv (.t 0))), []⟩,
    ⟨some 97, none, (.op (.lens (.t 96))), []⟩,
    ⟨some 98, none, (.op (.bin .lss (.t 95) (.t 97))), []⟩])
  (.cond (.t 98)
  (.region [⟨some 99, none, (.op (.mv (.t 9))), []⟩,
      ⟨some 100, none, (.op (.mv (.t 10))), []⟩,
      ⟨some 101, none, (.op (.mv (.t 0))), []⟩,
      ⟨some 102, none, (.op (.mv (.t 11))), []⟩,
      ⟨some 103, none, (.op (.slis (.t 101) (some (.t 102)) none)), []⟩,
      ⟨some 104, none, (.op (.iads .str (.t 99) (.t 100))), []⟩,
      ⟨none, none, (.op (.store 1 none (.t 104) (.t 103))), []⟩])
  .skip))
  (.seq (.region [⟨some 105, none, (.op (.mv (.t 9))), []⟩,
    ⟨some 2, none, (.op (.mv (.t 105))), []⟩])
  .ret)))))))))))))))
noncomputable def strings_Fields_f : FDef := ⟨1, 106, [.tmp 2 (some (.sl .str))], strings_Fields_b⟩
noncomputable def strings_Fields_p : XPat := ⟨.normal, [(.tv .str)], []⟩
noncomputable def strings_Fields_x : List XPat := [⟨.ret, [(.tv (.sl .str))], []⟩]
noncomputable def strings_Fields_t (k : Nat) (d : strings_Fields_p.D) : Option (XD strings_Fields_x) := strings_Fields k d
noncomputable def strings_Fields_e (k : Nat) : UEntry := mkU strings_Fields_p strings_Fields_x (strings_Fields_t k) nilU
theorem strings_Fields_n (k : Nat) : UNat (strings_Fields_e k) := mkU_nat nilU_nat
theorem strings_Fields_m : mfn P strings_Fields_f Tryd.f88 = true := by kernel_rfl
theorem strings_Fields_fu (k : Nat) : FU P GL 88 (strings_Fields_e k) :=
  fn_typed (uorc := uorT (strings_Fields_U4 k)) hmo (T6_ok k).oo (strings_Fields_U4_ok k) (fd := strings_Fields_f) (AllU.seq (AllU.no (by kernel_rfl)) (AllU.seq (AllU.no (by kernel_rfl)) (AllU.seq (AllU.no (by kernel_rfl)) (AllU.seq (AllU.no (by kernel_rfl)) (AllU.seq (AllU.seq (AllU.no (by kernel_rfl)) (AllU.block (AllU.unit (uorc := uorT (strings_Fields_U4 k)) (u := 0) (strings_Fieldsu0_ok k)))) (AllU.seq (AllU.no (by kernel_rfl)) (AllU.seq (AllU.no (by kernel_rfl)) (AllU.seq (AllU.no (by kernel_rfl)) (AllU.seq (AllU.no (by kernel_rfl)) (AllU.seq (AllU.no (by kernel_rfl)) (AllU.seq (AllU.block (AllU.unit (uorc := uorT (strings_Fields_U4 k)) (u := 1) (strings_Fieldsu1_ok k))) (AllU.seq (AllU.no (by kernel_rfl)) (AllU.seq (AllU.block (AllU.unit (uorc := uorT (strings_Fields_U4 k)) (u := 3) (strings_Fieldsu3_ok k))) (AllU.no (by kernel_rfl))))))))))))))) (fn := Tryd.f88) (by kernel_rfl) strings_Fields_m (fun d => by kernel_rfl) FU_nil
noncomputable def T7 (k : Nat) : List (Nat × Ent) := (88, ⟨strings_Fields_e k⟩) :: T6 k
theorem T7_ok (k : Nat) : TabOK P GL (T7 k) := (T6_ok k).cons (strings_Fields_fu k) (strings_Fields_n k)
/-! ### overspill.mcbpc.table$1 -/
noncomputable def mcbpc_table_f1_U0 (_ : Nat) : List (Nat × Ent) := []
theorem mcbpc_table_f1_U0_ok (k : Nat) : UTab (mcbpc_table_f1_U0 k) := UTab.nil
noncomputable def mcbpc_table_f1u0_d : UDef := ⟨[(0, none), (2, none), (9, none), (10, none), (11, none)], [4, 5, 11, 12, 13, 14, 15, 16, 17, 18, 19, 20, 21, 22, 23, 24, 25], [((.exit 0), [])], []⟩
noncomputable def mcbpc_table_f1u0_p : XPat := ⟨.normal, [(.tv (.int .i64)), (.ptr 0 []), (.tv (.sl .str)), (.tv (.int .i64)), (.tv (.int .i64))], [(.box (.row 1)), (.row YReader false)]⟩
noncomputable def mcbpc_table_f1u0_x : List XPat := [⟨(.exit 0), [], [(.box (.row 1)), (.row YReader false)]⟩]
noncomputable def mcbpc_table_f1u0 (k : Nat) : Nat → (Int) → (List (List UInt8)) → (Int) → (Int) → (List (DReader)) → Option ((Unit) × ((Unit) × (List (DReader))))
  | 0, _, _, _, _, _ => none
  | n + 1, x0, x1, x2, x3, x4 =>
    bif (decide (x3 < x2)) then
      bif (inR x3 (List.length x1)) then
        bif (decide ((List.length x4) + 1 ≤ rowMax)) then
          Option.bind (mcbpc_table_f1u0 k n x0 x1 x2 (wr .i64 (x3 + 1)) (x4 ++ ([((List.getD x1 (Int.toNat x3) ([] : List UInt8)), ((wr .i64 ((wr .i64 (10 * x0)) + x3)), ()))] : List (DReader)))) fun r => some r
        else
          none
      else
        none
    else
    some ((), ((), x4))
noncomputable def mcbpc_table_f1u0_b : AC :=
  (.seq (.region [⟨some 12, none, (.op (.bin .lss (.t 11) (.t 10))), []⟩])
  (.seq (.cond (.t 12)
  .skip
  (.exit 0))
  (.seq (.block 1 (.seq (.region [⟨some 13, none, (.op (.mv (.t 11))), []⟩,
    ⟨some 14, none, (.op (.iads .str (.t 9) (.t 11))), []⟩,
    ⟨some 15, none, (.op (.load false 1 (.t 14))), []⟩,
    ⟨some 4, none, (.op (.mv (.t 13))), []⟩,
    ⟨some 5, none, (.op (.mv (.t 15))), []⟩])
  (.region [⟨some 16, none, (.op (.load false 1 (.t 2))), []⟩,
    ⟨some 17, none, (.op (.mv (.t 5))), []⟩,
    ⟨some 18, none, (.op (.mv (.t 0))), []⟩,
    ⟨some 19, none, (.op (.bin .mul (.c (.tv (.int .i64) (10 : Int))) (.t 18))), []⟩,
    ⟨some 20, none, (.op (.mv (.t 4))), []⟩,
    ⟨some 21, none, (.op (.bin .add (.t 19) (.t 20))), []⟩,
    ⟨some 22, none, (.op (.build 122 (.tv YReader) [(0, (.fld 0 0), 1, (.t 17)), (1, (.fld 1 1), 1, (.t 21))])), []⟩,
    ⟨some 23, none, (.op (.bslice YReader [(.t 22)])), []⟩,
    ⟨some 24, none, (.op (.app YReader (.t 16) (.t 23))), []⟩,
    ⟨none, none, (.op (.store 1 none (.t 2) (.t 24))), []⟩])))
  (.region [⟨some 25, none, (.op (.bin .add (.t 11) (.c (.tv (.int .i64) (1 : Int))))), []⟩,
    ⟨some 11, none, (.op (.mv (.t 25))), []⟩]))))
noncomputable def mcbpc_table_f1u0_t (k n : Nat) (d : mcbpc_table_f1u0_p.D) : Option (XD mcbpc_table_f1u0_x) := mcbpc_table_f1u0 k n d.1.1 d.1.2.2.1 d.1.2.2.2.1 d.1.2.2.2.2 d.2.2
theorem mcbpc_table_f1u0_ok (k : Nat) : UOK P GL (mkU mcbpc_table_f1u0_p mcbpc_table_f1u0_x (mcbpc_table_f1u0_t k k) nilU) mcbpc_table_f1u0_d true mcbpc_table_f1u0_b :=
  loop_typed (ud := mcbpc_table_f1u0_d) (body := mcbpc_table_f1u0_b) (uorc := uorT (mcbpc_table_f1_U0 k)) hmo (T7_ok k).oo (mcbpc_table_f1_U0_ok k) (AllU.no (by kernel_rfl)) (t := mcbpc_table_f1u0_t k) (fun d => by kernel_rfl) (fun n d => by kernel_rfl) k
noncomputable def mcbpc_table_f1_U1 (k : Nat) : List (Nat × Ent) := (0, ⟨mkU mcbpc_table_f1u0_p mcbpc_table_f1u0_x (mcbpc_table_f1u0_t k k) nilU⟩) :: mcbpc_table_f1_U0 k
theorem mcbpc_table_f1_U1_ok (k : Nat) : UTab (mcbpc_table_f1_U1 k) := (mcbpc_table_f1_U0_ok k).cons (mkU_nat nilU_nat)
noncomputable def mcbpc_table_f1 (k : Nat) (x0 : Int) (x1 : Bool) (x2 : List (DReader)) : Option ((Unit) × ((Bool) × ((Unit) × (List (DReader))))) :=
  Option.bind (mcbpc_row k x1 x0) fun (v12 : List UInt8) =>
  Option.bind (strings_Fields k v12) fun (v18 : List (List UInt8)) =>
  Option.bind (mcbpc_table_f1u0 k k x0 v18 ((List.length v18 : Nat) : Int) 0 x2) fun (v19 : (Unit) × ((Unit) × (List (DReader)))) =>
  some ((), (x1, ((), v19.2.2)))
noncomputable def mcbpc_table_f1_b : AC :=
  (.seq (.region [⟨some 6, none, (.op (.load false 1 (.t 1))), []⟩,
    ⟨some 7, none, (.op (.mv (.t 0))), []⟩,
    ⟨some 8, none, (.call (.c (.fn 89 .nil .nil)) [((.t 6), none), ((.t 7), none)]), []⟩,
    ⟨some 9, none, (.call (.c (.fn 88 .nil .nil)) [((.t 8), none)]), []⟩,
    ⟨some 10, none, (.op (.len (.t 9))), []⟩,
    ⟨some 11, none, (.op (.mv (.c (.tv (.int .i64) (0 : Int))))), []⟩])
  (.block 0 (.unit 0 mcbpc_table_f1u0_d true mcbpc_table_f1u0_b)))
noncomputable def mcbpc_table_f1_f : FDef := ⟨3, 26, [], mcbpc_table_f1_b⟩
noncomputable def mcbpc_table_f1_p : XPat := ⟨.normal, [(.tv (.int .i64)), (.ptr 0 []), (.ptr 1 [])], [(.box (.tv .bool)), (.box (.row 2)), (.row YReader false)]⟩
noncomputable def mcbpc_table_f1_x : List XPat := [⟨.ret, [(.tup .nil)], [(.box (.tv .bool)), (.box (.row 2)), (.row YReader false)]⟩]
noncomputable def mcbpc_table_f1_t (k : Nat) (d : mcbpc_table_f1_p.D) : Option (XD mcbpc_table_f1_x) := mcbpc_table_f1 k d.1.1 d.2.1 d.2.2.2
noncomputable def mcbpc_table_f1_e (k : Nat) : UEntry := mkU mcbpc_table_f1_p mcbpc_table_f1_x (mcbpc_table_f1_t k) nilU
theorem mcbpc_table_f1_n (k : Nat) : UNat (mcbpc_table_f1_e k) := mkU_nat nilU_nat
theorem mcbpc_table_f1_m : mfn P mcbpc_table_f1_f Tryd.f96 = true := by kernel_rfl
theorem mcbpc_table_f1_fu (k : Nat) : FU P GL 96 (mcbpc_table_f1_e k) :=
  fn_typed (uorc := uorT (mcbpc_table_f1_U1 k)) hmo (T7_ok k).oo (mcbpc_table_f1_U1_ok k) (fd := mcbpc_table_f1_f) (AllU.seq (AllU.no (by kernel_rfl)) (AllU.block (AllU.unit (uorc := uorT (mcbpc_table_f1_U1 k)) (u := 0) (mcbpc_table_f1u0_ok k)))) (fn := Tryd.f96) (by kernel_rfl) mcbpc_table_f1_m (fun d => by kernel_rfl) FU_nil
noncomputable def T8 (k : Nat) : List (Nat × Ent) := (96, ⟨mcbpc_table_f1_e k⟩) :: T7 k
theorem T8_ok (k : Nat) : TabOK P GL (T8 k) := (T7_ok k).cons (mcbpc_table_f1_fu k) (mcbpc_table_f1_n k)
/-! ### strings.trimRightByte -/
noncomputable def strings_trimRightByte_U0 (_ : Nat) : List (Nat × Ent) := []
theorem strings_trimRightByte_U0_ok (k : Nat) : UTab (strings_trimRightByte_U0 k) := UTab.nil
noncomputable def strings_trimRightByteu0_d : UDef := ⟨[(0, none), (1, none)], [0, 5, 6, 7, 8, 9, 10, 11, 12, 13, 14, 15, 16, 17, 18, 19, 20, 21], [((.exit 0), [(0, none)])], []⟩
noncomputable def strings_trimRightByteu0_p : XPat := ⟨.normal, [(.tv .str), (.tv (.int .u8))], []⟩
noncomputable def strings_trimRightByteu0_x : List XPat := [⟨(.exit 0), [(.tv .str)], []⟩]
noncomputable def strings_trimRightByteu0 (k : Nat) : Nat → (List UInt8) → (Int) → Option (List UInt8)
  | 0, _, _ => none
  | n + 1, x0, x1 =>
    bif (decide ((0 : Int) < ((List.length x0 : Nat) : Int))) then
      bif (inR (wr .i64 (((List.length x0 : Nat) : Int) - 1)) (List.length x0)) then
        bif (decide (((UInt8.toNat (List.getD x0 (Int.toNat (wr .i64 (((List.length x0 : Nat) : Int) - 1))) 0) : Nat) : Int) = x1)) then
          bif (decide ((0 : Int) ≤ (wr .i64 (((List.length x0 : Nat) : Int) - 1)) ∧ (wr .i64 (((List.length x0 : Nat) : Int) - 1)) ≤ (((List.length x0) : Nat) : Int))) then
            Option.bind (strings_trimRightByteu0 k n (List.drop 0 (List.take (Int.toNat (wr .i64 (((List.length x0 : Nat) : Int) - 1))) x0)) x1) fun r => some r
          else
            none
        else
        some x0
      else
        none
    else
    some x0
noncomputable def strings_trimRightByteu0_b : AC :=
  (.seq (.seq (.region [⟨some 5, none, (.op (.mv (.t 0))), []⟩,
    ⟨some 6, none, (.op (.lens (.t 5))), []⟩,
    ⟨some 7, none, (.op (.bin .gtr (.t 6) (.c (.tv (.int .i64) (0 : Int))))), []⟩,
    ⟨some 8, none, (.op (.mv (.t 7))), []⟩,
    ⟨some 9, some (3, 8, true), (.op (.mv (.t 0))), []⟩,
    ⟨some 10, some (3, 8, true), (.op (.mv (.t 0))), []⟩,
    ⟨some 11, some (3, 8, true), (.op (.lens (.t 10))), []⟩,
    ⟨some 12, some (3, 8, true), (.op (.bin .sub (.t 11) (.c (.tv (.int .i64) (1 : Int))))), []⟩,
    ⟨some 13, some (3, 8, true), (.op (.ixs (.t 9) (.t 12))), []⟩,
    ⟨some 14, some (3, 8, true), (.op (.mv (.t 1))), []⟩,
    ⟨some 15, some (3, 8, true), (.op (.bin .eql (.t 13) (.t 14))), []⟩,
    ⟨some 16, none, (.op (.pick (.t 8) (.t 15) (.c (.tv .bool (false : Bool))))), []⟩])
  (.cond (.t 16)
  .skip
  (.exit 0)))
  (.block 1 (.region [⟨some 17, none, (.op (.mv (.t 0))), []⟩,
    ⟨some 18, none, (.op (.mv (.t 0))), []⟩,
    ⟨some 19, none, (.op (.lens (.t 18))), []⟩,
    ⟨some 20, none, (.op (.bin .sub (.t 19) (.c (.tv (.int .i64) (1 : Int))))), []⟩,
    ⟨some 21, none, (.op (.slis (.t 17) none (some (.t 20)))), []⟩,
    ⟨some 0, none, (.op (.mv (.t 21))), []⟩])))
noncomputable def strings_trimRightByteu0_t (k n : Nat) (d : strings_trimRightByteu0_p.D) : Option (XD strings_trimRightByteu0_x) := strings_trimRightByteu0 k n d.1 d.2
theorem strings_trimRightByteu0_ok (k : Nat) : UOK P GL (mkU strings_trimRightByteu0_p strings_trimRightByteu0_x (strings_trimRightByteu0_t k k) nilU) strings_trimRightByteu0_d true strings_trimRightByteu0_b :=
  loop_typed (ud := strings_trimRightByteu0_d) (body := strings_trimRightByteu0_b) (uorc := uorT (strings_trimRightByte_U0 k)) hmo (T8_ok k).oo (strings_trimRightByte_U0_ok k) (AllU.no (by kernel_rfl)) (t := strings_trimRightByteu0_t k) (fun d => by kernel_rfl) (fun n d => by kernel_rfl) k
noncomputable def strings_trimRightByte_U1 (k : Nat) : List (Nat × Ent) := (0, ⟨mkU strings_trimRightByteu0_p strings_trimRightByteu0_x (strings_trimRightByteu0_t k k) nilU⟩) :: strings_trimRightByte_U0 k
theorem strings_trimRightByte_U1_ok (k : Nat) : UTab (strings_trimRightByte_U1 k) := (strings_trimRightByte_U0_ok k).cons (mkU_nat nilU_nat)
noncomputable def strings_trimRightByte (k : Nat) (x0 : List UInt8) (x1 : Int) : Option (List UInt8) :=
  Option.bind (strings_trimRightByteu0 k k x0 x1) fun (v26 : List UInt8) =>
  some v26
noncomputable def strings_trimRightByte_b : AC :=
  (.seq (.region [⟨some 4, none, (.op (.mv (.c (.tv .str (([] : List UInt8) : List UInt8))))), []⟩])
  (.seq (.block 0 (.unit 0 strings_trimRightByteu0_d true strings_trimRightByteu0_b))
  (.seq (.region [⟨some 22, none, (.op (.mv (.t 0))), []⟩,
    ⟨some 4, none, (.op (.mv (.t 22))), []⟩])
  .ret)))
noncomputable def strings_trimRightByte_f : FDef := ⟨2, 23, [.tmp 4 none], strings_trimRightByte_b⟩
noncomputable def strings_trimRightByte_p : XPat := ⟨.normal, [(.tv .str), (.tv (.int .u8))], []⟩
noncomputable def strings_trimRightByte_x : List XPat := [⟨.ret, [(.tv .str)], []⟩]
noncomputable def strings_trimRightByte_t (k : Nat) (d : strings_trimRightByte_p.D) : Option (XD strings_trimRightByte_x) := strings_trimRightByte k d.1 d.2
noncomputable def strings_trimRightByte_e (k : Nat) : UEntry := mkU strings_trimRightByte_p strings_trimRightByte_x (strings_trimRightByte_t k) nilU
theorem strings_trimRightByte_n (k : Nat) : UNat (strings_trimRightByte_e k) := mkU_nat nilU_nat
theorem strings_trimRightByte_m : mfn P strings_trimRightByte_f Tryd.f115 = true := by kernel_rfl
theorem strings_trimRightByte_fu (k : Nat) : FU P GL 115 (strings_trimRightByte_e k) :=
  fn_typed (uorc := uorT (strings_trimRightByte_U1 k)) hmo (T8_ok k).oo (strings_trimRightByte_U1_ok k) (fd := strings_trimRightByte_f) (AllU.seq (AllU.no (by kernel_rfl)) (AllU.seq (AllU.block (AllU.unit (uorc := uorT (strings_trimRightByte_U1 k)) (u := 0) (strings_trimRightByteu0_ok k))) (AllU.no (by kernel_rfl)))) (fn := Tryd.f115) (by kernel_rfl) strings_trimRightByte_m (fun d => by kernel_rfl) FU_nil
noncomputable def T9 (k : Nat) : List (Nat × Ent) := (115, ⟨strings_trimRightByte_e k⟩) :: T8 k
theorem T9_ok (k : Nat) : TabOK P GL (T9 k) := (T8_ok k).cons (strings_trimRightByte_fu k) (strings_trimRightByte_n k)
/-! ### strings.trimLeftByte -/
noncomputable def strings_trimLeftByte_U0 (_ : Nat) : List (Nat × Ent) := []
theorem strings_trimLeftByte_U0_ok (k : Nat) : UTab (strings_trimLeftByte_U0 k) := UTab.nil
noncomputable def strings_trimLeftByteu0_d : UDef := ⟨[(0, none), (1, none)], [0, 5, 6, 7, 8, 9, 10, 11, 12, 13, 14, 15], [((.exit 0), [(0, none)])], []⟩
noncomputable def strings_trimLeftByteu0_p : XPat := ⟨.normal, [(.tv .str), (.tv (.int .u8))], []⟩
noncomputable def strings_trimLeftByteu0_x : List XPat := [⟨(.exit 0), [(.tv .str)], []⟩]
noncomputable def strings_trimLeftByteu0 (k : Nat) : Nat → (List UInt8) → (Int) → Option (List UInt8)
  | 0, _, _ => none
  | n + 1, x0, x1 =>
    bif (decide ((0 : Int) < ((List.length x0 : Nat) : Int))) then
      bif (inR 0 (List.length x0)) then
        bif (decide (((UInt8.toNat (List.getD x0 0 0) : Nat) : Int) = x1)) then
          bif (decide ((0 : Int) ≤ 1 ∧ 1 ≤ (((List.length x0) : Nat) : Int))) then
            Option.bind (strings_trimLeftByteu0 k n (List.drop 1 (List.take (List.length x0) x0)) x1) fun r => some r
          else
            none
        else
        some x0
      else
        none
    else
    some x0
noncomputable def strings_trimLeftByteu0_b : AC :=
  (.seq (.seq (.region [⟨some 5, none, (.op (.mv (.t 0))), []⟩,
    ⟨some 6, none, (.op (.lens (.t 5))), []⟩,
    ⟨some 7, none, (.op (.bin .gtr (.t 6) (.c (.tv (.int .i64) (0 : Int))))), []⟩,
    ⟨some 8, none, (.op (.mv (.t 7))), []⟩,
    ⟨some 9, some (3, 8, true), (.op (.mv (.t 0))), []⟩,
    ⟨some 10, some (3, 8, true), (.op (.ixs (.t 9) (.c (.tv (.int .i64) (0 : Int))))), []⟩,
    ⟨some 11, some (3, 8, true), (.op (.mv (.t 1))), []⟩,
    ⟨some 12, some (3, 8, true), (.op (.bin .eql (.t 10) (.t 11))), []⟩,
    ⟨some 13, none, (.op (.pick (.t 8) (.t 12) (.c (.tv .bool (false : Bool))))), []⟩])
  (.cond (.t 13)
  .skip
  (.exit 0)))
  (.block 1 (.region [⟨some 14, none, (.op (.mv (.t 0))), []⟩,
    ⟨some 15, none, (.op (.slis (.t 14) (some (.c (.tv (.int .i64) (1 : Int)))) none)), []⟩,
    ⟨some 0, none, (.op (.mv (.t 15))), []⟩])))
noncomputable def strings_trimLeftByteu0_t (k n : Nat) (d : strings_trimLeftByteu0_p.D) : Option (XD strings_trimLeftByteu0_x) := strings_trimLeftByteu0 k n d.1 d.2
theorem strings_trimLeftByteu0_ok (k : Nat) : UOK P GL (mkU strings_trimLeftByteu0_p strings_trimLeftByteu0_x (strings_trimLeftByteu0_t k k) nilU) strings_trimLeftByteu0_d true strings_trimLeftByteu0_b :=
  loop_typed (ud := strings_trimLeftByteu0_d) (body := strings_trimLeftByteu0_b) (uorc := uorT (strings_trimLeftByte_U0 k)) hmo (T9_ok k).oo (strings_trimLeftByte_U0_ok k) (AllU.no (by kernel_rfl)) (t := strings_trimLeftByteu0_t k) (fun d => by kernel_rfl) (fun n d => by kernel_rfl) k
noncomputable def strings_trimLeftByte_U1 (k : Nat) : List (Nat × Ent) := (0, ⟨mkU strings_trimLeftByteu0_p strings_trimLeftByteu0_x (strings_trimLeftByteu0_t k k) nilU⟩) :: strings_trimLeftByte_U0 k
theorem strings_trimLeftByte_U1_ok (k : Nat) : UTab (strings_trimLeftByte_U1 k) := (strings_trimLeftByte_U0_ok k).cons (mkU_nat nilU_nat)
noncomputable def strings_trimLeftByte (k : Nat) (x0 : List UInt8) (x1 : Int) : Option (List UInt8) :=
  Option.bind (strings_trimLeftByteu0 k k x0 x1) fun (v28 : List UInt8) =>
  some v28
noncomputable def strings_trimLeftByte_b : AC :=
  (.seq (.region [⟨some 4, none, (.op (.mv (.c (.tv .str (([] : List UInt8) : List UInt8))))), []⟩])
  (.seq (.block 0 (.unit 0 strings_trimLeftByteu0_d true strings_trimLeftByteu0_b))
  (.seq (.region [⟨some 16, none, (.op (.mv (.t 0))), []⟩,
    ⟨some 4, none, (.op (.mv (.t 16))), []⟩])
  .ret)))
noncomputable def strings_trimLeftByte_f : FDef := ⟨2, 17, [.tmp 4 none], strings_trimLeftByte_b⟩
noncomputable def strings_trimLeftByte_p : XPat := ⟨.normal, [(.tv .str), (.tv (.int .u8))], []⟩
noncomputable def strings_trimLeftByte_x : List XPat := [⟨.ret, [(.tv .str)], []⟩]
noncomputable def strings_trimLeftByte_t (k : Nat) (d : strings_trimLeftByte_p.D) : Option (XD strings_trimLeftByte_x) := strings_trimLeftByte k d.1 d.2
noncomputable def strings_trimLeftByte_e (k : Nat) : UEntry := mkU strings_trimLeftByte_p strings_trimLeftByte_x (strings_trimLeftByte_t k) nilU
theorem strings_trimLeftByte_n (k : Nat) : UNat (strings_trimLeftByte_e k) := mkU_nat nilU_nat
theorem strings_trimLeftByte_m : mfn P strings_trimLeftByte_f Tryd.f114 = true := by kernel_rfl
theorem strings_trimLeftByte_fu (k : Nat) : FU P GL 114 (strings_trimLeftByte_e k) :=
  fn_typed (uorc := uorT (strings_trimLeftByte_U1 k)) hmo (T9_ok k).oo (strings_trimLeftByte_U1_ok k) (fd := strings_trimLeftByte_f) (AllU.seq (AllU.no (by kernel_rfl)) (AllU.seq (AllU.block (AllU.unit (uorc := uorT (strings_trimLeftByte_U1 k)) (u := 0) (strings_trimLeftByteu0_ok k))) (AllU.no (by kernel_rfl)))) (fn := Tryd.f114) (by kernel_rfl) strings_trimLeftByte_m (fun d => by kernel_rfl) FU_nil
noncomputable def T10 (k : Nat) : List (Nat × Ent) := (114, ⟨strings_trimLeftByte_e k⟩) :: T9 k
theorem T10_ok (k : Nat) : TabOK P GL (T10 k) := (T9_ok k).cons (strings_trimLeftByte_fu k) (strings_trimLeftByte_n k)
/-! ### strings.makeASCIISet -/
noncomputable def strings_makeASCIISet_U0 (_ : Nat) : List (Nat × Ent) := []
theorem strings_makeASCIISet_U0_ok (k : Nat) : UTab (strings_makeASCIISet_U0 k) := UTab.nil
noncomputable def strings_makeASCIISetu0_d : UDef := ⟨[(0, none), (2, none), (4, none)], [3, 4, 5, 6, 7, 8, 9, 10, 11, 12, 13, 14, 15, 16, 17, 18, 19], [(.ret, [(3, none)]), ((.exit 0), [])], []⟩
noncomputable def strings_makeASCIISetu0_p : XPat := ⟨.normal, [(.tv .str), (.ptr 0 []), (.tv (.int .i64))], [(.box (.tv (.arr 256 .bool)))]⟩
noncomputable def strings_makeASCIISetu0_x : List XPat := [⟨.ret, [(.tv .bool)], [(.box (.tv (.arr 256 .bool)))]⟩, ⟨(.exit 0), [], [(.box (.tv (.arr 256 .bool)))]⟩]
noncomputable def strings_makeASCIISetu0 (k : Nat) : Nat → (List UInt8) → (Int) → (List (Bool)) → Option (((Bool) × (List (Bool))) ⊕ ((Unit) × (List (Bool))))
  | 0, _, _, _ => none
  | n + 1, x0, x1, x2 =>
    bif (decide (x1 < ((List.length x0 : Nat) : Int))) then
      bif (inR x1 (List.length x0)) then
        bif (decide ((128 : Int) ≤ ((UInt8.toNat (List.getD x0 (Int.toNat x1) 0) : Nat) : Int))) then
          some (Sum.inl (false, x2))
        else
        bif (inR ((UInt8.toNat (List.getD x0 (Int.toNat x1) 0) : Nat) : Int) 256) then
          Option.bind (strings_makeASCIISetu0 k n x0 (wr .i64 (x1 + 1)) (List.set x2 (Int.toNat ((UInt8.toNat (List.getD x0 (Int.toNat x1) 0) : Nat) : Int)) true)) fun r => Sum.elim (fun w => some (Sum.inl w)) (fun w => some (Sum.inr w)) r
        else
          none
      else
        none
    else
    some (Sum.inr ((), x2))
noncomputable def strings_makeASCIISetu0_b : AC :=
  (.seq (.seq (.region [⟨some 6, none, (.op (.mv (.t 4))), []⟩,
    ⟨some 7, none, (.op (.mv (.t 0))), []⟩,
    ⟨some 8, none, (.op (.lens (.t 7))), []⟩,
    ⟨some 9, none, (.op (.bin .lss (.t 6) (.t 8))), []⟩])
  (.cond (.t 9)
  .skip
  (.exit 0)))
  (.seq (.block 1 (.seq (.region [⟨some 12, none, (.op (.mv (.t 0))), []⟩,
    ⟨some 13, none, (.op (.mv (.t 4))), []⟩,
    ⟨some 14, none, (.op (.ixs (.t 12) (.t 13))), []⟩,
    ⟨some 5, none, (.op (.mv (.t 14))), []⟩])
  (.seq (.seq (.region [⟨some 15, none, (.op (.mv (.t 5))), []⟩,
    ⟨some 16, none, (.op (.bin .geq (.t 15) (.c (.tv (.int .u8) (128 : Int))))), []⟩])
  (.cond (.t 16)
  (.seq (.region [⟨some 17, none, (.op (.load true 256 (.t 2))), []⟩,
      ⟨none, none, (.op (.store 256 none (.t 2) (.t 17))), []⟩,
      ⟨some 3, none, (.op (.mv (.c (.tv .bool (false : Bool))))), []⟩])
    .ret)
  .skip))
  (.region [⟨some 18, none, (.op (.mv (.t 5))), []⟩,
    ⟨some 19, none, (.op (.iad 256 1 (.t 2) (.t 18))), []⟩,
    ⟨none, none, (.op (.store 1 none (.t 19) (.c (.tv .bool (true : Bool))))), []⟩]))))
  (.region [⟨some 10, none, (.op (.mv (.t 4))), []⟩,
    ⟨some 11, none, (.op (.bin .add (.t 10) (.c (.tv (.int .i64) (1 : Int))))), []⟩,
    ⟨some 4, none, (.op (.mv (.t 11))), []⟩])))
noncomputable def strings_makeASCIISetu0_t (k n : Nat) (d : strings_makeASCIISetu0_p.D) : Option (XD strings_makeASCIISetu0_x) := strings_makeASCIISetu0 k n d.1.1 d.1.2.2 d.2
theorem strings_makeASCIISetu0_ok (k : Nat) : UOK P GL (mkU strings_makeASCIISetu0_p strings_makeASCIISetu0_x (strings_makeASCIISetu0_t k k) nilU) strings_makeASCIISetu0_d true strings_makeASCIISetu0_b :=
  loop_typed (ud := strings_makeASCIISetu0_d) (body := strings_makeASCIISetu0_b) (uorc := uorT (strings_makeASCIISet_U0 k)) hmo (T10_ok k).oo (strings_makeASCIISet_U0_ok k) (AllU.no (by kernel_rfl)) (t := strings_makeASCIISetu0_t k) (fun d => by kernel_rfl) (fun n d => by kernel_rfl) k
noncomputable def strings_makeASCIISet_U1 (k : Nat) : List (Nat × Ent) := (0, ⟨mkU strings_makeASCIISetu0_p strings_makeASCIISetu0_x (strings_makeASCIISetu0_t k k) nilU⟩) :: strings_makeASCIISet_U0 k
theorem strings_makeASCIISet_U1_ok (k : Nat) : UTab (strings_makeASCIISet_U1 k) := (strings_makeASCIISet_U0_ok k).cons (mkU_nat nilU_nat)
noncomputable def strings_makeASCIISet (k : Nat) (x0 : List UInt8) : Option ((List (Bool)) × ((Bool) × (Unit))) :=
  Option.bind (strings_makeASCIISetu0 k k x0 0 (Ty.zero (.arr 256 .bool))) fun r =>
  Sum.elim (fun (v30 : (Bool) × (List (Bool))) =>
    some (v30.2, (v30.1, ())))
    (fun (v31 : (Unit) × (List (Bool))) =>
    some (v31.2, (true, ()))) r
noncomputable def strings_makeASCIISet_b : AC :=
  (.seq (.region [⟨some 2, none, (.op (.alloc 177 (.tv (.arr 256 .bool)))), []⟩,
    ⟨some 3, none, (.op (.mv (.c (.tv .bool (false : Bool))))), []⟩])
  (.seq (.seq (.region [⟨some 4, none, (.op (.mv (.c (.tv (.int .i64) (0 : Int))))), []⟩])
  (.block 0 (.unit 0 strings_makeASCIISetu0_d true strings_makeASCIISetu0_b)))
  (.seq (.region [⟨some 20, none, (.op (.load true 256 (.t 2))), []⟩,
    ⟨none, none, (.op (.store 256 none (.t 2) (.t 20))), []⟩,
    ⟨some 3, none, (.op (.mv (.c (.tv .bool (true : Bool))))), []⟩])
  .ret)))
noncomputable def strings_makeASCIISet_f : FDef := ⟨1, 21, [.cell 2 256 true (some (.arr 256 .bool)), .tmp 3 none], strings_makeASCIISet_b⟩
noncomputable def strings_makeASCIISet_p : XPat := ⟨.normal, [(.tv .str)], []⟩
noncomputable def strings_makeASCIISet_x : List XPat := [⟨.ret, [(.tup (.cons (.tv (.arr 256 .bool)) (.cons (.tv .bool) .nil)))], []⟩]
noncomputable def strings_makeASCIISet_t (k : Nat) (d : strings_makeASCIISet_p.D) : Option (XD strings_makeASCIISet_x) := strings_makeASCIISet k d
noncomputable def strings_makeASCIISet_e (k : Nat) : UEntry := mkU strings_makeASCIISet_p strings_makeASCIISet_x (strings_makeASCIISet_t k) nilU
theorem strings_makeASCIISet_n (k : Nat) : UNat (strings_makeASCIISet_e k) := mkU_nat nilU_nat
theorem strings_makeASCIISet_m : mfn P strings_makeASCIISet_f Tryd.f116 = true := by kernel_rfl
theorem strings_makeASCIISet_fu (k : Nat) : FU P GL 116 (strings_makeASCIISet_e k) :=
  fn_typed (uorc := uorT (strings_makeASCIISet_U1 k)) hmo (T10_ok k).oo (strings_makeASCIISet_U1_ok k) (fd := strings_makeASCIISet_f) (AllU.seq (AllU.no (by kernel_rfl)) (AllU.seq (AllU.seq (AllU.no (by kernel_rfl)) (AllU.block (AllU.unit (uorc := uorT (strings_makeASCIISet_U1 k)) (u := 0) (strings_makeASCIISetu0_ok k)))) (AllU.no (by kernel_rfl)))) (fn := Tryd.f116) (by kernel_rfl) strings_makeASCIISet_m (fun d => by kernel_rfl) FU_nil
noncomputable def T11 (k : Nat) : List (Nat × Ent) := (116, ⟨strings_makeASCIISet_e k⟩) :: T10 k
theorem T11_ok (k : Nat) : TabOK P GL (T11 k) := (T10_ok k).cons (strings_makeASCIISet_fu k) (strings_makeASCIISet_n k)
/-! ### (*strings.asciiSet).contains -/
noncomputable def strings_asciiSet_contains_U0 (_ : Nat) : List (Nat × Ent) := []
theorem strings_asciiSet_contains_U0_ok (k : Nat) : UTab (strings_asciiSet_contains_U0 k) := UTab.nil
noncomputable def strings_asciiSet_contains (k : Nat) (x0 : Int) (x1 : List (Bool)) : Option ((Bool) × (List (Bool))) :=
  bif (inR x0 256) then
    some ((List.getD x1 (Int.toNat x0) false), x1)
  else
    none
noncomputable def strings_asciiSet_contains_b : AC :=
  (.seq (.region [⟨some 4, none, (.op (.mv (.c (.tv .bool (false : Bool))))), []⟩])
  (.seq (.region [⟨some 5, none, (.op (.mv (.t 0))), []⟩,
    ⟨some 6, none, (.op (.mv (.t 1))), []⟩,
    ⟨some 7, none, (.op (.nilc (.t 5))), []⟩,
    ⟨some 8, none, (.op (.iad 256 1 (.t 7) (.t 6))), []⟩,
    ⟨some 9, none, (.op (.load false 1 (.t 8))), []⟩,
    ⟨some 4, none, (.op (.mv (.t 9))), []⟩])
  .ret))
noncomputable def strings_asciiSet_contains_f : FDef := ⟨2, 10, [.tmp 4 none], strings_asciiSet_contains_b⟩
noncomputable def strings_asciiSet_contains_p : XPat := ⟨.normal, [(.ptr 0 []), (.tv (.int .u8))], [(.box (.tv (.arr 256 .bool)))]⟩
noncomputable def strings_asciiSet_contains_x : List XPat := [⟨.ret, [(.tv .bool)], [(.box (.tv (.arr 256 .bool)))]⟩]
noncomputable def strings_asciiSet_contains_t (k : Nat) (d : strings_asciiSet_contains_p.D) : Option (XD strings_asciiSet_contains_x) := strings_asciiSet_contains k d.1.2 d.2
noncomputable def strings_asciiSet_contains_e (k : Nat) : UEntry := mkU strings_asciiSet_contains_p strings_asciiSet_contains_x (strings_asciiSet_contains_t k) nilU
theorem strings_asciiSet_contains_n (k : Nat) : UNat (strings_asciiSet_contains_e k) := mkU_nat nilU_nat
theorem strings_asciiSet_contains_m : mfn P strings_asciiSet_contains_f Tryd.f121 = true := by kernel_rfl
theorem strings_asciiSet_contains_fu (k : Nat) : FU P GL 121 (strings_asciiSet_contains_e k) :=
  fn_typed (uorc := uorT (strings_asciiSet_contains_U0 k)) hmo (T11_ok k).oo (strings_asciiSet_contains_U0_ok k) (fd := strings_asciiSet_contains_f) (AllU.no (by kernel_rfl)) (fn := Tryd.f121) (by kernel_rfl) strings_asciiSet_contains_m (fun d => by kernel_rfl) FU_nil
noncomputable def T12 (k : Nat) : List (Nat × Ent) := (121, ⟨strings_asciiSet_contains_e k⟩) :: T11 k
theorem T12_ok (k : Nat) : TabOK P GL (T12 k) := (T11_ok k).cons (strings_asciiSet_contains_fu k) (strings_asciiSet_contains_n k)
/-! ### strings.trimRightASCII -/
noncomputable def strings_trimRightASCII_U0 (_ : Nat) : List (Nat × Ent) := []
theorem strings_trimRightASCII_U0_ok (k : Nat) : UTab (strings_trimRightASCII_U0 k) := UTab.nil
noncomputable def strings_trimRightASCIIu0_d : UDef := ⟨[(0, none), (1, none)], [0, 5, 6, 7, 8, 9, 10, 11, 12, 13, 14, 15, 16, 17, 18, 19, 20], [((.exit 0), [(0, none)])], []⟩
noncomputable def strings_trimRightASCIIu0_p : XPat := ⟨.normal, [(.tv .str), (.ptr 0 [])], [(.box (.tv (.arr 256 .bool)))]⟩
noncomputable def strings_trimRightASCIIu0_x : List XPat := [⟨(.exit 0), [(.tv .str)], [(.box (.tv (.arr 256 .bool)))]⟩]
noncomputable def strings_trimRightASCIIu0 (k : Nat) : Nat → (List UInt8) → (List (Bool)) → Option ((List UInt8) × (List (Bool)))
  | 0, _, _ => none
  | n + 1, x0, x1 =>
    bif (decide ((0 : Int) < ((List.length x0 : Nat) : Int))) then
      bif (inR (wr .i64 (((List.length x0 : Nat) : Int) - 1)) (List.length x0)) then
        Option.bind (strings_asciiSet_contains k ((UInt8.toNat (List.getD x0 (Int.toNat (wr .i64 (((List.length x0 : Nat) : Int) - 1))) 0) : Nat) : Int) x1) fun (v34 : (Bool) × (List (Bool))) =>
        bif (!v34.1) then
          some (x0, v34.2)
        else
        bif (decide ((0 : Int) ≤ (wr .i64 (((List.length x0 : Nat) : Int) - 1)) ∧ (wr .i64 (((List.length x0 : Nat) : Int) - 1)) ≤ (((List.length x0) : Nat) : Int))) then
          Option.bind (strings_trimRightASCIIu0 k n (List.drop 0 (List.take (Int.toNat (wr .i64 (((List.length x0 : Nat) : Int) - 1))) x0)) v34.2) fun r => some r
        else
          none
      else
        none
    else
    some (x0, x1)
noncomputable def strings_trimRightASCIIu0_b : AC :=
  (.seq (.seq (.region [⟨some 5, none, (.op (.mv (.t 0))), []⟩,
    ⟨some 6, none, (.op (.lens (.t 5))), []⟩,
    ⟨some 7, none, (.op (.bin .gtr (.t 6) (.c (.tv (.int .i64) (0 : Int))))), []⟩])
  (.cond (.t 7)
  .skip
  (.exit 0)))
  (.block 1 (.seq (.seq (.region [⟨some 8, none, (.op (.mv (.t 1))), []⟩,
    ⟨some 9, none, (.op (.mv (.t 0))), []⟩,
    ⟨some 10, none, (.op (.mv (.t 0))), []⟩,
    ⟨some 11, none, (.op (.lens (.t 10))), []⟩,
    ⟨some 12, none, (.op (.bin .sub (.t 11) (.c (.tv (.int .i64) (1 : Int))))), []⟩,
    ⟨some 13, none, (.op (.ixs (.t 9) (.t 12))), []⟩,
    ⟨some 14, none, (.call (.c (.fn 121 .nil .nil)) [((.t 8), none), ((.t 13), none)]), []⟩,
    ⟨some 15, none, (.op (.un .not (.t 14))), []⟩])
  (.cond (.t 15)
  (.exit 0)
  .skip))
  (.region [⟨some 16, none, (.op (.mv (.t 0))), []⟩,
    ⟨some 17, none, (.op (.mv (.t 0))), []⟩,
    ⟨some 18, none, (.op (.lens (.t 17))), []⟩,
    ⟨some 19, none, (.op (.bin .sub (.t 18) (.c (.tv (.int .i64) (1 : Int))))), []⟩,
    ⟨some 20, none, (.op (.slis (.t 16) none (some (.t 19)))), []⟩,
    ⟨some 0, none, (.op (.mv (.t 20))), []⟩]))))
noncomputable def strings_trimRightASCIIu0_t (k n : Nat) (d : strings_trimRightASCIIu0_p.D) : Option (XD strings_trimRightASCIIu0_x) := strings_trimRightASCIIu0 k n d.1.1 d.2
theorem strings_trimRightASCIIu0_ok (k : Nat) : UOK P GL (mkU strings_trimRightASCIIu0_p strings_trimRightASCIIu0_x (strings_trimRightASCIIu0_t k k) nilU) strings_trimRightASCIIu0_d true strings_trimRightASCIIu0_b :=
  loop_typed (ud := strings_trimRightASCIIu0_d) (body := strings_trimRightASCIIu0_b) (uorc := uorT (strings_trimRightASCII_U0 k)) hmo (T12_ok k).oo (strings_trimRightASCII_U0_ok k) (AllU.no (by kernel_rfl)) (t := strings_trimRightASCIIu0_t k) (fun d => by kernel_rfl) (fun n d => by kernel_rfl) k
noncomputable def strings_trimRightASCII_U1 (k : Nat) : List (Nat × Ent) := (0, ⟨mkU strings_trimRightASCIIu0_p strings_trimRightASCIIu0_x (strings_trimRightASCIIu0_t k k) nilU⟩) :: strings_trimRightASCII_U0 k
theorem strings_trimRightASCII_U1_ok (k : Nat) : UTab (strings_trimRightASCII_U1 k) := (strings_trimRightASCII_U0_ok k).cons (mkU_nat nilU_nat)
noncomputable def strings_trimRightASCII (k : Nat) (x0 : List UInt8) (x1 : List (Bool)) : Option ((List UInt8) × (List (Bool))) :=
  Option.bind (strings_trimRightASCIIu0 k k x0 x1) fun (v35 : (List UInt8) × (List (Bool))) =>
  some (v35.1, v35.2)
noncomputable def strings_trimRightASCII_b : AC :=
  (.seq (.region [⟨some 4, none, (.op (.mv (.c (.tv .str (([] : List UInt8) : List UInt8))))), []⟩])
  (.seq (.block 0 (.unit 0 strings_trimRightASCIIu0_d true strings_trimRightASCIIu0_b))
  (.seq (.region [⟨some 21, none, (.op (.mv (.t 0))), []⟩,
    ⟨some 4, none, (.op (.mv (.t 21))), []⟩])
  .ret)))
noncomputable def strings_trimRightASCII_f : FDef := ⟨2, 22, [.tmp 4 none], strings_trimRightASCII_b⟩
noncomputable def strings_trimRightASCII_p : XPat := ⟨.normal, [(.tv .str), (.ptr 0 [])], [(.box (.tv (.arr 256 .bool)))]⟩
noncomputable def strings_trimRightASCII_x : List XPat := [⟨.ret, [(.tv .str)], [(.box (.tv (.arr 256 .bool)))]⟩]
noncomputable def strings_trimRightASCII_t (k : Nat) (d : strings_trimRightASCII_p.D) : Option (XD strings_trimRightASCII_x) := strings_trimRightASCII k d.1.1 d.2
noncomputable def strings_trimRightASCII_e (k : Nat) : UEntry := mkU strings_trimRightASCII_p strings_trimRightASCII_x (strings_trimRightASCII_t k) nilU
theorem strings_trimRightASCII_n (k : Nat) : UNat (strings_trimRightASCII_e k) := mkU_nat nilU_nat
theorem strings_trimRightASCII_m : mfn P strings_trimRightASCII_f Tryd.f118 = true := by kernel_rfl
theorem strings_trimRightASCII_fu (k : Nat) : FU P GL 118 (strings_trimRightASCII_e k) :=
  fn_typed (uorc := uorT (strings_trimRightASCII_U1 k)) hmo (T12_ok k).oo (strings_trimRightASCII_U1_ok k) (fd := strings_trimRightASCII_f) (AllU.seq (AllU.no (by kernel_rfl)) (AllU.seq (AllU.block (AllU.unit (uorc := uorT (strings_trimRightASCII_U1 k)) (u := 0) (strings_trimRightASCIIu0_ok k))) (AllU.no (by kernel_rfl)))) (fn := Tryd.f118) (by kernel_rfl) strings_trimRightASCII_m (fun d => by kernel_rfl) FU_nil
noncomputable def T13 (k : Nat) : List (Nat × Ent) := (118, ⟨strings_trimRightASCII_e k⟩) :: T12 k
theorem T13_ok (k : Nat) : TabOK P GL (T13 k) := (T12_ok k).cons (strings_trimRightASCII_fu k) (strings_trimRightASCII_n k)
/-! ### strings.trimLeftASCII -/
noncomputable def strings_trimLeftASCII_U0 (_ : Nat) : List (Nat × Ent) := []
theorem strings_trimLeftASCII_U0_ok (k : Nat) : UTab (strings_trimLeftASCII_U0 k) := UTab.nil
noncomputable def strings_trimLeftASCIIu0_d : UDef := ⟨[(0, none), (1, none)], [0, 5, 6, 7, 8, 9, 10, 11, 12, 13, 14], [((.exit 0), [(0, none)])], []⟩
noncomputable def strings_trimLeftASCIIu0_p : XPat := ⟨.normal, [(.tv .str), (.ptr 0 [])], [(.box (.tv (.arr 256 .bool)))]⟩
noncomputable def strings_trimLeftASCIIu0_x : List XPat := [⟨(.exit 0), [(.tv .str)], [(.box (.tv (.arr 256 .bool)))]⟩]
noncomputable def strings_trimLeftASCIIu0 (k : Nat) : Nat → (List UInt8) → (List (Bool)) → Option ((List UInt8) × (List (Bool)))
  | 0, _, _ => none
  | n + 1, x0, x1 =>
    bif (decide ((0 : Int) < ((List.length x0 : Nat) : Int))) then
      bif (inR 0 (List.length x0)) then
        Option.bind (strings_asciiSet_contains k ((UInt8.toNat (List.getD x0 0 0) : Nat) : Int) x1) fun (v38 : (Bool) × (List (Bool))) =>
        bif (!v38.1) then
          some (x0, v38.2)
        else
        bif (decide ((0 : Int) ≤ 1 ∧ 1 ≤ (((List.length x0) : Nat) : Int))) then
          Option.bind (strings_trimLeftASCIIu0 k n (List.drop 1 (List.take (List.length x0) x0)) v38.2) fun r => some r
        else
          none
      else
        none
    else
    some (x0, x1)
noncomputable def strings_trimLeftASCIIu0_b : AC :=
  (.seq (.seq (.region [⟨some 5, none, (.op (.mv (.t 0))), []⟩,
    ⟨some 6, none, (.op (.lens (.t 5))), []⟩,
    ⟨some 7, none, (.op (.bin .gtr (.t 6) (.c (.tv (.int .i64) (0 : Int))))), []⟩])
  (.cond (.t 7)
  .skip
  (.exit 0)))
  (.block 1 (.seq (.seq (.region [⟨some 8, none, (.op (.mv (.t 1))), []⟩,
    ⟨some 9, none, (.op (.mv (.t 0))), []⟩,
    ⟨some 10, none, (.op (.ixs (.t 9) (.c (.tv (.int .i64) (0 : Int))))), []⟩,
    ⟨some 11, none, (.call (.c (.fn 121 .nil .nil)) [((.t 8), none), ((.t 10), none)]), []⟩,
    ⟨some 12, none, (.op (.un .not (.t 11))), []⟩])
  (.cond (.t 12)
  (.exit 0)
  .skip))
  (.region [⟨some 13, none, (.op (.mv (.t 0))), []⟩,
    ⟨some 14, none, (.op (.slis (.t 13) (some (.c (.tv (.int .i64) (1 : Int)))) none)), []⟩,
    ⟨some 0, none, (.op (.mv (.t 14))), []⟩]))))
noncomputable def strings_trimLeftASCIIu0_t (k n : Nat) (d : strings_trimLeftASCIIu0_p.D) : Option (XD strings_trimLeftASCIIu0_x) := strings_trimLeftASCIIu0 k n d.1.1 d.2
theorem strings_trimLeftASCIIu0_ok (k : Nat) : UOK P GL (mkU strings_trimLeftASCIIu0_p strings_trimLeftASCIIu0_x (strings_trimLeftASCIIu0_t k k) nilU) strings_trimLeftASCIIu0_d true strings_trimLeftASCIIu0_b :=
  loop_typed (ud := strings_trimLeftASCIIu0_d) (body := strings_trimLeftASCIIu0_b) (uorc := uorT (strings_trimLeftASCII_U0 k)) hmo (T13_ok k).oo (strings_trimLeftASCII_U0_ok k) (AllU.no (by kernel_rfl)) (t := strings_trimLeftASCIIu0_t k) (fun d => by kernel_rfl) (fun n d => by kernel_rfl) k
noncomputable def strings_trimLeftASCII_U1 (k : Nat) : List (Nat × Ent) := (0, ⟨mkU strings_trimLeftASCIIu0_p strings_trimLeftASCIIu0_x (strings_trimLeftASCIIu0_t k k) nilU⟩) :: strings_trimLeftASCII_U0 k
theorem strings_trimLeftASCII_U1_ok (k : Nat) : UTab (strings_trimLeftASCII_U1 k) := (strings_trimLeftASCII_U0_ok k).cons (mkU_nat nilU_nat)
noncomputable def strings_trimLeftASCII (k : Nat) (x0 : List UInt8) (x1 : List (Bool)) : Option ((List UInt8) × (List (Bool))) :=
  Option.bind (strings_trimLeftASCIIu0 k k x0 x1) fun (v39 : (List UInt8) × (List (Bool))) =>
  some (v39.1, v39.2)
noncomputable def strings_trimLeftASCII_b : AC :=
  (.seq (.region [⟨some 4, none, (.op (.mv (.c (.tv .str (([] : List UInt8) : List UInt8))))), []⟩])
  (.seq (.block 0 (.unit 0 strings_trimLeftASCIIu0_d true strings_trimLeftASCIIu0_b))
  (.seq (.region [⟨some 15, none, (.op (.mv (.t 0))), []⟩,
    ⟨some 4, none, (.op (.mv (.t 15))), []⟩])
  .ret)))
noncomputable def strings_trimLeftASCII_f : FDef := ⟨2, 16, [.tmp 4 none], strings_trimLeftASCII_b⟩
noncomputable def strings_trimLeftASCII_p : XPat := ⟨.normal, [(.tv .str), (.ptr 0 [])], [(.box (.tv (.arr 256 .bool)))]⟩
noncomputable def strings_trimLeftASCII_x : List XPat := [⟨.ret, [(.tv .str)], [(.box (.tv (.arr 256 .bool)))]⟩]
noncomputable def strings_trimLeftASCII_t (k : Nat) (d : strings_trimLeftASCII_p.D) : Option (XD strings_trimLeftASCII_x) := strings_trimLeftASCII k d.1.1 d.2
noncomputable def strings_trimLeftASCII_e (k : Nat) : UEntry := mkU strings_trimLeftASCII_p strings_trimLeftASCII_x (strings_trimLeftASCII_t k) nilU
theorem strings_trimLeftASCII_n (k : Nat) : UNat (strings_trimLeftASCII_e k) := mkU_nat nilU_nat
theorem strings_trimLeftASCII_m : mfn P strings_trimLeftASCII_f Tryd.f117 = true := by kernel_rfl
theorem strings_trimLeftASCII_fu (k : Nat) : FU P GL 117 (strings_trimLeftASCII_e k) :=
  fn_typed (uorc := uorT (strings_trimLeftASCII_U1 k)) hmo (T13_ok k).oo (strings_trimLeftASCII_U1_ok k) (fd := strings_trimLeftASCII_f) (AllU.seq (AllU.no (by kernel_rfl)) (AllU.seq (AllU.block (AllU.unit (uorc := uorT (strings_trimLeftASCII_U1 k)) (u := 0) (strings_trimLeftASCIIu0_ok k))) (AllU.no (by kernel_rfl)))) (fn := Tryd.f117) (by kernel_rfl) strings_trimLeftASCII_m (fun d => by kernel_rfl) FU_nil
noncomputable def T14 (k : Nat) : List (Nat × Ent) := (117, ⟨strings_trimLeftASCII_e k⟩) :: T13 k
theorem T14_ok (k : Nat) : TabOK P GL (T14 k) := (T13_ok k).cons (strings_trimLeftASCII_fu k) (strings_trimLeftASCII_n k)
/-! ### strings.Trim -/
noncomputable def strings_Trim_U0 (_ : Nat) : List (Nat × Ent) := []
theorem strings_Trim_U0_ok (k : Nat) : UTab (strings_Trim_U0 k) := UTab.nil
noncomputable def strings_Trimu0_d : UDef := ⟨[(0, none), (1, none)], [7, 8, 9, 10, 11, 12], [(.normal, [(12, none)])], []⟩
noncomputable def strings_Trimu0_p : XPat := ⟨.normal, [(.tv .str), (.tv .str)], []⟩
noncomputable def strings_Trimu0_x : List XPat := [⟨.normal, [(.tv .bool)], []⟩]
noncomputable def strings_Trimu0 (k : Nat) (x0 : List UInt8) (x1 : List UInt8) : Option (Bool) :=
  bif (decide (x0 = ([] : List UInt8))) then
    some true
  else
  some (decide (x1 = ([] : List UInt8)))
noncomputable def strings_Trimu0_b : AC :=
  (.region [⟨some 7, none, (.op (.mv (.t 0))), []⟩,
    ⟨some 8, none, (.op (.bin .eql (.t 7) (.c (.tv .str (([] : List UInt8) : List UInt8))))), []⟩,
    ⟨some 9, none, (.op (.mv (.t 8))), []⟩,
    ⟨some 10, some (2, 9, false), (.op (.mv (.t 1))), []⟩,
    ⟨some 11, some (2, 9, false), (.op (.bin .eql (.t 10) (.c (.tv .str (([] : List UInt8) : List UInt8))))), []⟩,
    ⟨some 12, none, (.op (.pick (.t 9) (.c (.tv .bool (true : Bool))) (.t 11))), []⟩])
noncomputable def strings_Trimu0_t (k : Nat) (d : strings_Trimu0_p.D) : Option (XD strings_Trimu0_x) := strings_Trimu0 k d.1 d.2
theorem strings_Trimu0_ok (k : Nat) : UOK P GL (mkU strings_Trimu0_p strings_Trimu0_x (strings_Trimu0_t k) nilU) strings_Trimu0_d false strings_Trimu0_b :=
  unit_typed (ud := strings_Trimu0_d) (body := strings_Trimu0_b) (uorc := uorT (strings_Trim_U0 k)) hmo (T14_ok k).oo (strings_Trim_U0_ok k) (AllU.no (by kernel_rfl)) (fun d => by kernel_rfl)
noncomputable def strings_Trim_U1 (k : Nat) : List (Nat × Ent) := (0, ⟨mkU strings_Trimu0_p strings_Trimu0_x (strings_Trimu0_t k) nilU⟩) :: strings_Trim_U0 k
theorem strings_Trim_U1_ok (k : Nat) : UTab (strings_Trim_U1 k) := (strings_Trim_U0_ok k).cons (mkU_nat nilU_nat)
noncomputable def strings_Trimu1_d : UDef := ⟨[(1, none)], [14, 15, 16, 17, 18, 19, 20, 21], [(.normal, [(21, none)])], []⟩
noncomputable def strings_Trimu1_p : XPat := ⟨.normal, [(.tv .str)], []⟩
noncomputable def strings_Trimu1_x : List XPat := [⟨.normal, [(.tv .bool)], []⟩]
noncomputable def strings_Trimu1 (k : Nat) (x0 : List UInt8) : Option (Bool) :=
  bif (decide (((List.length x0 : Nat) : Int) = 1)) then
    bif (inR 0 (List.length x0)) then
      some (decide (((UInt8.toNat (List.getD x0 0 0) : Nat) : Int) < 128))
    else
      none
  else
  some false
noncomputable def strings_Trimu1_b : AC :=
  (.region [⟨some 14, none, (.op (.mv (.t 1))), []⟩,
    ⟨some 15, none, (.op (.lens (.t 14))), []⟩,
    ⟨some 16, none, (.op (.bin .eql (.t 15) (.c (.tv (.int .i64) (1 : Int))))), []⟩,
    ⟨some 17, none, (.op (.mv (.t 16))), []⟩,
    ⟨some 18, some (3, 17, true), (.op (.mv (.t 1))), []⟩,
    ⟨some 19, some (3, 17, true), (.op (.ixs (.t 18) (.c (.tv (.int .i64) (0 : Int))))), []⟩,
    ⟨some 20, some (3, 17, true), (.op (.bin .lss (.t 19) (.c (.tv (.int .u8) (128 : Int))))), []⟩,
    ⟨some 21, none, (.op (.pick (.t 17) (.t 20) (.c (.tv .bool (false : Bool))))), []⟩])
noncomputable def strings_Trimu1_t (k : Nat) (d : strings_Trimu1_p.D) : Option (XD strings_Trimu1_x) := strings_Trimu1 k d
theorem strings_Trimu1_ok (k : Nat) : UOK P GL (mkU strings_Trimu1_p strings_Trimu1_x (strings_Trimu1_t k) nilU) strings_Trimu1_d false strings_Trimu1_b :=
  unit_typed (ud := strings_Trimu1_d) (body := strings_Trimu1_b) (uorc := uorT (strings_Trim_U1 k)) hmo (T14_ok k).oo (strings_Trim_U1_ok k) (AllU.no (by kernel_rfl)) (fun d => by kernel_rfl)
noncomputable def strings_Trim_U2 (k : Nat) : List (Nat × Ent) := (1, ⟨mkU strings_Trimu1_p strings_Trimu1_x (strings_Trimu1_t k) nilU⟩) :: strings_Trim_U1 k
theorem strings_Trim_U2_ok (k : Nat) : UTab (strings_Trim_U2 k) := (strings_Trim_U1_ok k).cons (mkU_nat nilU_nat)
noncomputable def strings_Trim (k : Nat) (x0 : List UInt8) (x1 : List UInt8) : Option (List UInt8) :=
  Option.bind (strings_Trimu0 k x0 x1) fun (v24 : Bool) =>
  bif v24 then
    some x0
  else
  Option.bind (strings_Trimu1 k x1) fun (v25 : Bool) =>
  bif v25 then
    bif (inR 0 (List.length x1)) then
      Option.bind (strings_trimRightByte k x0 ((UInt8.toNat (List.getD x1 0 0) : Nat) : Int)) fun (v27 : List UInt8) =>
      bif (inR 0 (List.length x1)) then
        Option.bind (strings_trimLeftByte k v27 ((UInt8.toNat (List.getD x1 0 0) : Nat) : Int)) fun (v29 : List UInt8) =>
        some v29
      else
        none
    else
      none
  else
  Option.bind (strings_makeASCIISet k x1) fun (v32 : (List (Bool)) × ((Bool) × (Unit))) =>
  bif v32.2.1 then
    Option.bind (strings_trimRightASCII k x0 v32.1) fun (v36 : (List UInt8) × (List (Bool))) =>
    Option.bind (strings_trimLeftASCII k v36.1 v36.2) fun (v40 : (List UInt8) × (List (Bool))) =>
    some v40.1
  else
    none
noncomputable def strings_Trim_b : AC :=
  (.seq (.region [⟨some 4, none, (.op (.mv (.c (.tv .str (([] : List UInt8) : List UInt8))))), []⟩])
  (.seq (.seq (.unit 0 strings_Trimu0_d false strings_Trimu0_b)
  (.cond (.t 12)
  (.seq (.region [⟨some 13, none, (.op (.mv (.t 0))), []⟩,
      ⟨some 4, none, (.op (.mv (.t 13))), []⟩])
    .ret)
  .skip))
  (.seq (.seq (.unit 1 strings_Trimu1_d false strings_Trimu1_b)
  (.cond (.t 21)
  (.seq (.draw [⟨some 22, none, (.op (.mv (.t 0))), []⟩,
      ⟨some 23, none, (.op (.mv (.t 1))), []⟩,
      ⟨some 24, none, (.op (.ixs (.t 23) (.c (.tv (.int .i64) (0 : Int))))), [1]⟩,
      ⟨some 25, none, (.call (.c (.fn 115 .nil .nil)) [((.t 22), none), ((.t 24), none)]), [0, 1, 2]⟩,
      ⟨some 26, none, (.op (.mv (.t 1))), []⟩,
      ⟨some 27, none, (.op (.ixs (.t 26) (.c (.tv (.int .i64) (0 : Int))))), [4]⟩,
      ⟨some 28, none, (.call (.c (.fn 114 .nil .nil)) [((.t 25), none), ((.t 27), none)]), [0, 1, 2, 3, 4, 5]⟩,
      ⟨some 4, none, (.op (.mv (.t 28))), [0, 1, 2, 3, 4, 5, 6]⟩])
    .ret)
  .skip))
  (.seq (.seq (.region [⟨some 30, none, (.op (.mv (.t 1))), []⟩,
    ⟨some 31, none, (.call (.c (.fn 116 .nil .nil)) [((.t 30), none)]), []⟩,
    ⟨some 29, none, (.op (.mv (.t 31))), []⟩,
    ⟨some 32, none, (.op (.ext (.t 29) 0)), []⟩,
    ⟨some 33, none, (.op (.ext (.t 29) 1)), []⟩,
    ⟨some 5, none, (.op (.alloc 177 (.tv (.arr 256 .bool)))), []⟩,
    ⟨none, none, (.op (.store 256 none (.t 5) (.t 32))), []⟩,
    ⟨some 6, none, (.op (.mv (.t 33))), []⟩])
  (.seq (.region [⟨some 34, none, (.op (.mv (.t 6))), []⟩])
  (.cond (.t 34)
  (.seq (.region [⟨some 35, none, (.op (.mv (.t 0))), []⟩,
      ⟨some 36, none, (.call (.c (.fn 118 .nil .nil)) [((.t 35), none), ((.t 5), none)]), []⟩,
      ⟨some 37, none, (.call (.c (.fn 117 .nil .nil)) [((.t 36), none), ((.t 5), none)]), []⟩,
      ⟨some 4, none, (.op (.mv (.t 37))), []⟩])
    .ret)
  .skip)))
  (.seq (.region [⟨some 38, none, (.op (.mv (.t 0))), []⟩,
    ⟨some 39, none, (.op (.mv (.t 1))), []⟩,
    ⟨some 40, none, .op .bad, []⟩,
    ⟨some 41, none, .op .bad, []⟩,
    ⟨some 42, none, .op .bad, []⟩,
    ⟨some 4, none, .op .bad, []⟩])
  .ret)))))
noncomputable def strings_Trim_f : FDef := ⟨2, 43, [.tmp 4 none], strings_Trim_b⟩
noncomputable def strings_Trim_p : XPat := ⟨.normal, [(.tv .str), (.tv .str)], []⟩
noncomputable def strings_Trim_x : List XPat := [⟨.ret, [(.tv .str)], []⟩]
noncomputable def strings_Trim_t (k : Nat) (d : strings_Trim_p.D) : Option (XD strings_Trim_x) := strings_Trim k d.1 d.2
noncomputable def strings_Trim_e (k : Nat) : UEntry := mkU strings_Trim_p strings_Trim_x (strings_Trim_t k) nilU
theorem strings_Trim_n (k : Nat) : UNat (strings_Trim_e k) := mkU_nat nilU_nat
theorem strings_Trim_m : mfn P strings_Trim_f Tryd.f108 = true := by kernel_rfl
theorem strings_Trim_fu (k : Nat) : FU P GL 108 (strings_Trim_e k) :=
  fn_typed (uorc := uorT (strings_Trim_U2 k)) hmo (T14_ok k).oo (strings_Trim_U2_ok k) (fd := strings_Trim_f) (AllU.seq (AllU.no (by kernel_rfl)) (AllU.seq (AllU.seq (AllU.unit (uorc := uorT (strings_Trim_U2 k)) (u := 0) (strings_Trimu0_ok k)) (AllU.no (by kernel_rfl))) (AllU.seq (AllU.seq (AllU.unit (uorc := uorT (strings_Trim_U2 k)) (u := 1) (strings_Trimu1_ok k)) (AllU.no (by kernel_rfl))) (AllU.no (by kernel_rfl))))) (fn := Tryd.f108) (by kernel_rfl) strings_Trim_m (fun d => by kernel_rfl) FU_nil
noncomputable def T15 (k : Nat) : List (Nat × Ent) := (108, ⟨strings_Trim_e k⟩) :: T14 k
theorem T15_ok (k : Nat) : TabOK P GL (T15 k) := (T14_ok k).cons (strings_Trim_fu k) (strings_Trim_n k)
/-! ### overspill.prefix.right -/
noncomputable def prefix_right_U0 (_ : Nat) : List (Nat × Ent) := []
theorem prefix_right_U0_ok (k : Nat) : UTab (prefix_right_U0 k) := UTab.nil
noncomputable def prefix_right (k : Nat) (x0 : List UInt8) : Option (Bool) :=
  bif (!(decide (x0 = ([] : List UInt8)))) then
    bif (decide (((List.length x0 : Nat) : Int) ≤ 24)) then
      Option.bind (strings_Trim k x0 ([48, 49] : List UInt8)) fun (v41 : List UInt8) =>
      some (decide (v41 = ([] : List UInt8)))
    else
    some false
  else
  some false
noncomputable def prefix_right_b : AC :=
  (.seq (.region [⟨some 2, none, (.op (.mv (.c (.tv .bool (false : Bool))))), []⟩])
  (.seq (.region [⟨some 3, none, (.op (.mv (.t 0))), []⟩,
    ⟨some 4, none, (.op (.bin .neq (.t 3) (.c (.tv .str (([] : List UInt8) : List UInt8))))), []⟩,
    ⟨some 5, none, (.op (.mv (.t 4))), []⟩,
    ⟨some 6, some (2, 5, true), (.op (.mv (.t 0))), []⟩,
    ⟨some 7, some (2, 5, true), (.op (.lens (.t 6))), []⟩,
    ⟨some 8, some (2, 5, true), (.op (.bin .leq (.t 7) (.c (.tv (.int .i64) (24 : Int))))), []⟩,
    ⟨some 9, none, (.op (.pick (.t 5) (.t 8) (.c (.tv .bool (false : Bool))))), []⟩,
    ⟨some 10, none, (.op (.mv (.t 9))), []⟩,
    ⟨some 11, some (7, 10, true), (.op (.mv (.t 0))), []⟩,
    ⟨some 12, some (7, 10, true), (.call (.c (.fn 108 .nil .nil)) [((.t 11), none), ((.c (.tv .str (([48, 49] : List UInt8) : List UInt8))), none)]), []⟩,
    ⟨some 13, some (7, 10, true), (.op (.bin .eql (.t 12) (.c (.tv .str (([] : List UInt8) : List UInt8))))), []⟩,
    ⟨some 14, none, (.op (.pick (.t 10) (.t 13) (.c (.tv .bool (false : Bool))))), []⟩,
    ⟨some 2, none, (.op (.mv (.t 14))), []⟩])
  .ret))
noncomputable def prefix_right_f : FDef := ⟨1, 15, [.tmp 2 none], prefix_right_b⟩
noncomputable def prefix_right_p : XPat := ⟨.normal, [(.tv .str)], []⟩
noncomputable def prefix_right_x : List XPat := [⟨.ret, [(.tv .bool)], []⟩]
noncomputable def prefix_right_t (k : Nat) (d : prefix_right_p.D) : Option (XD prefix_right_x) := prefix_right k d
noncomputable def prefix_right_e (k : Nat) : UEntry := mkU prefix_right_p prefix_right_x (prefix_right_t k) nilU
theorem prefix_right_n (k : Nat) : UNat (prefix_right_e k) := mkU_nat nilU_nat
theorem prefix_right_m : mfn P prefix_right_f Tryd.f105 = true := by kernel_rfl
theorem prefix_right_fu (k : Nat) : FU P GL 105 (prefix_right_e k) :=
  fn_typed (uorc := uorT (prefix_right_U0 k)) hmo (T15_ok k).oo (prefix_right_U0_ok k) (fd := prefix_right_f) (AllU.no (by kernel_rfl)) (fn := Tryd.f105) (by kernel_rfl) prefix_right_m (fun d => by kernel_rfl) FU_nil
noncomputable def T16 (k : Nat) : List (Nat × Ent) := (105, ⟨prefix_right_e k⟩) :: T15 k
theorem T16_ok (k : Nat) : TabOK P GL (T16 k) := (T15_ok k).cons (prefix_right_fu k) (prefix_right_n k)
/-! ### (*overspill.prefix.Table[int]).add -/
noncomputable def prefix_Table_add_int_U0 (_ : Nat) : List (Nat × Ent) := []
theorem prefix_Table_add_int_U0_ok (k : Nat) : UTab (prefix_Table_add_int_U0 k) := UTab.nil
noncomputable def prefix_Table_add_intu0_d : UDef := ⟨[(0, none), (3, none), (6, none)], [21, 22, 23, 24, 25, 26, 27, 28, 29, 30, 31, 32, 33, 34, 35, 36, 37], [(.normal, [(37, none)])], []⟩
noncomputable def prefix_Table_add_intu0_p : XPat := ⟨.normal, [(.ptr 0 []), (.ptr 4 []), (.tv .bool)], [(.box (.cons (.row 5) (.cons (.mp 1) (.cons (.mp 2) (.cons (.mp 3) (.cons (.tv (.int .i64)) .nil)))))), (.mp .str), (.mp (.int .i64)), (.mp .str), (.box (.tv YReader)), (.row YReader false)]⟩
noncomputable def prefix_Table_add_intu0_x : List XPat := [⟨.normal, [(.tv .bool)], [(.box (.cons (.row 5) (.cons (.mp 1) (.cons (.mp 2) (.cons (.mp 3) (.cons (.tv (.int .i64)) .nil)))))), (.mp .str), (.mp (.int .i64)), (.mp .str), (.box (.tv YReader)), (.row YReader false)]⟩]
noncomputable def prefix_Table_add_intu0 (k : Nat) (x0 : Bool) (x1 : Int) (x2 : List ((List UInt8) × Int)) (x3 : List ((Int) × Int)) (x4 : List ((List UInt8) × Int)) (x5 : DReader) (x6 : List (DReader)) : Option ((Bool) × (((Unit) × ((Unit) × ((Unit) × ((Unit) × ((Int) × (Unit)))))) × ((List ((List UInt8) × Int)) × ((List ((Int) × Int)) × ((List ((List UInt8) × Int)) × ((DReader) × (List (DReader)))))))) :=
  bif x0 then
    some (true, (((), ((), ((), ((), (x1, ()))))), (x2, (x3, (x4, (x5, x6))))))
  else
  Option.bind (prefix_right k x5.1) fun (v43 : Bool) =>
  bif (!v43) then
    some (true, (((), ((), ((), ((), (x1, ()))))), (x2, (x3, (x4, (x5, x6))))))
  else
  some ((decide ((0 : Int) < (mval .str x5.1 x4))), (((), ((), ((), ((), (x1, ()))))), (x2, (x3, (x4, (x5, x6))))))
noncomputable def prefix_Table_add_intu0_b : AC :=
  (.draw [⟨some 21, none, (.op (.mv (.t 6))), []⟩,
    ⟨some 22, none, (.op (.mv (.t 21))), [0]⟩,
    ⟨some 23, some (1, 22, false), (.op (.fad 0 0 (.t 3))), [0, 1]⟩,
    ⟨some 24, some (1, 22, false), (.op (.load false 1 (.t 23))), [0, 1, 2]⟩,
    ⟨some 25, some (1, 22, false), (.call (.c (.fn 105 .nil .nil)) [((.t 24), none)]), [0, 1, 2, 3]⟩,
    ⟨some 26, some (1, 22, false), (.op (.un .not (.t 25))), [0, 1, 2, 3, 4]⟩,
    ⟨some 27, none, (.op (.pick (.t 22) (.c (.tv .bool (true : Bool))) (.t 26))), [0, 1, 2, 3, 4, 5]⟩,
    ⟨some 28, none, (.op (.mv (.t 27))), [0, 1, 2, 3, 4, 5, 6]⟩,
    ⟨some 29, some (7, 28, false), (.op (.mv (.t 0))), [0, 1, 2, 3, 4, 5, 6, 7]⟩,
    ⟨some 30, some (7, 28, false), (.op (.nilc (.t 29))), [0, 1, 2, 3, 4, 5, 6, 7, 8]⟩,
    ⟨some 31, some (7, 28, false), (.op (.fad 3 3 (.t 30))), [0, 1, 2, 3, 4, 5, 6, 7, 8, 9]⟩,
    ⟨some 32, some (7, 28, false), (.op (.load false 1 (.t 31))), [0, 1, 2, 3, 4, 5, 6, 7, 8, 9, 10]⟩,
    ⟨some 33, some (7, 28, false), (.op (.fad 0 0 (.t 3))), [0, 1, 2, 3, 4, 5, 6, 7]⟩,
    ⟨some 34, some (7, 28, false), (.op (.load false 1 (.t 33))), [0, 1, 2, 3, 4, 5, 6, 7, 12]⟩,
    ⟨some 35, some (7, 28, false), (.op (.mlook .str false (.t 32) (.t 34))), [0, 1, 2, 3, 4, 5, 6, 7, 8, 9, 10, 11, 12, 13]⟩,
    ⟨some 36, some (7, 28, false), (.op (.bin .gtr (.t 35) (.c (.tv (.int .i64) (0 : Int))))), [0, 1, 2, 3, 4, 5, 6, 7, 8, 9, 10, 11, 12, 13, 14]⟩,
    ⟨some 37, none, (.op (.pick (.t 28) (.c (.tv .bool (true : Bool))) (.t 36))), [0, 1, 2, 3, 4, 5, 6, 7, 8, 9, 10, 11, 12, 13, 14, 15]⟩])
noncomputable def prefix_Table_add_intu0_t (k : Nat) (d : prefix_Table_add_intu0_p.D) : Option (XD prefix_Table_add_intu0_x) := prefix_Table_add_intu0 k d.1.2.2 d.2.1.2.2.2.2.1 d.2.2.1 d.2.2.2.1 d.2.2.2.2.1 d.2.2.2.2.2.1 d.2.2.2.2.2.2
theorem prefix_Table_add_intu0_ok (k : Nat) : UOK P GL (mkU prefix_Table_add_intu0_p prefix_Table_add_intu0_x (prefix_Table_add_intu0_t k) nilU) prefix_Table_add_intu0_d false prefix_Table_add_intu0_b :=
  unit_typed (ud := prefix_Table_add_intu0_d) (body := prefix_Table_add_intu0_b) (uorc := uorT (prefix_Table_add_int_U0 k)) hmo (T16_ok k).oo (prefix_Table_add_int_U0_ok k) (AllU.no (by kernel_rfl)) (fun d => by kernel_rfl)
noncomputable def prefix_Table_add_int_U1 (k : Nat) : List (Nat × Ent) := (0, ⟨mkU prefix_Table_add_intu0_p prefix_Table_add_intu0_x (prefix_Table_add_intu0_t k) nilU⟩) :: prefix_Table_add_int_U0 k
theorem prefix_Table_add_int_U1_ok (k : Nat) : UTab (prefix_Table_add_int_U1 k) := (prefix_Table_add_int_U0_ok k).cons (mkU_nat nilU_nat)
noncomputable def prefix_Table_add_intu1_d : UDef := ⟨[(0, none), (3, none), (40, none), (41, none)], [4, 7, 8, 9, 41, 42, 43, 44, 45, 46, 47, 48, 49, 50, 51, 52, 53, 54, 55, 56, 57, 58], [(.ret, [(4, none)]), ((.exit 0), [])], []⟩
noncomputable def prefix_Table_add_intu1_p : XPat := ⟨.normal, [(.ptr 0 []), (.ptr 4 []), (.tv (.int .i64)), (.tv (.int .i64))], [(.box (.cons (.row 5) (.cons (.mp 1) (.cons (.mp 2) (.cons (.mp 3) (.cons (.tv (.int .i64)) .nil)))))), (.mp .str), (.mp (.int .i64)), (.mp .str), (.box (.tv YReader)), (.row YReader false)]⟩
noncomputable def prefix_Table_add_intu1_x : List XPat := [⟨.ret, [(.tv .bool)], [(.box (.cons (.row 5) (.cons (.mp 1) (.cons (.mp 2) (.cons (.mp 3) (.cons (.tv (.int .i64)) .nil)))))), (.mp .str), (.mp (.int .i64)), (.mp .str), (.box (.tv YReader)), (.row YReader false)]⟩, ⟨(.exit 0), [], [(.box (.cons (.row 5) (.cons (.mp 1) (.cons (.mp 2) (.cons (.mp 3) (.cons (.tv (.int .i64)) .nil)))))), (.mp .str), (.mp (.int .i64)), (.mp .str), (.box (.tv YReader)), (.row YReader false)]⟩]
noncomputable def prefix_Table_add_intu1 (k : Nat) : Nat → (Int) → (Int) → (Int) → (List ((List UInt8) × Int)) → (List ((Int) × Int)) → (List ((List UInt8) × Int)) → (DReader) → (List (DReader)) → Option (((Bool) × (((Unit) × ((Unit) × ((Unit) × ((Unit) × ((Int) × (Unit)))))) × ((List ((List UInt8) × Int)) × ((List ((Int) × Int)) × ((List ((List UInt8) × Int)) × ((DReader) × (List (DReader)))))))) ⊕ ((Unit) × (((Unit) × ((Unit) × ((Unit) × ((Unit) × ((Int) × (Unit)))))) × ((List ((List UInt8) × Int)) × ((List ((Int) × Int)) × ((List ((List UInt8) × Int)) × ((DReader) × (List (DReader)))))))))
  | 0, _, _, _, _, _, _, _, _ => none
  | n + 1, x0, x1, x2, x3, x4, x5, x6, x7 =>
    bif (decide (x1 < x0)) then
      bif (decide ((0 : Int) ≤ (wr .i64 (x1 + 1)) ∧ (wr .i64 (x1 + 1)) ≤ (((List.length x6.1) : Nat) : Int))) then
        bif (mhas .str (List.drop 0 (List.take (Int.toNat (wr .i64 (x1 + 1))) x6.1)) x3) then
          some (Sum.inl (false, (((), ((), ((), ((), (x2, ()))))), (x3, (x4, (x5, (x6, x7)))))))
        else
        Option.bind (prefix_Table_add_intu1 k n x0 (wr .i64 (x1 + 1)) x2 x3 x4 x5 x6 x7) fun r => Sum.elim (fun w => some (Sum.inl w)) (fun w => some (Sum.inr w)) r
      else
        none
    else
    some (Sum.inr ((), (((), ((), ((), ((), (x2, ()))))), (x3, (x4, (x5, (x6, x7)))))))
noncomputable def prefix_Table_add_intu1_b : AC :=
  (.seq (.region [⟨some 42, none, (.op (.bin .lss (.t 41) (.t 40))), []⟩])
  (.seq (.cond (.t 42)
  .skip
  (.exit 0))
  (.seq (.block 1 (.seq (.region [⟨some 43, none, (.op (.mv (.t 41))), []⟩,
    ⟨some 7, none, (.op (.mv (.t 43))), []⟩])
  (.seq (.draw [⟨some 45, none, (.op (.mv (.t 0))), []⟩,
    ⟨some 46, none, (.op (.nilc (.t 45))), [0]⟩,
    ⟨some 47, none, (.op (.fad 1 1 (.t 46))), [0, 1]⟩,
    ⟨some 48, none, (.op (.load false 1 (.t 47))), [0, 1, 2]⟩,
    ⟨some 49, none, (.op (.fad 0 0 (.t 3))), []⟩,
    ⟨some 50, none, (.op (.load false 1 (.t 49))), [4]⟩,
    ⟨some 51, none, (.op (.mv (.t 7))), []⟩,
    ⟨some 52, none, (.op (.bin .add (.t 51) (.c (.tv (.int .i64) (1 : Int))))), [6]⟩,
    ⟨some 53, none, (.op (.slis (.t 50) none (some (.t 52)))), [4, 5, 6, 7]⟩,
    ⟨some 54, none, (.op (.mlook .str true (.t 48) (.t 53))), [0, 1, 2, 3, 4, 5, 6, 7, 8]⟩,
    ⟨some 44, none, (.op (.mv (.t 54))), [0, 1, 2, 3, 4, 5, 6, 7, 8, 9]⟩,
    ⟨some 55, none, (.op (.ext (.t 44) 0)), [0, 1, 2, 3, 4, 5, 6, 7, 8, 9, 10]⟩,
    ⟨some 56, none, (.op (.ext (.t 44) 1)), [0, 1, 2, 3, 4, 5, 6, 7, 8, 9, 10]⟩,
    ⟨some 8, none, (.op (.mv (.t 55))), [0, 1, 2, 3, 4, 5, 6, 7, 8, 9, 10, 11]⟩,
    ⟨some 9, none, (.op (.mv (.t 56))), [0, 1, 2, 3, 4, 5, 6, 7, 8, 9, 10, 11, 12, 13]⟩])
  (.seq (.region [⟨some 57, none, (.op (.mv (.t 9))), []⟩])
  (.cond (.t 57)
  (.seq (.region [⟨some 4, none, (.op (.mv (.c (.tv .bool (false : Bool))))), []⟩])
    .ret)
  .skip)))))
  (.region [⟨some 58, none, (.op (.bin .add (.t 41) (.c (.tv (.int .i64) (1 : Int))))), []⟩,
    ⟨some 41, none, (.op (.mv (.t 58))), []⟩]))))
noncomputable def prefix_Table_add_intu1_t (k n : Nat) (d : prefix_Table_add_intu1_p.D) : Option (XD prefix_Table_add_intu1_x) := prefix_Table_add_intu1 k n d.1.2.2.1 d.1.2.2.2 d.2.1.2.2.2.2.1 d.2.2.1 d.2.2.2.1 d.2.2.2.2.1 d.2.2.2.2.2.1 d.2.2.2.2.2.2
theorem prefix_Table_add_intu1_ok (k : Nat) : UOK P GL (mkU prefix_Table_add_intu1_p prefix_Table_add_intu1_x (prefix_Table_add_intu1_t k k) nilU) prefix_Table_add_intu1_d true prefix_Table_add_intu1_b :=
  loop_typed (ud := prefix_Table_add_intu1_d) (body := prefix_Table_add_intu1_b) (uorc := uorT (prefix_Table_add_int_U1 k)) hmo (T16_ok k).oo (prefix_Table_add_int_U1_ok k) (AllU.no (by kernel_rfl)) (t := prefix_Table_add_intu1_t k) (fun d => by kernel_rfl) (fun n d => by kernel_rfl) k
noncomputable def prefix_Table_add_int_U2 (k : Nat) : List (Nat × Ent) := (1, ⟨mkU prefix_Table_add_intu1_p prefix_Table_add_intu1_x (prefix_Table_add_intu1_t k k) nilU⟩) :: prefix_Table_add_int_U1 k
theorem prefix_Table_add_int_U2_ok (k : Nat) : UTab (prefix_Table_add_int_U2 k) := (prefix_Table_add_int_U1_ok k).cons (mkU_nat nilU_nat)
noncomputable def prefix_Table_add_intu2_d : UDef := ⟨[(0, none), (3, none), (61, none), (62, none)], [10, 62, 63, 64, 65, 66, 67, 68, 69, 70, 71, 72, 73, 74, 75, 76], [((.exit 2), [])], []⟩
noncomputable def prefix_Table_add_intu2_p : XPat := ⟨.normal, [(.ptr 0 []), (.ptr 4 []), (.tv (.int .i64)), (.tv (.int .i64))], [(.box (.cons (.row 5) (.cons (.mp 1) (.cons (.mp 2) (.cons (.mp 3) (.cons (.tv (.int .i64)) .nil)))))), (.mp .str), (.mp (.int .i64)), (.mp .str), (.box (.tv YReader)), (.row YReader false)]⟩
noncomputable def prefix_Table_add_intu2_x : List XPat := [⟨(.exit 2), [], [(.box (.cons (.row 5) (.cons (.mp 1) (.cons (.mp 2) (.cons (.mp 3) (.cons (.tv (.int .i64)) .nil)))))), (.mp .str), (.mp (.int .i64)), (.mp .str), (.box (.tv YReader)), (.row YReader false)]⟩]
noncomputable def prefix_Table_add_intu2 (k : Nat) : Nat → (Int) → (Int) → (Int) → (List ((List UInt8) × Int)) → (List ((Int) × Int)) → (List ((List UInt8) × Int)) → (DReader) → (List (DReader)) → Option ((Unit) × (((Unit) × ((Unit) × ((Unit) × ((Unit) × ((Int) × (Unit)))))) × ((List ((List UInt8) × Int)) × ((List ((Int) × Int)) × ((List ((List UInt8) × Int)) × ((DReader) × (List (DReader))))))))
  | 0, _, _, _, _, _, _, _, _ => none
  | n + 1, x0, x1, x2, x3, x4, x5, x6, x7 =>
    bif (decide (x1 < x0)) then
      bif (decide ((0 : Int) ≤ (wr .i64 (x1 + 1)) ∧ (wr .i64 (x1 + 1)) ≤ (((List.length x6.1) : Nat) : Int))) then
        Option.bind (prefix_Table_add_intu2 k n x0 (wr .i64 (x1 + 1)) x2 x3 x4 (mset .str (List.drop 0 (List.take (Int.toNat (wr .i64 (x1 + 1))) x6.1)) (wr .i64 ((mval .str (List.drop 0 (List.take (Int.toNat (wr .i64 (x1 + 1))) x6.1)) x5) + 1)) x5) x6 x7) fun r => some r
      else
        none
    else
    some ((), (((), ((), ((), ((), (x2, ()))))), (x3, (x4, (x5, (x6, x7))))))
noncomputable def prefix_Table_add_intu2_b : AC :=
  (.seq (.region [⟨some 63, none, (.op (.bin .lss (.t 62) (.t 61))), []⟩])
  (.seq (.cond (.t 63)
  .skip
  (.exit 2))
  (.seq (.block 3 (.seq (.region [⟨some 64, none, (.op (.mv (.t 62))), []⟩,
    ⟨some 10, none, (.op (.mv (.t 64))), []⟩])
  (.draw [⟨some 65, none, (.op (.mv (.t 0))), []⟩,
    ⟨some 66, none, (.op (.nilc (.t 65))), [0]⟩,
    ⟨some 67, none, (.op (.fad 3 3 (.t 66))), [0, 1]⟩,
    ⟨some 68, none, (.op (.load false 1 (.t 67))), [0, 1, 2]⟩,
    ⟨some 69, none, (.op (.fad 0 0 (.t 3))), []⟩,
    ⟨some 70, none, (.op (.load false 1 (.t 69))), [4]⟩,
    ⟨some 71, none, (.op (.mv (.t 10))), []⟩,
    ⟨some 72, none, (.op (.bin .add (.t 71) (.c (.tv (.int .i64) (1 : Int))))), [6]⟩,
    ⟨some 73, none, (.op (.slis (.t 70) none (some (.t 72)))), [4, 5, 6, 7]⟩,
    ⟨some 74, none, (.op (.mlook .str false (.t 68) (.t 73))), [0, 1, 2, 3, 4, 5, 6, 7, 8]⟩,
    ⟨some 75, none, (.op (.bin .add (.t 74) (.c (.tv (.int .i64) (1 : Int))))), [0, 1, 2, 3, 4, 5, 6, 7, 8, 9]⟩,
    ⟨none, none, (.op (.mput .str (.t 68) (.t 73) (.t 75))), [0, 1, 2, 3, 4, 5, 6, 7, 8, 9, 10]⟩])))
  (.region [⟨some 76, none, (.op (.bin .add (.t 62) (.c (.tv (.int .i64) (1 : Int))))), []⟩,
    ⟨some 62, none, (.op (.mv (.t 76))), []⟩]))))
noncomputable def prefix_Table_add_intu2_t (k n : Nat) (d : prefix_Table_add_intu2_p.D) : Option (XD prefix_Table_add_intu2_x) := prefix_Table_add_intu2 k n d.1.2.2.1 d.1.2.2.2 d.2.1.2.2.2.2.1 d.2.2.1 d.2.2.2.1 d.2.2.2.2.1 d.2.2.2.2.2.1 d.2.2.2.2.2.2
theorem prefix_Table_add_intu2_ok (k : Nat) : UOK P GL (mkU prefix_Table_add_intu2_p prefix_Table_add_intu2_x (prefix_Table_add_intu2_t k k) nilU) prefix_Table_add_intu2_d true prefix_Table_add_intu2_b :=
  loop_typed (ud := prefix_Table_add_intu2_d) (body := prefix_Table_add_intu2_b) (uorc := uorT (prefix_Table_add_int_U2 k)) hmo (T16_ok k).oo (prefix_Table_add_int_U2_ok k) (AllU.no (by kernel_rfl)) (t := prefix_Table_add_intu2_t k) (fun d => by kernel_rfl) (fun n d => by kernel_rfl) k
noncomputable def prefix_Table_add_int_U3 (k : Nat) : List (Nat × Ent) := (2, ⟨mkU prefix_Table_add_intu2_p prefix_Table_add_intu2_x (prefix_Table_add_intu2_t k k) nilU⟩) :: prefix_Table_add_int_U2 k
theorem prefix_Table_add_int_U3_ok (k : Nat) : UTab (prefix_Table_add_int_U3 k) := (prefix_Table_add_int_U2_ok k).cons (mkU_nat nilU_nat)
noncomputable def prefix_Table_add_int (k : Nat) (x0 : DReader) (x1 : Int) (x2 : List ((List UInt8) × Int)) (x3 : List ((Int) × Int)) (x4 : List ((List UInt8) × Int)) (x5 : List (DReader)) : Option ((Bool) × (((Unit) × ((Unit) × ((Unit) × ((Unit) × ((Int) × (Unit)))))) × ((List ((List UInt8) × Int)) × ((List ((Int) × Int)) × ((List ((List UInt8) × Int)) × (List (DReader))))))) :=
  Option.bind (prefix_Table_add_intu0 k (mhas (.int .i64) x0.2.1 x3) x1 x2 x3 x4 x0 x5) fun (v44 : (Bool) × (((Unit) × ((Unit) × ((Unit) × ((Unit) × ((Int) × (Unit)))))) × ((List ((List UInt8) × Int)) × ((List ((Int) × Int)) × ((List ((List UInt8) × Int)) × ((DReader) × (List (DReader)))))))) =>
  bif v44.1 then
    some (false, (((), ((), ((), ((), (v44.2.1.2.2.2.2.1, ()))))), (v44.2.2.1, (v44.2.2.2.1, (v44.2.2.2.2.1, v44.2.2.2.2.2.2)))))
  else
  Option.bind (prefix_Table_add_intu1 k k ((List.length v44.2.2.2.2.2.1.1 : Nat) : Int) 0 v44.2.1.2.2.2.2.1 v44.2.2.1 v44.2.2.2.1 v44.2.2.2.2.1 v44.2.2.2.2.2.1 v44.2.2.2.2.2.2) fun r =>
  Sum.elim (fun (v45 : (Bool) × (((Unit) × ((Unit) × ((Unit) × ((Unit) × ((Int) × (Unit)))))) × ((List ((List UInt8) × Int)) × ((List ((Int) × Int)) × ((List ((List UInt8) × Int)) × ((DReader) × (List (DReader)))))))) =>
    some (v45.1, (((), ((), ((), ((), (v45.2.1.2.2.2.2.1, ()))))), (v45.2.2.1, (v45.2.2.2.1, (v45.2.2.2.2.1, v45.2.2.2.2.2.2))))))
    (fun (v46 : (Unit) × (((Unit) × ((Unit) × ((Unit) × ((Unit) × ((Int) × (Unit)))))) × ((List ((List UInt8) × Int)) × ((List ((Int) × Int)) × ((List ((List UInt8) × Int)) × ((DReader) × (List (DReader)))))))) =>
    Option.bind (prefix_Table_add_intu2 k k ((List.length v46.2.2.2.2.2.1.1 : Nat) : Int) 0 v46.2.1.2.2.2.2.1 v46.2.2.1 v46.2.2.2.1 v46.2.2.2.2.1 v46.2.2.2.2.2.1 v46.2.2.2.2.2.2) fun (v47 : (Unit) × (((Unit) × ((Unit) × ((Unit) × ((Unit) × ((Int) × (Unit)))))) × ((List ((List UInt8) × Int)) × ((List ((Int) × Int)) × ((List ((List UInt8) × Int)) × ((DReader) × (List (DReader)))))))) =>
    bif (inR (((mpos .str v47.2.2.2.2.2.1.1 v47.2.2.1) : Nat) : Int) (List.length (mtouch .str v47.2.2.2.2.2.1.1 v47.2.2.1))) then
      bif (inR (((mpos (.int .i64) v47.2.2.2.2.2.1.2.1 v47.2.2.2.1) : Nat) : Int) (List.length (mtouch (.int .i64) v47.2.2.2.2.2.1.2.1 v47.2.2.2.1))) then
        bif (decide ((List.length v47.2.2.2.2.2.2) + 1 ≤ rowMax)) then
          some (true, (((), ((), ((), ((), ((mxI v47.2.1.2.2.2.2.1 ((List.length v47.2.2.2.2.2.1.1 : Nat) : Int)), ()))))), ((mstore ((List.length v47.2.2.2.2.2.2 : Nat) : Int) (Int.toNat (((mpos .str v47.2.2.2.2.2.1.1 v47.2.2.1) : Nat) : Int)) (mtouch .str v47.2.2.2.2.2.1.1 v47.2.2.1)), ((mstore ((List.length v47.2.2.2.2.2.2 : Nat) : Int) (Int.toNat (((mpos (.int .i64) v47.2.2.2.2.2.1.2.1 v47.2.2.2.1) : Nat) : Int)) (mtouch (.int .i64) v47.2.2.2.2.2.1.2.1 v47.2.2.2.1)), (v47.2.2.2.2.1, (v47.2.2.2.2.2.2 ++ ([v47.2.2.2.2.2.1] : List (DReader))))))))
        else
          none
      else
        none
    else
      none) r
noncomputable def prefix_Table_add_int_b : AC :=
  (.seq (.region [⟨some 3, none, (.op (.box (.t 1))), []⟩,
    ⟨some 4, none, (.op (.mv (.c (.tv .bool (false : Bool))))), []⟩])
  (.seq (.seq (.draw [⟨some 12, none, (.op (.mv (.t 0))), []⟩,
    ⟨some 13, none, (.op (.nilc (.t 12))), [0]⟩,
    ⟨some 14, none, (.op (.fad 2 2 (.t 13))), [0, 1]⟩,
    ⟨some 15, none, (.op (.load false 1 (.t 14))), [0, 1, 2]⟩,
    ⟨some 16, none, (.op (.fad 1 1 (.t 3))), []⟩,
    ⟨some 17, none, (.op (.load false 1 (.t 16))), [4]⟩,
    ⟨some 18, none, (.op (.mlook (.int .i64) true (.t 15) (.t 17))), [0, 1, 2, 3, 4, 5]⟩,
    ⟨some 11, none, (.op (.mv (.t 18))), [0, 1, 2, 3, 4, 5, 6]⟩,
    ⟨some 19, none, (.op (.ext (.t 11) 0)), [0, 1, 2, 3, 4, 5, 6, 7]⟩,
    ⟨some 20, none, (.op (.ext (.t 11) 1)), [0, 1, 2, 3, 4, 5, 6, 7]⟩,
    ⟨some 5, none, (.op (.mv (.t 19))), [0, 1, 2, 3, 4, 5, 6, 7, 8]⟩,
    ⟨some 6, none, (.op (.mv (.t 20))), [0, 1, 2, 3, 4, 5, 6, 7, 8, 9, 10]⟩])
  (.seq (.unit 0 prefix_Table_add_intu0_d false prefix_Table_add_intu0_b)
  (.cond (.t 37)
  (.seq (.region [⟨some 4, none, (.op (.mv (.c (.tv .bool (false : Bool))))), []⟩])
    .ret)
  .skip)))
  (.seq (.seq (.region [⟨some 38, none, (.op (.fad 0 0 (.t 3))), []⟩,
    ⟨some 39, none, (.op (.load false 1 (.t 38))), []⟩,
    ⟨some 40, none, (.op (.lens (.t 39))), []⟩,
    ⟨some 41, none, (.op (.mv (.c (.tv (.int .i64) (0 : Int))))), []⟩])
  (.block 0 (.unit 1 prefix_Table_add_intu1_d true prefix_Table_add_intu1_b)))
  (.seq (.seq (.region [⟨some 59, none, (.op (.fad 0 0 (.t 3))), []⟩,
    ⟨some 60, none, (.op (.load false 1 (.t 59))), []⟩,
    ⟨some 61, none, (.op (.lens (.t 60))), []⟩,
    ⟨some 62, none, (.op (.mv (.c (.tv (.int .i64) (0 : Int))))), []⟩])
  (.block 2 (.unit 2 prefix_Table_add_intu2_d true prefix_Table_add_intu2_b)))
  (.seq (.draw [⟨some 77, none, (.op (.mv (.t 0))), []⟩,
    ⟨some 78, none, (.op (.nilc (.t 77))), [0]⟩,
    ⟨some 79, none, (.op (.fad 1 1 (.t 78))), [0, 1]⟩,
    ⟨some 80, none, (.op (.load false 1 (.t 79))), [0, 1, 2]⟩,
    ⟨some 81, none, (.op (.fad 0 0 (.t 3))), []⟩,
    ⟨some 82, none, (.op (.load false 1 (.t 81))), [4]⟩,
    ⟨some 83, none, (.op (.mv (.t 0))), []⟩,
    ⟨some 84, none, (.op (.nilc (.t 83))), [6]⟩,
    ⟨some 85, none, (.op (.fad 2 2 (.t 84))), [6, 7]⟩,
    ⟨some 86, none, (.op (.load false 1 (.t 85))), [6, 7, 8]⟩,
    ⟨some 87, none, (.op (.fad 1 1 (.t 3))), []⟩,
    ⟨some 88, none, (.op (.load false 1 (.t 87))), [10]⟩,
    ⟨some 89, none, (.op (.mv (.t 0))), []⟩,
    ⟨some 90, none, (.op (.nilc (.t 89))), [12]⟩,
    ⟨some 91, none, (.op (.fad 0 0 (.t 90))), [12, 13]⟩,
    ⟨some 92, none, (.op (.load false 1 (.t 91))), [12, 13, 14]⟩,
    ⟨some 93, none, (.op (.len (.t 92))), [12, 13, 14, 15]⟩,
    ⟨some 94, none, (.op (.mv (.t 0))), []⟩,
    ⟨some 95, none, (.op (.nilc (.t 94))), [17]⟩,
    ⟨some 96, none, (.op (.fad 0 0 (.t 95))), [17, 18]⟩,
    ⟨some 97, none, (.op (.load false 1 (.t 96))), [17, 18, 19]⟩,
    ⟨some 98, none, (.op (.len (.t 97))), [17, 18, 19, 20]⟩,
    ⟨some 99, none, (.op (.ment .str (.t 80) (.t 82))), [0, 1, 2, 3, 4, 5, 6, 7, 8, 9, 17, 18, 19, 20]⟩,
    ⟨some 100, none, (.op (.ext (.t 99) 1)), [0, 1, 2, 3, 4, 5, 6, 7, 8, 9, 17, 18, 19, 20, 22]⟩,
    ⟨none, none, (.op (.mest (.t 80) (.t 100) (.t 93))), [0, 1, 2, 3, 4, 5, 6, 7, 8, 9, 12, 13, 14, 15, 16, 17, 18, 19, 20, 22, 23]⟩,
    ⟨some 101, none, (.op (.ment (.int .i64) (.t 86) (.t 88))), [0, 1, 2, 3, 4, 5, 6, 7, 8, 9, 10, 11, 12, 13, 14, 15, 16, 17, 18, 19, 20, 22, 23, 24]⟩,
    ⟨some 102, none, (.op (.ext (.t 101) 1)), [0, 1, 2, 3, 4, 5, 6, 7, 8, 9, 10, 11, 12, 13, 14, 15, 16, 17, 18, 19, 20, 22, 23, 24, 25]⟩,
    ⟨none, none, (.op (.mest (.t 86) (.t 102) (.t 98))), [0, 1, 2, 3, 4, 5, 6, 7, 8, 9, 10, 11, 12, 13, 14, 15, 16, 17, 18, 19, 20, 21, 22, 23, 24, 25, 26]⟩])
  (.seq (.draw [⟨some 103, none, (.op (.mv (.t 0))), []⟩,
    ⟨some 104, none, (.op (.mv (.t 0))), []⟩,
    ⟨some 105, none, (.op (.nilc (.t 104))), [1]⟩,
    ⟨some 106, none, (.op (.fad 0 0 (.t 105))), [1, 2]⟩,
    ⟨some 107, none, (.op (.load false 1 (.t 106))), [1, 2, 3]⟩,
    ⟨some 108, none, (.op (.load true 2 (.t 3))), []⟩,
    ⟨some 109, none, (.op (.bslice YReader [(.t 108)])), [5]⟩,
    ⟨some 110, none, (.op (.app YReader (.t 107) (.t 109))), [1, 2, 3, 4, 5, 6]⟩,
    ⟨some 111, none, (.op (.nilc (.t 103))), [0, 1, 2, 3, 4, 5, 6, 7]⟩,
    ⟨some 112, none, (.op (.fad 0 0 (.t 111))), [0, 1, 2, 3, 4, 5, 6, 7, 8]⟩,
    ⟨none, none, (.op (.store 1 none (.t 112) (.t 110))), [0, 1, 2, 3, 4, 5, 6, 7, 8, 9]⟩])
  (.seq (.draw [⟨some 113, none, (.op (.mv (.t 0))), []⟩,
    ⟨some 114, none, (.op (.mv (.t 0))), []⟩,
    ⟨some 115, none, (.op (.nilc (.t 114))), [1]⟩,
    ⟨some 116, none, (.op (.fad 4 4 (.t 115))), [1, 2]⟩,
    ⟨some 117, none, (.op (.load false 1 (.t 116))), [1, 2, 3]⟩,
    ⟨some 118, none, (.op (.fad 0 0 (.t 3))), []⟩,
    ⟨some 119, none, (.op (.load false 1 (.t 118))), [5]⟩,
    ⟨some 120, none, (.op (.lens (.t 119))), [5, 6]⟩,
    ⟨some 121, none, (.op (.mx (.t 117) (.t 120))), [1, 2, 3, 4, 5, 6, 7]⟩,
    ⟨some 122, none, (.op (.nilc (.t 113))), [0, 1, 2, 3, 4, 5, 6, 7, 8]⟩,
    ⟨some 123, none, (.op (.fad 4 4 (.t 122))), [0, 1, 2, 3, 4, 5, 6, 7, 8, 9]⟩,
    ⟨none, none, (.op (.store 1 none (.t 123) (.t 121))), [0, 1, 2, 3, 4, 5, 6, 7, 8, 9, 10]⟩])
  (.seq (.region [⟨some 4, none, (.op (.mv (.c (.tv .bool (true : Bool))))), []⟩])
  .ret))))))))
noncomputable def prefix_Table_add_int_f : FDef := ⟨2, 124, [.tmp 4 none], prefix_Table_add_int_b⟩
noncomputable def prefix_Table_add_int_p : XPat := ⟨.normal, [(.ptr 0 []), (.tv YReader)], [(.box (.cons (.row 4) (.cons (.mp 1) (.cons (.mp 2) (.cons (.mp 3) (.cons (.tv (.int .i64)) .nil)))))), (.mp .str), (.mp (.int .i64)), (.mp .str), (.row YReader false)]⟩
noncomputable def prefix_Table_add_int_x : List XPat := [⟨.ret, [(.tv .bool)], [(.box (.cons (.row 4) (.cons (.mp 1) (.cons (.mp 2) (.cons (.mp 3) (.cons (.tv (.int .i64)) .nil)))))), (.mp .str), (.mp (.int .i64)), (.mp .str), (.row YReader false)]⟩]
noncomputable def prefix_Table_add_int_t (k : Nat) (d : prefix_Table_add_int_p.D) : Option (XD prefix_Table_add_int_x) := prefix_Table_add_int k d.1.2 d.2.1.2.2.2.2.1 d.2.2.1 d.2.2.2.1 d.2.2.2.2.1 d.2.2.2.2.2
noncomputable def prefix_Table_add_int_e (k : Nat) : UEntry := mkU prefix_Table_add_int_p prefix_Table_add_int_x (prefix_Table_add_int_t k) nilU
theorem prefix_Table_add_int_n (k : Nat) : UNat (prefix_Table_add_int_e k) := mkU_nat nilU_nat
theorem prefix_Table_add_int_m : mfn P prefix_Table_add_int_f Tryd.f97 = true := by kernel_rfl
theorem prefix_Table_add_int_fu (k : Nat) : FU P GL 97 (prefix_Table_add_int_e k) :=
  fn_typed (uorc := uorT (prefix_Table_add_int_U3 k)) hmo (T16_ok k).oo (prefix_Table_add_int_U3_ok k) (fd := prefix_Table_add_int_f) (AllU.seq (AllU.no (by kernel_rfl)) (AllU.seq (AllU.seq (AllU.no (by kernel_rfl)) (AllU.seq (AllU.unit (uorc := uorT (prefix_Table_add_int_U3 k)) (u := 0) (prefix_Table_add_intu0_ok k)) (AllU.no (by kernel_rfl)))) (AllU.seq (AllU.seq (AllU.no (by kernel_rfl)) (AllU.block (AllU.unit (uorc := uorT (prefix_Table_add_int_U3 k)) (u := 1) (prefix_Table_add_intu1_ok k)))) (AllU.seq (AllU.seq (AllU.no (by kernel_rfl)) (AllU.block (AllU.unit (uorc := uorT (prefix_Table_add_int_U3 k)) (u := 2) (prefix_Table_add_intu2_ok k)))) (AllU.no (by kernel_rfl)))))) (fn := Tryd.f97) (by kernel_rfl) prefix_Table_add_int_m (fun d => by kernel_rfl) FU_nil
noncomputable def T17 (k : Nat) : List (Nat × Ent) := (97, ⟨prefix_Table_add_int_e k⟩) :: T16 k
theorem T17_ok (k : Nat) : TabOK P GL (T17 k) := (T16_ok k).cons (prefix_Table_add_int_fu k) (prefix_Table_add_int_n k)
/-! ### overspill.prefix.Make[int] -/
noncomputable def prefix_Make_int_U0 (_ : Nat) : List (Nat × Ent) := []
theorem prefix_Make_int_U0_ok (k : Nat) : UTab (prefix_Make_int_U0 k) := UTab.nil
noncomputable def prefix_Make_intu0_d : UDef := ⟨[(0, none)], [7, 8, 9, 10, 11, 12, 13, 14], [(.normal, [(14, none)])], []⟩
noncomputable def prefix_Make_intu0_p : XPat := ⟨.normal, [(.tv (.sl YReader))], []⟩
noncomputable def prefix_Make_intu0_x : List XPat := [⟨.normal, [(.tv .bool)], []⟩]
noncomputable def prefix_Make_intu0 (k : Nat) (x0 : List (DReader)) : Option (Bool) :=
  bif (decide (((List.length x0 : Nat) : Int) = 0)) then
    some true
  else
  some (decide ((256 : Int) < ((List.length x0 : Nat) : Int)))
noncomputable def prefix_Make_intu0_b : AC :=
  (.region [⟨some 7, none, (.op (.mv (.t 0))), []⟩,
    ⟨some 8, none, (.op (.len (.t 7))), []⟩,
    ⟨some 9, none, (.op (.bin .eql (.t 8) (.c (.tv (.int .i64) (0 : Int))))), []⟩,
    ⟨some 10, none, (.op (.mv (.t 9))), []⟩,
    ⟨some 11, some (3, 10, false), (.op (.mv (.t 0))), []⟩,
    ⟨some 12, some (3, 10, false), (.op (.len (.t 11))), []⟩,
    ⟨some 13, some (3, 10, false), (.op (.bin .gtr (.t 12) (.c (.tv (.int .i64) (256 : Int))))), []⟩,
    ⟨some 14, none, (.op (.pick (.t 10) (.c (.tv .bool (true : Bool))) (.t 13))), []⟩])
noncomputable def prefix_Make_intu0_t (k : Nat) (d : prefix_Make_intu0_p.D) : Option (XD prefix_Make_intu0_x) := prefix_Make_intu0 k d
theorem prefix_Make_intu0_ok (k : Nat) : UOK P GL (mkU prefix_Make_intu0_p prefix_Make_intu0_x (prefix_Make_intu0_t k) nilU) prefix_Make_intu0_d false prefix_Make_intu0_b :=
  unit_typed (ud := prefix_Make_intu0_d) (body := prefix_Make_intu0_b) (uorc := uorT (prefix_Make_int_U0 k)) hmo (T17_ok k).oo (prefix_Make_int_U0_ok k) (AllU.no (by kernel_rfl)) (fun d => by kernel_rfl)
noncomputable def prefix_Make_int_U1 (k : Nat) : List (Nat × Ent) := (0, ⟨mkU prefix_Make_intu0_p prefix_Make_intu0_x (prefix_Make_intu0_t k) nilU⟩) :: prefix_Make_int_U0 k
theorem prefix_Make_int_U1_ok (k : Nat) : UTab (prefix_Make_int_U1 k) := (prefix_Make_int_U0_ok k).cons (mkU_nat nilU_nat)
noncomputable def prefix_Make_intu1_d : UDef := ⟨[(4, none), (20, none), (21, none), (22, none)], [2, 3, 6, 22, 23, 24, 25, 26, 27, 28, 29, 30], [(.ret, [(2, none), (3, none)]), ((.exit 0), [])], []⟩
noncomputable def prefix_Make_intu1_p : XPat := ⟨.normal, [(.ptr 0 []), (.tv (.sl YReader)), (.tv (.int .i64)), (.tv (.int .i64))], [(.box (.cons (.row 4) (.cons (.mp 1) (.cons (.mp 2) (.cons (.mp 3) (.cons (.tv (.int .i64)) .nil)))))), (.mp .str), (.mp (.int .i64)), (.mp .str), (.row YReader false)]⟩
noncomputable def prefix_Make_intu1_x : List XPat := [⟨.ret, [.nilp, (.tv (.int .i64))], [(.box (.cons (.row 4) (.cons (.mp 1) (.cons (.mp 2) (.cons (.mp 3) (.cons (.tv (.int .i64)) .nil)))))), (.mp .str), (.mp (.int .i64)), (.mp .str), (.row YReader false)]⟩, ⟨(.exit 0), [], [(.box (.cons (.row 4) (.cons (.mp 1) (.cons (.mp 2) (.cons (.mp 3) (.cons (.tv (.int .i64)) .nil)))))), (.mp .str), (.mp (.int .i64)), (.mp .str), (.row YReader false)]⟩]
noncomputable def prefix_Make_intu1 (k : Nat) : Nat → (List (DReader)) → (Int) → (Int) → (Int) → (List ((List UInt8) × Int)) → (List ((Int) × Int)) → (List ((List UInt8) × Int)) → (List (DReader)) → Option ((((Unit) × (Int)) × (((Unit) × ((Unit) × ((Unit) × ((Unit) × ((Int) × (Unit)))))) × ((List ((List UInt8) × Int)) × ((List ((Int) × Int)) × ((List ((List UInt8) × Int)) × (List (DReader))))))) ⊕ ((Unit) × (((Unit) × ((Unit) × ((Unit) × ((Unit) × ((Int) × (Unit)))))) × ((List ((List UInt8) × Int)) × ((List ((Int) × Int)) × ((List ((List UInt8) × Int)) × (List (DReader))))))))
  | 0, _, _, _, _, _, _, _, _ => none
  | n + 1, x0, x1, x2, x3, x4, x5, x6, x7 =>
    bif (decide (x2 < x1)) then
      bif (inR x2 (List.length x0)) then
        Option.bind (prefix_Table_add_int k (List.getD x0 (Int.toNat x2) (([] : List UInt8), (0, ()))) x3 x4 x5 x6 x7) fun (v49 : (Bool) × (((Unit) × ((Unit) × ((Unit) × ((Unit) × ((Int) × (Unit)))))) × ((List ((List UInt8) × Int)) × ((List ((Int) × Int)) × ((List ((List UInt8) × Int)) × (List (DReader))))))) =>
        bif (!v49.1) then
          some (Sum.inl (((), 1), (((), ((), ((), ((), (v49.2.1.2.2.2.2.1, ()))))), (v49.2.2.1, (v49.2.2.2.1, (v49.2.2.2.2.1, v49.2.2.2.2.2))))))
        else
        Option.bind (prefix_Make_intu1 k n x0 x1 (wr .i64 (x2 + 1)) v49.2.1.2.2.2.2.1 v49.2.2.1 v49.2.2.2.1 v49.2.2.2.2.1 v49.2.2.2.2.2) fun r => Sum.elim (fun w => some (Sum.inl w)) (fun w => some (Sum.inr w)) r
      else
        none
    else
    some (Sum.inr ((), (((), ((), ((), ((), (x3, ()))))), (x4, (x5, (x6, x7))))))
noncomputable def prefix_Make_intu1_b : AC :=
  (.seq (.region [⟨some 23, none, (.op (.bin .lss (.t 22) (.t 21))), []⟩])
  (.seq (.cond (.t 23)
  .skip
  (.exit 0))
  (.seq (.block 1 (.seq (.region [⟨some 24, none, (.op (.iads YReader (.t 20) (.t 22))), []⟩,
    ⟨some 25, none, (.op (.load true 2 (.t 24))), []⟩,
    ⟨some 6, none, (.op (.alloc 122 (.tv YReader))), []⟩,
    ⟨none, none, (.op (.store 2 none (.t 6) (.t 25))), []⟩])
  (.seq (.region [⟨some 26, none, (.op (.mv (.t 4))), []⟩,
    ⟨some 27, none, (.op (.load true 2 (.t 6))), []⟩,
    ⟨some 28, none, (.call (.c (.fn 97 .nil .nil)) [((.t 26), none), ((.t 27), some YReader)]), []⟩,
    ⟨some 29, none, (.op (.un .not (.t 28))), []⟩])
  (.cond (.t 29)
  (.seq (.region [⟨some 2, none, (.op (.mv (.c .nilp))), []⟩,
      ⟨some 3, none, (.op (.mv (.c (.tv (.int .i64) (1 : Int))))), []⟩])
    .ret)
  .skip))))
  (.region [⟨some 30, none, (.op (.bin .add (.t 22) (.c (.tv (.int .i64) (1 : Int))))), []⟩,
    ⟨some 22, none, (.op (.mv (.t 30))), []⟩]))))
noncomputable def prefix_Make_intu1_t (k n : Nat) (d : prefix_Make_intu1_p.D) : Option (XD prefix_Make_intu1_x) := prefix_Make_intu1 k n d.1.2.1 d.1.2.2.1 d.1.2.2.2 d.2.1.2.2.2.2.1 d.2.2.1 d.2.2.2.1 d.2.2.2.2.1 d.2.2.2.2.2
theorem prefix_Make_intu1_ok (k : Nat) : UOK P GL (mkU prefix_Make_intu1_p prefix_Make_intu1_x (prefix_Make_intu1_t k k) nilU) prefix_Make_intu1_d true prefix_Make_intu1_b :=
  loop_typed (ud := prefix_Make_intu1_d) (body := prefix_Make_intu1_b) (uorc := uorT (prefix_Make_int_U1 k)) hmo (T17_ok k).oo (prefix_Make_int_U1_ok k) (AllU.no (by kernel_rfl)) (t := prefix_Make_intu1_t k) (fun d => by kernel_rfl) (fun n d => by kernel_rfl) k
noncomputable def prefix_Make_int_U2 (k : Nat) : List (Nat × Ent) := (1, ⟨mkU prefix_Make_intu1_p prefix_Make_intu1_x (prefix_Make_intu1_t k k) nilU⟩) :: prefix_Make_int_U1 k
theorem prefix_Make_int_U2_ok (k : Nat) : UTab (prefix_Make_int_U2 k) := (prefix_Make_int_U1_ok k).cons (mkU_nat nilU_nat)
noncomputable def prefix_Make_int (k : Nat) (x0 : List (DReader)) : Option (((Unit) × ((Int) × (Unit))) ⊕ (((Unit) × ((Int) × (Unit))) × (((Unit) × ((Unit) × ((Unit) × ((Unit) × ((Int) × (Unit)))))) × ((List ((List UInt8) × Int)) × ((List ((Int) × Int)) × ((List ((List UInt8) × Int)) × (List (DReader)))))))) :=
  Option.bind (prefix_Make_intu0 k x0) fun (v23 : Bool) =>
  bif v23 then
    some (Sum.inl ((), (1, ())))
  else
  Option.bind (prefix_Make_intu1 k k x0 ((List.length x0 : Nat) : Int) 0 0 ([] : List ((List UInt8) × Int)) ([] : List ((Int) × Int)) ([] : List ((List UInt8) × Int)) ([] : List (DReader))) fun r =>
  Sum.elim (fun (v50 : ((Unit) × (Int)) × (((Unit) × ((Unit) × ((Unit) × ((Unit) × ((Int) × (Unit)))))) × ((List ((List UInt8) × Int)) × ((List ((Int) × Int)) × ((List ((List UInt8) × Int)) × (List (DReader))))))) =>
    some (Sum.inl ((), (v50.1.2, ()))))
    (fun (v51 : (Unit) × (((Unit) × ((Unit) × ((Unit) × ((Unit) × ((Int) × (Unit)))))) × ((List ((List UInt8) × Int)) × ((List ((Int) × Int)) × ((List ((List UInt8) × Int)) × (List (DReader))))))) =>
    some (Sum.inr (((), (0, ())), (((), ((), ((), ((), (v51.2.1.2.2.2.2.1, ()))))), (v51.2.2.1, (v51.2.2.2.1, (v51.2.2.2.2.1, v51.2.2.2.2.2))))))) r
noncomputable def prefix_Make_int_b : AC :=
  (.seq (.region [⟨some 2, none, (.op (.mv (.c .nilp))), []⟩,
    ⟨some 3, none, (.op (.mv (.c (.tv (.int .i64) (0 : Int))))), []⟩])
  (.seq (.seq (.unit 0 prefix_Make_intu0_d false prefix_Make_intu0_b)
  (.cond (.t 14)
  (.seq (.region [⟨some 2, none, (.op (.mv (.c .nilp))), []⟩,
      ⟨some 3, none, (.op (.mv (.c (.tv (.int .i64) (1 : Int))))), []⟩])
    .ret)
  .skip))
  (.seq (.region [⟨some 15, none, (.op (.mkmap .str)), []⟩,
    ⟨some 16, none, (.op (.mkmap (.int .i64))), []⟩,
    ⟨some 17, none, (.op (.mkmap .str)), []⟩,
    ⟨some 18, none, (.op (.build 148 (.cons (.row YReader) (.cons .junk (.cons .junk (.cons .junk (.cons (.tv (.int .i64)) .nil))))) [(1, (.fld 1 1), 1, (.t 15)), (2, (.fld 2 2), 1, (.t 16)), (3, (.fld 3 3), 1, (.t 17))])), []⟩,
    ⟨some 19, none, (.op (.box (.t 18))), []⟩,
    ⟨some 4, none, (.op (.mv (.t 19))), []⟩])
  (.seq (.seq (.region [⟨some 20, none, (.op (.mv (.t 0))), []⟩,
    ⟨some 21, none, (.op (.len (.t 20))), []⟩,
    ⟨some 22, none, (.op (.mv (.c (.tv (.int .i64) (0 : Int))))), []⟩])
  (.block 0 (.unit 1 prefix_Make_intu1_d true prefix_Make_intu1_b)))
  (.seq (.region [⟨some 31, none, (.op (.mv (.t 4))), []⟩,
    ⟨some 2, none, (.op (.mv (.t 31))), []⟩,
    ⟨some 3, none, (.op (.mv (.c (.tv (.int .i64) (0 : Int))))), []⟩])
  .ret)))))
noncomputable def prefix_Make_int_f : FDef := ⟨1, 32, [.tmp 2 none, .tmp 3 none], prefix_Make_int_b⟩
noncomputable def prefix_Make_int_p : XPat := ⟨.normal, [(.tv (.sl YReader))], []⟩
noncomputable def prefix_Make_int_x : List XPat := [⟨.ret, [(.tup (.cons .nilp (.cons (.tv (.int .i64)) .nil)))], []⟩, ⟨.ret, [(.tup (.cons (.ptr 0 []) (.cons (.tv (.int .i64)) .nil)))], [(.box (.cons (.row 4) (.cons (.mp 1) (.cons (.mp 2) (.cons (.mp 3) (.cons (.tv (.int .i64)) .nil)))))), (.mp .str), (.mp (.int .i64)), (.mp .str), (.row YReader false)]⟩]
noncomputable def prefix_Make_int_t (k : Nat) (d : prefix_Make_int_p.D) : Option (XD prefix_Make_int_x) := prefix_Make_int k d
noncomputable def prefix_Make_int_e (k : Nat) : UEntry := mkU prefix_Make_int_p prefix_Make_int_x (prefix_Make_int_t k) nilU
theorem prefix_Make_int_n (k : Nat) : UNat (prefix_Make_int_e k) := mkU_nat nilU_nat
theorem prefix_Make_int_m : mfn P prefix_Make_int_f Tryd.f75 = true := by kernel_rfl
theorem prefix_Make_int_fu (k : Nat) : FU P GL 75 (prefix_Make_int_e k) :=
  fn_typed (uorc := uorT (prefix_Make_int_U2 k)) hmo (T17_ok k).oo (prefix_Make_int_U2_ok k) (fd := prefix_Make_int_f) (AllU.seq (AllU.no (by kernel_rfl)) (AllU.seq (AllU.seq (AllU.unit (uorc := uorT (prefix_Make_int_U2 k)) (u := 0) (prefix_Make_intu0_ok k)) (AllU.no (by kernel_rfl))) (AllU.seq (AllU.no (by kernel_rfl)) (AllU.seq (AllU.seq (AllU.no (by kernel_rfl)) (AllU.block (AllU.unit (uorc := uorT (prefix_Make_int_U2 k)) (u := 1) (prefix_Make_intu1_ok k)))) (AllU.no (by kernel_rfl)))))) (fn := Tryd.f75) (by kernel_rfl) prefix_Make_int_m (fun d => by kernel_rfl) FU_nil
noncomputable def T18 (k : Nat) : List (Nat × Ent) := (75, ⟨prefix_Make_int_e k⟩) :: T17 k
theorem T18_ok (k : Nat) : TabOK P GL (T18 k) := (T17_ok k).cons (prefix_Make_int_fu k) (prefix_Make_int_n k)
/-! ### overspill.mcbpc.table -/
noncomputable def mcbpc_table_U0 (_ : Nat) : List (Nat × Ent) := []
theorem mcbpc_table_U0_ok (k : Nat) : UTab (mcbpc_table_U0 k) := UTab.nil
noncomputable def mcbpc_tableu0_d : UDef := ⟨[(4, none), (9, none)], [5, 9, 10, 11, 12, 13, 14, 15], [((.exit 0), [])], []⟩
noncomputable def mcbpc_tableu0_p : XPat := ⟨.normal, [(.fn 96 .nil (.cons (.ptr 0 []) (.cons (.ptr 1 []) .nil))), (.tv (.int .i64))], [(.box (.tv .bool)), (.box (.row 2)), (.row YReader false)]⟩
noncomputable def mcbpc_tableu0_x : List XPat := [⟨(.exit 0), [], [(.box (.tv .bool)), (.box (.row 2)), (.row YReader false)]⟩]
noncomputable def mcbpc_tableu0 (k : Nat) : Nat → (Int) → (Bool) → (List (DReader)) → Option ((Unit) × ((Bool) × ((Unit) × (List (DReader)))))
  | 0, _, _, _ => none
  | n + 1, x0, x1, x2 =>
    bif (decide (x0 < 6)) then
      Option.bind (mcbpc_table_f1 k x0 x1 x2) fun (v21 : (Unit) × ((Bool) × ((Unit) × (List (DReader))))) =>
      Option.bind (mcbpc_tableu0 k n (wr .i64 (x0 + 1)) v21.2.1 v21.2.2.2) fun r => some r
    else
    some ((), (x1, ((), x2)))
noncomputable def mcbpc_tableu0_b : AC :=
  (.seq (.region [⟨some 10, none, (.op (.bin .lss (.t 9) (.c (.tv (.int .i64) (6 : Int))))), []⟩])
  (.seq (.cond (.t 10)
  .skip
  (.exit 0))
  (.seq (.block 1 (.seq (.region [⟨some 11, none, (.op (.mv (.t 9))), []⟩,
    ⟨some 5, none, (.op (.mv (.t 11))), []⟩])
  (.region [⟨some 12, none, (.op (.mv (.t 4))), []⟩,
    ⟨some 13, none, (.op (.mv (.t 5))), []⟩,
    ⟨some 14, none, (.call (.t 12) [((.t 13), none)]), []⟩])))
  (.region [⟨some 15, none, (.op (.bin .add (.t 9) (.c (.tv (.int .i64) (1 : Int))))), []⟩,
    ⟨some 9, none, (.op (.mv (.t 15))), []⟩]))))
noncomputable def mcbpc_tableu0_t (k n : Nat) (d : mcbpc_tableu0_p.D) : Option (XD mcbpc_tableu0_x) := mcbpc_tableu0 k n d.1.2 d.2.1 d.2.2.2
theorem mcbpc_tableu0_ok (k : Nat) : UOK P GL (mkU mcbpc_tableu0_p mcbpc_tableu0_x (mcbpc_tableu0_t k k) nilU) mcbpc_tableu0_d true mcbpc_tableu0_b :=
  loop_typed (ud := mcbpc_tableu0_d) (body := mcbpc_tableu0_b) (uorc := uorT (mcbpc_table_U0 k)) hmo (T18_ok k).oo (mcbpc_table_U0_ok k) (AllU.no (by kernel_rfl)) (t := mcbpc_tableu0_t k) (fun d => by kernel_rfl) (fun n d => by kernel_rfl) k
noncomputable def mcbpc_table_U1 (k : Nat) : List (Nat × Ent) := (0, ⟨mkU mcbpc_tableu0_p mcbpc_tableu0_x (mcbpc_tableu0_t k k) nilU⟩) :: mcbpc_table_U0 k
theorem mcbpc_table_U1_ok (k : Nat) : UTab (mcbpc_table_U1 k) := (mcbpc_table_U0_ok k).cons (mkU_nat nilU_nat)
noncomputable def mcbpc_table (k : Nat) (x0 : Bool) : Option ((Unit) ⊕ ((Unit) × (((Unit) × ((Unit) × ((Unit) × ((Unit) × ((Int) × (Unit)))))) × ((List ((List UInt8) × Int)) × ((List ((Int) × Int)) × ((List ((List UInt8) × Int)) × (List (DReader)))))))) :=
  Option.bind (mcbpc_tableu0 k k 0 x0 ([] : List (DReader))) fun (v22 : (Unit) × ((Bool) × ((Unit) × (List (DReader))))) =>
  Option.bind (prefix_Make_int k v22.2.2.2) fun r =>
  Sum.elim (fun (v52 : (Unit) × ((Int) × (Unit))) =>
    some (Sum.inl ()))
    (fun (v53 : ((Unit) × ((Int) × (Unit))) × (((Unit) × ((Unit) × ((Unit) × ((Unit) × ((Int) × (Unit)))))) × ((List ((List UInt8) × Int)) × ((List ((Int) × Int)) × ((List ((List UInt8) × Int)) × (List (DReader))))))) =>
    some (Sum.inr ((), (((), ((), ((), ((), (v53.2.1.2.2.2.2.1, ()))))), (v53.2.2.1, (v53.2.2.2.1, (v53.2.2.2.2.1, v53.2.2.2.2.2))))))) r
noncomputable def mcbpc_table_b : AC :=
  (.seq (.region [⟨some 1, none, (.op (.box (.t 0))), []⟩,
    ⟨some 2, none, (.op (.mv (.c .nilp))), []⟩])
  (.seq (.region [⟨some 3, none, (.op (.alloc 120 (.row YReader))), []⟩])
  (.seq (.region [⟨some 8, none, (.op (.mkfn 96 [] [(.t 1), (.t 3)])), []⟩,
    ⟨some 4, none, (.op (.mv (.t 8))), []⟩])
  (.seq (.seq (.region [⟨some 9, none, (.op (.mv (.c (.tv (.int .i64) (0 : Int))))), []⟩])
  (.block 0 (.unit 0 mcbpc_tableu0_d true mcbpc_tableu0_b)))
  (.seq (.region [⟨some 17, none, (.op (.load false 1 (.t 3))), []⟩,
    ⟨some 18, none, (.call (.c (.fn 75 .nil .nil)) [((.t 17), some (.sl YReader))]), []⟩,
    ⟨some 16, none, (.op (.mv (.t 18))), []⟩,
    ⟨some 19, none, (.op (.ext (.t 16) 0)), []⟩,
    ⟨some 20, none, (.op (.ext (.t 16) 1)), []⟩,
    ⟨some 6, none, (.op (.mv (.t 19))), []⟩,
    ⟨some 7, none, (.op (.mv (.t 20))), []⟩])
  (.seq (.region [⟨some 21, none, (.op (.mv (.t 6))), []⟩,
    ⟨some 2, none, (.op (.mv (.t 21))), []⟩])
  .ret))))))
noncomputable def mcbpc_table_f : FDef := ⟨1, 22, [.tmp 2 none], mcbpc_table_b⟩
noncomputable def mcbpc_table_p : XPat := ⟨.normal, [(.tv .bool)], []⟩
noncomputable def mcbpc_table_x : List XPat := [⟨.ret, [.nilp], []⟩, ⟨.ret, [(.ptr 0 [])], [(.box (.cons (.row 4) (.cons (.mp 1) (.cons (.mp 2) (.cons (.mp 3) (.cons (.tv (.int .i64)) .nil)))))), (.mp .str), (.mp (.int .i64)), (.mp .str), (.row YReader false)]⟩]
noncomputable def mcbpc_table_t (k : Nat) (d : mcbpc_table_p.D) : Option (XD mcbpc_table_x) := mcbpc_table k d
noncomputable def mcbpc_table_e (k : Nat) : UEntry := mkU mcbpc_table_p mcbpc_table_x (mcbpc_table_t k) nilU
theorem mcbpc_table_n (k : Nat) : UNat (mcbpc_table_e k) := mkU_nat nilU_nat
theorem mcbpc_table_m : mfn P mcbpc_table_f Tryd.f73 = true := by kernel_rfl
theorem mcbpc_table_fu (k : Nat) : FU P GL 73 (mcbpc_table_e k) :=
  fn_typed (uorc := uorT (mcbpc_table_U1 k)) hmo (T18_ok k).oo (mcbpc_table_U1_ok k) (fd := mcbpc_table_f) (AllU.seq (AllU.no (by kernel_rfl)) (AllU.seq (AllU.no (by kernel_rfl)) (AllU.seq (AllU.no (by kernel_rfl)) (AllU.seq (AllU.seq (AllU.no (by kernel_rfl)) (AllU.block (AllU.unit (uorc := uorT (mcbpc_table_U1 k)) (u := 0) (mcbpc_tableu0_ok k)))) (AllU.no (by kernel_rfl)))))) (fn := Tryd.f73) (by kernel_rfl) mcbpc_table_m (fun d => by kernel_rfl) FU_nil
noncomputable def T19 (k : Nat) : List (Nat × Ent) := (73, ⟨mcbpc_table_e k⟩) :: T18 k
theorem T19_ok (k : Nat) : TabOK P GL (T19 k) := (T18_ok k).cons (mcbpc_table_fu k) (mcbpc_table_n k)
/-! ### (*overspill.inbits.Reader).Seek -/
noncomputable def inbits_Reader_Seek_U0 (_ : Nat) : List (Nat × Ent) := []
theorem inbits_Reader_Seek_U0_ok (k : Nat) : UTab (inbits_Reader_Seek_U0 k) := UTab.nil
noncomputable def inbits_Reader_Seek (k : Nat) (x0 : Int) (x1 : DReader) : Option ((Int) × (DReader)) :=
  bif (decide (x0 < 0)) then
    some (1, x1)
  else
  bif (decide ((wr .i64 (8 * ((List.length x1.1 : Nat) : Int))) < x0)) then
    some (1, x1)
  else
  some (0, (x1.1, (x0, x1.2.2)))
noncomputable def inbits_Reader_Seek_b : AC :=
  (.seq (.region [⟨some 4, none, (.op (.mv (.c (.tv (.int .i64) (0 : Int))))), []⟩])
  (.seq (.seq (.region [⟨some 5, none, (.op (.mv (.t 0))), []⟩,
    ⟨some 6, none, (.op (.eqp false (.t 5) (.c .nilp))), []⟩,
    ⟨some 7, none, (.op (.mv (.t 6))), []⟩,
    ⟨some 8, some (2, 7, false), (.op (.mv (.t 1))), []⟩,
    ⟨some 9, some (2, 7, false), (.op (.bin .lss (.t 8) (.c (.tv (.int .i64) (0 : Int))))), []⟩,
    ⟨some 10, none, (.op (.pick (.t 7) (.c (.tv .bool (true : Bool))) (.t 9))), []⟩,
    ⟨some 11, none, (.op (.mv (.t 10))), []⟩,
    ⟨some 12, some (6, 11, false), (.op (.mv (.t 1))), []⟩,
    ⟨some 13, some (6, 11, false), (.op (.mv (.t 0))), []⟩,
    ⟨some 14, some (6, 11, false), (.op (.nilc (.t 13))), []⟩,
    ⟨some 15, some (6, 11, false), (.op (.fad 0 0 (.t 14))), []⟩,
    ⟨some 16, some (6, 11, false), (.op (.load false 1 (.t 15))), []⟩,
    ⟨some 17, some (6, 11, false), (.op (.lens (.t 16))), []⟩,
    ⟨some 18, some (6, 11, false), (.op (.bin .mul (.c (.tv (.int .i64) (8 : Int))) (.t 17))), []⟩,
    ⟨some 19, some (6, 11, false), (.op (.bin .gtr (.t 12) (.t 18))), []⟩,
    ⟨some 20, none, (.op (.pick (.t 11) (.c (.tv .bool (true : Bool))) (.t 19))), []⟩])
  (.cond (.t 20)
  (.seq (.region [⟨some 4, none, (.op (.mv (.c (.tv (.int .i64) (1 : Int))))), []⟩])
    .ret)
  .skip))
  (.seq (.region [⟨some 21, none, (.op (.mv (.t 0))), []⟩,
    ⟨some 22, none, (.op (.mv (.t 1))), []⟩,
    ⟨some 23, none, (.op (.nilc (.t 21))), []⟩,
    ⟨some 24, none, (.op (.fad 1 1 (.t 23))), []⟩,
    ⟨none, none, (.op (.store 1 none (.t 24) (.t 22))), []⟩])
  (.seq (.region [⟨some 4, none, (.op (.mv (.c (.tv (.int .i64) (0 : Int))))), []⟩])
  .ret))))
noncomputable def inbits_Reader_Seek_f : FDef := ⟨2, 25, [.tmp 4 none], inbits_Reader_Seek_b⟩
noncomputable def inbits_Reader_Seek_p : XPat := ⟨.normal, [(.ptr 0 []), (.tv (.int .i64))], [(.box (.tv YReader))]⟩
noncomputable def inbits_Reader_Seek_x : List XPat := [⟨.ret, [(.tv (.int .i64))], [(.box (.tv YReader))]⟩]
noncomputable def inbits_Reader_Seek_t (k : Nat) (d : inbits_Reader_Seek_p.D) : Option (XD inbits_Reader_Seek_x) := inbits_Reader_Seek k d.1.2 d.2
noncomputable def inbits_Reader_Seek_e (k : Nat) : UEntry := mkU inbits_Reader_Seek_p inbits_Reader_Seek_x (inbits_Reader_Seek_t k) nilU
theorem inbits_Reader_Seek_n (k : Nat) : UNat (inbits_Reader_Seek_e k) := mkU_nat nilU_nat
theorem inbits_Reader_Seek_m : mfn P inbits_Reader_Seek_f Tryd.f8 = true := by kernel_rfl
theorem inbits_Reader_Seek_fu (k : Nat) : FU P GL 8 (inbits_Reader_Seek_e k) :=
  fn_typed (uorc := uorT (inbits_Reader_Seek_U0 k)) hmo (T19_ok k).oo (inbits_Reader_Seek_U0_ok k) (fd := inbits_Reader_Seek_f) (AllU.no (by kernel_rfl)) (fn := Tryd.f8) (by kernel_rfl) inbits_Reader_Seek_m (fun d => by kernel_rfl) FU_nil
noncomputable def T20 (k : Nat) : List (Nat × Ent) := (8, ⟨inbits_Reader_Seek_e k⟩) :: T19 k
theorem T20_ok (k : Nat) : TabOK P GL (T20 k) := (T19_ok k).cons (inbits_Reader_Seek_fu k) (inbits_Reader_Seek_n k)
/-! ### (*overspill.prefix.Table[int]).Take -/
noncomputable def prefix_Table_Take_int_U0 (_ : Nat) : List (Nat × Ent) := []
theorem prefix_Table_Take_int_U0_ok (k : Nat) : UTab (prefix_Table_Take_int_U0 k) := UTab.nil
noncomputable def prefix_Table_Take_intu0_d : UDef := ⟨[(0, none), (1, none)], [13, 14, 15, 16, 17, 18], [(.normal, [(18, none)])], []⟩
noncomputable def prefix_Table_Take_intu0_p : XPat := ⟨.normal, [.nilp, (.ptr 0 [])], [(.box (.tv YReader))]⟩
noncomputable def prefix_Table_Take_intu0_x : List XPat := [⟨.normal, [(.tv .bool)], [(.box (.tv YReader))]⟩]
noncomputable def prefix_Table_Take_intu0 (k : Nat) (x0 : DReader) : Option ((Bool) × (DReader)) :=
  some (true, x0)
noncomputable def prefix_Table_Take_intu0_b : AC :=
  (.region [⟨some 13, none, (.op (.mv (.t 0))), []⟩,
    ⟨some 14, none, (.op (.eqp false (.t 13) (.c .nilp))), []⟩,
    ⟨some 15, none, (.op (.mv (.t 14))), []⟩,
    ⟨some 16, some (2, 15, false), .op .bad, []⟩,
    ⟨some 17, some (2, 15, false), .op .bad, []⟩,
    ⟨some 18, none, (.op (.pick (.t 15) (.c (.tv .bool (true : Bool))) (.t 17))), []⟩])
noncomputable def prefix_Table_Take_intu0_t (k : Nat) (d : prefix_Table_Take_intu0_p.D) : Option (XD prefix_Table_Take_intu0_x) := prefix_Table_Take_intu0 k d.2
theorem prefix_Table_Take_intu0_ok (k : Nat) : UOK P GL (mkU prefix_Table_Take_intu0_p prefix_Table_Take_intu0_x (prefix_Table_Take_intu0_t k) nilU) prefix_Table_Take_intu0_d false prefix_Table_Take_intu0_b :=
  unit_typed (ud := prefix_Table_Take_intu0_d) (body := prefix_Table_Take_intu0_b) (uorc := uorT (prefix_Table_Take_int_U0 k)) hmo (T20_ok k).oo (prefix_Table_Take_int_U0_ok k) (AllU.no (by kernel_rfl)) (fun d => by kernel_rfl)
noncomputable def prefix_Table_Take_int_U1 (k : Nat) : List (Nat × Ent) := (0, ⟨mkU prefix_Table_Take_intu0_p prefix_Table_Take_intu0_x (prefix_Table_Take_intu0_t k) nilU⟩) :: prefix_Table_Take_int_U0 k
theorem prefix_Table_Take_int_U1_ok (k : Nat) : UTab (prefix_Table_Take_int_U1 k) := (prefix_Table_Take_int_U0_ok k).cons (mkU_nat nilU_nat)
noncomputable def prefix_Table_Take_intu1_d : UDef := ⟨[(0, none), (1, none), (6, none), (7, none), (8, none)], [4, 5, 8, 9, 10, 11, 12, 22, 23, 24, 25, 26, 27, 28, 29, 30, 31, 32, 33, 34, 35, 36, 37, 38, 39, 40, 41, 42, 43, 44, 45, 46, 47, 48, 49, 50, 51, 52, 53, 54, 55, 56, 57, 58, 59, 60, 61, 62, 63, 64, 65, 66, 67, 68], [(.ret, [(4, none), (5, none)])], []⟩
noncomputable def prefix_Table_Take_intu1_p : XPat := ⟨.normal, [.nilp, (.ptr 0 []), (.tv (.int .i64)), (.tv (.int .i64)), (.tv .str)], [(.box (.tv YReader))]⟩
noncomputable def prefix_Table_Take_intu1_x : List XPat := [⟨.ret, [(.tv (.int .i64)), (.tv (.int .i64))], [(.box (.tv YReader))]⟩]
noncomputable def prefix_Table_Take_intu1 (k : Nat) : Nat → (Int) → (Int) → (List UInt8) → (DReader) → Option (((Int) × (Int)) × (DReader))
  | 0, _, _, _, _ => none
  | n + 1, x0, x1, x2, x3 =>
    Option.bind (inbits_Reader_Take k 1 x3) fun (v59 : ((Int) × ((Int) × (Unit))) × (DReader)) =>
    bif (!(decide (v59.1.2.1 = 0))) then
      Option.bind (inbits_Reader_Seek k x1 v59.2) fun (v60 : (Int) × (DReader)) =>
      some ((x0, v59.1.2.1), v60.2)
    else
    bif (decide ((0 : Int) ≤ v59.1.1 ∧ v59.1.1 ≤ (wr .i64 (v59.1.1 + 1)) ∧ (wr .i64 (v59.1.1 + 1)) ≤ ((2 : Nat) : Int))) then
      bif (decide ((List.length x2) + (List.length (List.drop (Int.toNat v59.1.1) (List.take (Int.toNat (wr .i64 (v59.1.1 + 1))) ([48, 49] : List UInt8)))) ≤ strMax)) then
        none
      else
        none
    else
      none
noncomputable def prefix_Table_Take_intu1_b : AC :=
  (.block 1 (.seq (.region [⟨some 23, none, (.op (.mv (.t 1))), []⟩,
    ⟨some 24, none, (.call (.c (.fn 72 .nil .nil)) [((.t 23), none), ((.c (.tv (.int .i64) (1 : Int))), none)]), []⟩,
    ⟨some 22, none, (.op (.mv (.t 24))), []⟩,
    ⟨some 25, none, (.op (.ext (.t 22) 0)), []⟩,
    ⟨some 26, none, (.op (.ext (.t 22) 1)), []⟩,
    ⟨some 9, none, (.op (.mv (.t 25))), []⟩,
    ⟨some 10, none, (.op (.mv (.t 26))), []⟩])
  (.seq (.seq (.region [⟨some 27, none, (.op (.mv (.t 10))), []⟩,
    ⟨some 28, none, (.op (.bin .neq (.t 27) (.c (.tv (.int .i64) (0 : Int))))), []⟩])
  (.cond (.t 28)
  (.seq (.region [⟨some 29, none, (.op (.mv (.t 1))), []⟩,
      ⟨some 30, none, (.op (.mv (.t 7))), []⟩,
      ⟨some 31, none, (.call (.c (.fn 8 .nil .nil)) [((.t 29), none), ((.t 30), none)]), []⟩])
    (.seq (.region [⟨some 32, none, (.op (.mv (.t 6))), []⟩,
      ⟨some 33, none, (.op (.mv (.t 10))), []⟩,
      ⟨some 4, none, (.op (.mv (.t 32))), []⟩,
      ⟨some 5, none, (.op (.mv (.t 33))), []⟩])
    .ret))
  .skip))
  (.seq (.region [⟨some 34, none, (.op (.mv (.t 8))), []⟩,
    ⟨some 35, none, (.op (.mv (.t 9))), []⟩,
    ⟨some 36, none, (.op (.mv (.t 9))), []⟩,
    ⟨some 37, none, (.op (.bin .add (.t 36) (.c (.tv (.int .i64) (1 : Int))))), []⟩,
    ⟨some 38, none, (.op (.slis (.c (.tv .str (([48, 49] : List UInt8) : List UInt8))) (some (.t 35)) (some (.t 37)))), []⟩,
    ⟨some 39, none, (.op (.bin .add (.t 34) (.t 38))), []⟩,
    ⟨some 8, none, (.op (.mv (.t 39))), []⟩])
  (.seq (.seq (.region [⟨some 41, none, (.op (.mv (.t 0))), []⟩,
    ⟨some 42, none, (.op (.nilc (.t 41))), []⟩,
    ⟨some 43, none, .op .bad, []⟩,
    ⟨some 44, none, .op .bad, []⟩,
    ⟨some 45, none, .op .bad, []⟩,
    ⟨some 46, none, .op .bad, []⟩,
    ⟨some 40, none, .op .bad, []⟩,
    ⟨some 47, none, .op .bad, []⟩,
    ⟨some 48, none, .op .bad, []⟩,
    ⟨some 11, none, .op .bad, []⟩,
    ⟨some 12, none, .op .bad, []⟩])
  (.seq (.region [⟨some 49, none, .op .bad, []⟩])
  (.cond (.t 49)
  (.seq (.region [⟨some 50, none, .op .bad, []⟩,
      ⟨some 51, none, .op .bad, []⟩,
      ⟨some 52, none, .op .bad, []⟩,
      ⟨some 53, none, .op .bad, []⟩,
      ⟨some 54, none, .op .bad, []⟩,
      ⟨some 55, none, .op .bad, []⟩,
      ⟨some 56, none, .op .bad, []⟩,
      ⟨some 57, none, .op .bad, []⟩,
      ⟨some 4, none, .op .bad, []⟩,
      ⟨some 5, none, .op .bad, []⟩])
    .ret)
  .skip)))
  (.seq (.region [⟨some 58, none, .op .bad, []⟩,
    ⟨some 59, none, .op .bad, []⟩,
    ⟨some 60, none, .op .bad, []⟩,
    ⟨some 61, none, .op .bad, []⟩,
    ⟨some 62, none, .op .bad, []⟩,
    ⟨some 63, none, .op .bad, []⟩,
    ⟨some 64, none, .op .bad, []⟩])
  (.cond (.t 64)
  (.seq (.region [⟨some 65, none, .op .bad, []⟩,
      ⟨some 66, none, .op .bad, []⟩,
      ⟨some 67, none, .op .bad, []⟩])
    (.seq (.region [⟨some 68, none, .op .bad, []⟩,
      ⟨some 4, none, .op .bad, []⟩,
      ⟨some 5, none, .op .bad, []⟩])
    .ret))
  .skip)))))))
noncomputable def prefix_Table_Take_intu1_t (k n : Nat) (d : prefix_Table_Take_intu1_p.D) : Option (XD prefix_Table_Take_intu1_x) := prefix_Table_Take_intu1 k n d.1.2.2.1 d.1.2.2.2.1 d.1.2.2.2.2 d.2
theorem prefix_Table_Take_intu1_ok (k : Nat) : UOK P GL (mkU prefix_Table_Take_intu1_p prefix_Table_Take_intu1_x (prefix_Table_Take_intu1_t k k) nilU) prefix_Table_Take_intu1_d true prefix_Table_Take_intu1_b :=
  loop_typed (ud := prefix_Table_Take_intu1_d) (body := prefix_Table_Take_intu1_b) (uorc := uorT (prefix_Table_Take_int_U1 k)) hmo (T20_ok k).oo (prefix_Table_Take_int_U1_ok k) (AllU.no (by kernel_rfl)) (t := prefix_Table_Take_intu1_t k) (fun d => by kernel_rfl) (fun n d => by kernel_rfl) k
noncomputable def prefix_Table_Take_int_U2 (k : Nat) : List (Nat × Ent) := (1, ⟨mkU prefix_Table_Take_intu1_p prefix_Table_Take_intu1_x (prefix_Table_Take_intu1_t k k) nilU⟩) :: prefix_Table_Take_int_U1 k
theorem prefix_Table_Take_int_U2_ok (k : Nat) : UTab (prefix_Table_Take_int_U2 k) := (prefix_Table_Take_int_U1_ok k).cons (mkU_nat nilU_nat)
noncomputable def prefix_Table_Take_int (k : Nat) (x0 : DReader) : Option (((Int) × ((Int) × (Unit))) × (DReader)) :=
  Option.bind (prefix_Table_Take_intu0 k x0) fun (v55 : (Bool) × (DReader)) =>
  bif v55.1 then
    some ((0, (1, ())), v55.2)
  else
  Option.bind (inbits_Reader_At k v55.2) fun (v56 : (Int) × (DReader)) =>
  Option.bind (prefix_Table_Take_intu1 k k 0 v56.1 ([] : List UInt8) v56.2) fun (v61 : ((Int) × (Int)) × (DReader)) =>
  some ((v61.1.1, (v61.1.2, ())), v61.2)
noncomputable def prefix_Table_Take_int_b : AC :=
  (.seq (.region [⟨some 4, none, (.op (.mv (.c (.tv (.int .i64) (0 : Int))))), []⟩,
    ⟨some 5, none, (.op (.mv (.c (.tv (.int .i64) (0 : Int))))), []⟩])
  (.seq (.region [⟨some 6, none, (.op (.mv (.c (.tv (.int .i64) (0 : Int))))), []⟩])
  (.seq (.seq (.unit 0 prefix_Table_Take_intu0_d false prefix_Table_Take_intu0_b)
  (.cond (.t 18)
  (.seq (.region [⟨some 19, none, (.op (.mv (.t 6))), []⟩,
      ⟨some 4, none, (.op (.mv (.t 19))), []⟩,
      ⟨some 5, none, (.op (.mv (.c (.tv (.int .i64) (1 : Int))))), []⟩])
    .ret)
  .skip))
  (.seq (.region [⟨some 20, none, (.op (.mv (.t 1))), []⟩,
    ⟨some 21, none, (.call (.c (.fn 14 .nil .nil)) [((.t 20), none)]), []⟩,
    ⟨some 7, none, (.op (.mv (.t 21))), []⟩,
    ⟨some 8, none, (.op (.mv (.c (.tv .str (([] : List UInt8) : List UInt8))))), []⟩])
  (.block 0 (.unit 1 prefix_Table_Take_intu1_d true prefix_Table_Take_intu1_b))))))
noncomputable def prefix_Table_Take_int_f : FDef := ⟨2, 69, [.tmp 4 none, .tmp 5 none], prefix_Table_Take_int_b⟩
noncomputable def prefix_Table_Take_int_p : XPat := ⟨.normal, [.nilp, (.ptr 0 [])], [(.box (.tv YReader))]⟩
noncomputable def prefix_Table_Take_int_x : List XPat := [⟨.ret, [(.tup (.cons (.tv (.int .i64)) (.cons (.tv (.int .i64)) .nil)))], [(.box (.tv YReader))]⟩]
noncomputable def prefix_Table_Take_int_t (k : Nat) (d : prefix_Table_Take_int_p.D) : Option (XD prefix_Table_Take_int_x) := prefix_Table_Take_int k d.2
noncomputable def prefix_Table_Take_int_e (k : Nat) : UEntry := mkU prefix_Table_Take_int_p prefix_Table_Take_int_x (prefix_Table_Take_int_t k) nilU
theorem prefix_Table_Take_int_n (k : Nat) : UNat (prefix_Table_Take_int_e k) := mkU_nat nilU_nat
theorem prefix_Table_Take_int_m : mfn P prefix_Table_Take_int_f Tryd.f74 = true := by kernel_rfl
theorem prefix_Table_Take_int_fu (k : Nat) : FU P GL 74 (prefix_Table_Take_int_e k) :=
  fn_typed (uorc := uorT (prefix_Table_Take_int_U2 k)) hmo (T20_ok k).oo (prefix_Table_Take_int_U2_ok k) (fd := prefix_Table_Take_int_f) (AllU.seq (AllU.no (by kernel_rfl)) (AllU.seq (AllU.no (by kernel_rfl)) (AllU.seq (AllU.seq (AllU.unit (uorc := uorT (prefix_Table_Take_int_U2 k)) (u := 0) (prefix_Table_Take_intu0_ok k)) (AllU.no (by kernel_rfl))) (AllU.seq (AllU.no (by kernel_rfl)) (AllU.block (AllU.unit (uorc := uorT (prefix_Table_Take_int_U2 k)) (u := 1) (prefix_Table_Take_intu1_ok k))))))) (fn := Tryd.f74) (by kernel_rfl) prefix_Table_Take_int_m (fun d => by kernel_rfl) FU_nil
noncomputable def T21 (k : Nat) : List (Nat × Ent) := (74, ⟨prefix_Table_Take_int_e k⟩) :: T20 k
theorem T21_ok (k : Nat) : TabOK P GL (T21 k) := (T20_ok k).cons (prefix_Table_Take_int_fu k) (prefix_Table_Take_int_n k)
/-! ### (*overspill.prefix.Table[int]).Take -/
noncomputable def prefix_Table_Take_int_2_U0 (_ : Nat) : List (Nat × Ent) := []
theorem prefix_Table_Take_int_2_U0_ok (k : Nat) : UTab (prefix_Table_Take_int_2_U0 k) := UTab.nil
noncomputable def prefix_Table_Take_int_2u0_d : UDef := ⟨[(0, none), (1, none)], [13, 14, 15, 16, 17, 18], [(.normal, [(18, none)])], []⟩
noncomputable def prefix_Table_Take_int_2u0_p : XPat := ⟨.normal, [(.ptr 0 []), (.ptr 4 [])], [(.box (.cons (.row 5) (.cons (.mp 1) (.cons (.mp 2) (.cons (.mp 3) (.cons (.tv (.int .i64)) .nil)))))), (.mp .str), (.mp (.int .i64)), (.mp .str), (.box (.tv YReader)), (.row YReader false)]⟩
noncomputable def prefix_Table_Take_int_2u0_x : List XPat := [⟨.normal, [(.tv .bool)], [(.box (.cons (.row 5) (.cons (.mp 1) (.cons (.mp 2) (.cons (.mp 3) (.cons (.tv (.int .i64)) .nil)))))), (.mp .str), (.mp (.int .i64)), (.mp .str), (.box (.tv YReader)), (.row YReader false)]⟩]
noncomputable def prefix_Table_Take_int_2u0 (k : Nat) (x0 : Int) (x1 : List ((List UInt8) × Int)) (x2 : List ((Int) × Int)) (x3 : List ((List UInt8) × Int)) (x4 : DReader) (x5 : List (DReader)) : Option ((Bool) × (((Unit) × ((Unit) × ((Unit) × ((Unit) × ((Int) × (Unit)))))) × ((List ((List UInt8) × Int)) × ((List ((Int) × Int)) × ((List ((List UInt8) × Int)) × ((DReader) × (List (DReader)))))))) :=
  some (false, (((), ((), ((), ((), (x0, ()))))), (x1, (x2, (x3, (x4, x5))))))
noncomputable def prefix_Table_Take_int_2u0_b : AC :=
  (.region [⟨some 13, none, (.op (.mv (.t 0))), []⟩,
    ⟨some 14, none, (.op (.eqp false (.t 13) (.c .nilp))), []⟩,
    ⟨some 15, none, (.op (.mv (.t 14))), []⟩,
    ⟨some 16, some (2, 15, false), (.op (.mv (.t 1))), []⟩,
    ⟨some 17, some (2, 15, false), (.op (.eqp false (.t 16) (.c .nilp))), []⟩,
    ⟨some 18, none, (.op (.pick (.t 15) (.c (.tv .bool (true : Bool))) (.t 17))), []⟩])
noncomputable def prefix_Table_Take_int_2u0_t (k : Nat) (d : prefix_Table_Take_int_2u0_p.D) : Option (XD prefix_Table_Take_int_2u0_x) := prefix_Table_Take_int_2u0 k d.2.1.2.2.2.2.1 d.2.2.1 d.2.2.2.1 d.2.2.2.2.1 d.2.2.2.2.2.1 d.2.2.2.2.2.2
theorem prefix_Table_Take_int_2u0_ok (k : Nat) : UOK P GL (mkU prefix_Table_Take_int_2u0_p prefix_Table_Take_int_2u0_x (prefix_Table_Take_int_2u0_t k) nilU) prefix_Table_Take_int_2u0_d false prefix_Table_Take_int_2u0_b :=
  unit_typed (ud := prefix_Table_Take_int_2u0_d) (body := prefix_Table_Take_int_2u0_b) (uorc := uorT (prefix_Table_Take_int_2_U0 k)) hmo (T21_ok k).oo (prefix_Table_Take_int_2_U0_ok k) (AllU.no (by kernel_rfl)) (fun d => by kernel_rfl)
noncomputable def prefix_Table_Take_int_2_U1 (k : Nat) : List (Nat × Ent) := (0, ⟨mkU prefix_Table_Take_int_2u0_p prefix_Table_Take_int_2u0_x (prefix_Table_Take_int_2u0_t k) nilU⟩) :: prefix_Table_Take_int_2_U0 k
theorem prefix_Table_Take_int_2_U1_ok (k : Nat) : UTab (prefix_Table_Take_int_2_U1 k) := (prefix_Table_Take_int_2_U0_ok k).cons (mkU_nat nilU_nat)
noncomputable def prefix_Table_Take_int_2u1_d : UDef := ⟨[(0, none), (1, none), (6, none), (7, none), (8, none)], [4, 5, 8, 9, 10, 11, 12, 22, 23, 24, 25, 26, 27, 28, 29, 30, 31, 32, 33, 34, 35, 36, 37, 38, 39, 40, 41, 42, 43, 44, 45, 46, 47, 48, 49, 50, 51, 52, 53, 54, 55, 56, 57, 58, 59, 60, 61, 62, 63, 64, 65, 66, 67, 68], [(.ret, [(4, none), (5, none)])], []⟩
noncomputable def prefix_Table_Take_int_2u1_p : XPat := ⟨.normal, [(.ptr 0 []), (.ptr 4 []), (.tv (.int .i64)), (.tv (.int .i64)), (.tv .str)], [(.box (.cons (.row 5) (.cons (.mp 1) (.cons (.mp 2) (.cons (.mp 3) (.cons (.tv (.int .i64)) .nil)))))), (.mp .str), (.mp (.int .i64)), (.mp .str), (.box (.tv YReader)), (.row YReader false)]⟩
noncomputable def prefix_Table_Take_int_2u1_x : List XPat := [⟨.ret, [(.tv (.int .i64)), (.tv (.int .i64))], [(.box (.cons (.row 5) (.cons (.mp 1) (.cons (.mp 2) (.cons (.mp 3) (.cons (.tv (.int .i64)) .nil)))))), (.mp .str), (.mp (.int .i64)), (.mp .str), (.box (.tv YReader)), (.row YReader false)]⟩]
noncomputable def prefix_Table_Take_int_2u1 (k : Nat) : Nat → (Int) → (Int) → (List UInt8) → (Int) → (List ((List UInt8) × Int)) → (List ((Int) × Int)) → (List ((List UInt8) × Int)) → (DReader) → (List (DReader)) → Option (((Int) × (Int)) × (((Unit) × ((Unit) × ((Unit) × ((Unit) × ((Int) × (Unit)))))) × ((List ((List UInt8) × Int)) × ((List ((Int) × Int)) × ((List ((List UInt8) × Int)) × ((DReader) × (List (DReader))))))))
  | 0, _, _, _, _, _, _, _, _, _ => none
  | n + 1, x0, x1, x2, x3, x4, x5, x6, x7, x8 =>
    Option.bind (inbits_Reader_Take k 1 x7) fun (v70 : ((Int) × ((Int) × (Unit))) × (DReader)) =>
    bif (!(decide (v70.1.2.1 = 0))) then
      Option.bind (inbits_Reader_Seek k x1 v70.2) fun (v71 : (Int) × (DReader)) =>
      some ((x0, v70.1.2.1), (((), ((), ((), ((), (x3, ()))))), (x4, (x5, (x6, (v71.2, x8))))))
    else
    bif (decide ((0 : Int) ≤ v70.1.1 ∧ v70.1.1 ≤ (wr .i64 (v70.1.1 + 1)) ∧ (wr .i64 (v70.1.1 + 1)) ≤ ((2 : Nat) : Int))) then
      bif (decide ((List.length x2) + (List.length (List.drop (Int.toNat v70.1.1) (List.take (Int.toNat (wr .i64 (v70.1.1 + 1))) ([48, 49] : List UInt8)))) ≤ strMax)) then
        bif (mhas .str (x2 ++ (List.drop (Int.toNat v70.1.1) (List.take (Int.toNat (wr .i64 (v70.1.1 + 1))) ([48, 49] : List UInt8)))) x4) then
          bif (inR (mval .str (x2 ++ (List.drop (Int.toNat v70.1.1) (List.take (Int.toNat (wr .i64 (v70.1.1 + 1))) ([48, 49] : List UInt8)))) x4) (List.length x8)) then
            some (((List.getD x8 (Int.toNat (mval .str (x2 ++ (List.drop (Int.toNat v70.1.1) (List.take (Int.toNat (wr .i64 (v70.1.1 + 1))) ([48, 49] : List UInt8)))) x4)) (([] : List UInt8), (0, ()))).2.1, 0), (((), ((), ((), ((), (x3, ()))))), (x4, (x5, (x6, (v70.2, x8))))))
          else
            none
        else
        bif (decide ((mval .str (x2 ++ (List.drop (Int.toNat v70.1.1) (List.take (Int.toNat (wr .i64 (v70.1.1 + 1))) ([48, 49] : List UInt8)))) x6) = 0)) then
          Option.bind (inbits_Reader_Seek k x1 v70.2) fun (v72 : (Int) × (DReader)) =>
          some ((x0, 3), (((), ((), ((), ((), (x3, ()))))), (x4, (x5, (x6, (v72.2, x8))))))
        else
        Option.bind (prefix_Table_Take_int_2u1 k n x0 x1 (x2 ++ (List.drop (Int.toNat v70.1.1) (List.take (Int.toNat (wr .i64 (v70.1.1 + 1))) ([48, 49] : List UInt8)))) x3 x4 x5 x6 v70.2 x8) fun r => some r
      else
        none
    else
      none
noncomputable def prefix_Table_Take_int_2u1_b : AC :=
  (.block 1 (.seq (.region [⟨some 23, none, (.op (.mv (.t 1))), []⟩,
    ⟨some 24, none, (.call (.c (.fn 72 .nil .nil)) [((.t 23), none), ((.c (.tv (.int .i64) (1 : Int))), none)]), []⟩,
    ⟨some 22, none, (.op (.mv (.t 24))), []⟩,
    ⟨some 25, none, (.op (.ext (.t 22) 0)), []⟩,
    ⟨some 26, none, (.op (.ext (.t 22) 1)), []⟩,
    ⟨some 9, none, (.op (.mv (.t 25))), []⟩,
    ⟨some 10, none, (.op (.mv (.t 26))), []⟩])
  (.seq (.seq (.region [⟨some 27, none, (.op (.mv (.t 10))), []⟩,
    ⟨some 28, none, (.op (.bin .neq (.t 27) (.c (.tv (.int .i64) (0 : Int))))), []⟩])
  (.cond (.t 28)
  (.seq (.region [⟨some 29, none, (.op (.mv (.t 1))), []⟩,
      ⟨some 30, none, (.op (.mv (.t 7))), []⟩,
      ⟨some 31, none, (.call (.c (.fn 8 .nil .nil)) [((.t 29), none), ((.t 30), none)]), []⟩])
    (.seq (.region [⟨some 32, none, (.op (.mv (.t 6))), []⟩,
      ⟨some 33, none, (.op (.mv (.t 10))), []⟩,
      ⟨some 4, none, (.op (.mv (.t 32))), []⟩,
      ⟨some 5, none, (.op (.mv (.t 33))), []⟩])
    .ret))
  .skip))
  (.seq (.region [⟨some 34, none, (.op (.mv (.t 8))), []⟩,
    ⟨some 35, none, (.op (.mv (.t 9))), []⟩,
    ⟨some 36, none, (.op (.mv (.t 9))), []⟩,
    ⟨some 37, none, (.op (.bin .add (.t 36) (.c (.tv (.int .i64) (1 : Int))))), []⟩,
    ⟨some 38, none, (.op (.slis (.c (.tv .str (([48, 49] : List UInt8) : List UInt8))) (some (.t 35)) (some (.t 37)))), []⟩,
    ⟨some 39, none, (.op (.bin .add (.t 34) (.t 38))), []⟩,
    ⟨some 8, none, (.op (.mv (.t 39))), []⟩])
  (.seq (.seq (.region [⟨some 41, none, (.op (.mv (.t 0))), []⟩,
    ⟨some 42, none, (.op (.nilc (.t 41))), []⟩,
    ⟨some 43, none, (.op (.fad 1 1 (.t 42))), []⟩,
    ⟨some 44, none, (.op (.load false 1 (.t 43))), []⟩,
    ⟨some 45, none, (.op (.mv (.t 8))), []⟩,
    ⟨some 46, none, (.op (.mlook .str true (.t 44) (.t 45))), []⟩,
    ⟨some 40, none, (.op (.mv (.t 46))), []⟩,
    ⟨some 47, none, (.op (.ext (.t 40) 0)), []⟩,
    ⟨some 48, none, (.op (.ext (.t 40) 1)), []⟩,
    ⟨some 11, none, (.op (.mv (.t 47))), []⟩,
    ⟨some 12, none, (.op (.mv (.t 48))), []⟩])
  (.seq (.region [⟨some 49, none, (.op (.mv (.t 12))), []⟩])
  (.cond (.t 49)
  (.seq (.region [⟨some 50, none, (.op (.mv (.t 0))), []⟩,
      ⟨some 51, none, (.op (.nilc (.t 50))), []⟩,
      ⟨some 52, none, (.op (.fad 0 0 (.t 51))), []⟩,
      ⟨some 53, none, (.op (.load false 1 (.t 52))), []⟩,
      ⟨some 54, none, (.op (.mv (.t 11))), []⟩,
      ⟨some 55, none, (.op (.iads YReader (.t 53) (.t 54))), []⟩,
      ⟨some 56, none, (.op (.fad 1 1 (.t 55))), []⟩,
      ⟨some 57, none, (.op (.load false 1 (.t 56))), []⟩,
      ⟨some 4, none, (.op (.mv (.t 57))), []⟩,
      ⟨some 5, none, (.op (.mv (.c (.tv (.int .i64) (0 : Int))))), []⟩])
    .ret)
  .skip)))
  (.seq (.region [⟨some 58, none, (.op (.mv (.t 0))), []⟩,
    ⟨some 59, none, (.op (.nilc (.t 58))), []⟩,
    ⟨some 60, none, (.op (.fad 3 3 (.t 59))), []⟩,
    ⟨some 61, none, (.op (.load false 1 (.t 60))), []⟩,
    ⟨some 62, none, (.op (.mv (.t 8))), []⟩,
    ⟨some 63, none, (.op (.mlook .str false (.t 61) (.t 62))), []⟩,
    ⟨some 64, none, (.op (.bin .eql (.t 63) (.c (.tv (.int .i64) (0 : Int))))), []⟩])
  (.cond (.t 64)
  (.seq (.region [⟨some 65, none, (.op (.mv (.t 1))), []⟩,
      ⟨some 66, none, (.op (.mv (.t 7))), []⟩,
      ⟨some 67, none, (.call (.c (.fn 8 .nil .nil)) [((.t 65), none), ((.t 66), none)]), []⟩])
    (.seq (.region [⟨some 68, none, (.op (.mv (.t 6))), []⟩,
      ⟨some 4, none, (.op (.mv (.t 68))), []⟩,
      ⟨some 5, none, (.op (.mv (.c (.tv (.int .i64) (3 : Int))))), []⟩])
    .ret))
  .skip)))))))
noncomputable def prefix_Table_Take_int_2u1_t (k n : Nat) (d : prefix_Table_Take_int_2u1_p.D) : Option (XD prefix_Table_Take_int_2u1_x) := prefix_Table_Take_int_2u1 k n d.1.2.2.1 d.1.2.2.2.1 d.1.2.2.2.2 d.2.1.2.2.2.2.1 d.2.2.1 d.2.2.2.1 d.2.2.2.2.1 d.2.2.2.2.2.1 d.2.2.2.2.2.2
theorem prefix_Table_Take_int_2u1_ok (k : Nat) : UOK P GL (mkU prefix_Table_Take_int_2u1_p prefix_Table_Take_int_2u1_x (prefix_Table_Take_int_2u1_t k k) nilU) prefix_Table_Take_int_2u1_d true prefix_Table_Take_int_2u1_b :=
  loop_typed (ud := prefix_Table_Take_int_2u1_d) (body := prefix_Table_Take_int_2u1_b) (uorc := uorT (prefix_Table_Take_int_2_U1 k)) hmo (T21_ok k).oo (prefix_Table_Take_int_2_U1_ok k) (AllU.no (by kernel_rfl)) (t := prefix_Table_Take_int_2u1_t k) (fun d => by kernel_rfl) (fun n d => by kernel_rfl) k
noncomputable def prefix_Table_Take_int_2_U2 (k : Nat) : List (Nat × Ent) := (1, ⟨mkU prefix_Table_Take_int_2u1_p prefix_Table_Take_int_2u1_x (prefix_Table_Take_int_2u1_t k k) nilU⟩) :: prefix_Table_Take_int_2_U1 k
theorem prefix_Table_Take_int_2_U2_ok (k : Nat) : UTab (prefix_Table_Take_int_2_U2 k) := (prefix_Table_Take_int_2_U1_ok k).cons (mkU_nat nilU_nat)
noncomputable def prefix_Table_Take_int_2 (k : Nat) (x0 : Int) (x1 : List ((List UInt8) × Int)) (x2 : List ((Int) × Int)) (x3 : List ((List UInt8) × Int)) (x4 : DReader) (x5 : List (DReader)) : Option (((Int) × ((Int) × (Unit))) × (((Unit) × ((Unit) × ((Unit) × ((Unit) × ((Int) × (Unit)))))) × ((List ((List UInt8) × Int)) × ((List ((Int) × Int)) × ((List ((List UInt8) × Int)) × ((DReader) × (List (DReader)))))))) :=
  Option.bind (prefix_Table_Take_int_2u0 k x0 x1 x2 x3 x4 x5) fun (v65 : (Bool) × (((Unit) × ((Unit) × ((Unit) × ((Unit) × ((Int) × (Unit)))))) × ((List ((List UInt8) × Int)) × ((List ((Int) × Int)) × ((List ((List UInt8) × Int)) × ((DReader) × (List (DReader)))))))) =>
  bif v65.1 then
    some ((0, (1, ())), (((), ((), ((), ((), (v65.2.1.2.2.2.2.1, ()))))), (v65.2.2.1, (v65.2.2.2.1, (v65.2.2.2.2.1, (v65.2.2.2.2.2.1, v65.2.2.2.2.2.2))))))
  else
  Option.bind (inbits_Reader_At k v65.2.2.2.2.2.1) fun (v66 : (Int) × (DReader)) =>
  Option.bind (prefix_Table_Take_int_2u1 k k 0 v66.1 ([] : List UInt8) v65.2.1.2.2.2.2.1 v65.2.2.1 v65.2.2.2.1 v65.2.2.2.2.1 v66.2 v65.2.2.2.2.2.2) fun (v73 : ((Int) × (Int)) × (((Unit) × ((Unit) × ((Unit) × ((Unit) × ((Int) × (Unit)))))) × ((List ((List UInt8) × Int)) × ((List ((Int) × Int)) × ((List ((List UInt8) × Int)) × ((DReader) × (List (DReader)))))))) =>
  some ((v73.1.1, (v73.1.2, ())), (((), ((), ((), ((), (v73.2.1.2.2.2.2.1, ()))))), (v73.2.2.1, (v73.2.2.2.1, (v73.2.2.2.2.1, (v73.2.2.2.2.2.1, v73.2.2.2.2.2.2))))))
noncomputable def prefix_Table_Take_int_2_b : AC :=
  (.seq (.region [⟨some 4, none, (.op (.mv (.c (.tv (.int .i64) (0 : Int))))), []⟩,
    ⟨some 5, none, (.op (.mv (.c (.tv (.int .i64) (0 : Int))))), []⟩])
  (.seq (.region [⟨some 6, none, (.op (.mv (.c (.tv (.int .i64) (0 : Int))))), []⟩])
  (.seq (.seq (.unit 0 prefix_Table_Take_int_2u0_d false prefix_Table_Take_int_2u0_b)
  (.cond (.t 18)
  (.seq (.region [⟨some 19, none, (.op (.mv (.t 6))), []⟩,
      ⟨some 4, none, (.op (.mv (.t 19))), []⟩,
      ⟨some 5, none, (.op (.mv (.c (.tv (.int .i64) (1 : Int))))), []⟩])
    .ret)
  .skip))
  (.seq (.region [⟨some 20, none, (.op (.mv (.t 1))), []⟩,
    ⟨some 21, none, (.call (.c (.fn 14 .nil .nil)) [((.t 20), none)]), []⟩,
    ⟨some 7, none, (.op (.mv (.t 21))), []⟩,
    ⟨some 8, none, (.op (.mv (.c (.tv .str (([] : List UInt8) : List UInt8))))), []⟩])
  (.block 0 (.unit 1 prefix_Table_Take_int_2u1_d true prefix_Table_Take_int_2u1_b))))))
noncomputable def prefix_Table_Take_int_2_f : FDef := ⟨2, 69, [.tmp 4 none, .tmp 5 none], prefix_Table_Take_int_2_b⟩
noncomputable def prefix_Table_Take_int_2_p : XPat := ⟨.normal, [(.ptr 0 []), (.ptr 4 [])], [(.box (.cons (.row 5) (.cons (.mp 1) (.cons (.mp 2) (.cons (.mp 3) (.cons (.tv (.int .i64)) .nil)))))), (.mp .str), (.mp (.int .i64)), (.mp .str), (.box (.tv YReader)), (.row YReader false)]⟩
noncomputable def prefix_Table_Take_int_2_x : List XPat := [⟨.ret, [(.tup (.cons (.tv (.int .i64)) (.cons (.tv (.int .i64)) .nil)))], [(.box (.cons (.row 5) (.cons (.mp 1) (.cons (.mp 2) (.cons (.mp 3) (.cons (.tv (.int .i64)) .nil)))))), (.mp .str), (.mp (.int .i64)), (.mp .str), (.box (.tv YReader)), (.row YReader false)]⟩]
noncomputable def prefix_Table_Take_int_2_t (k : Nat) (d : prefix_Table_Take_int_2_p.D) : Option (XD prefix_Table_Take_int_2_x) := prefix_Table_Take_int_2 k d.2.1.2.2.2.2.1 d.2.2.1 d.2.2.2.1 d.2.2.2.2.1 d.2.2.2.2.2.1 d.2.2.2.2.2.2
noncomputable def prefix_Table_Take_int_2_e (k : Nat) : UEntry := mkU prefix_Table_Take_int_2_p prefix_Table_Take_int_2_x (prefix_Table_Take_int_2_t k) (prefix_Table_Take_int_e k)
theorem prefix_Table_Take_int_2_n (k : Nat) : UNat (prefix_Table_Take_int_2_e k) := mkU_nat (prefix_Table_Take_int_n k)
theorem prefix_Table_Take_int_2_m : mfn P prefix_Table_Take_int_2_f Tryd.f74 = true := by kernel_rfl
theorem prefix_Table_Take_int_2_fu (k : Nat) : FU P GL 74 (prefix_Table_Take_int_2_e k) :=
  fn_typed (uorc := uorT (prefix_Table_Take_int_2_U2 k)) hmo (T21_ok k).oo (prefix_Table_Take_int_2_U2_ok k) (fd := prefix_Table_Take_int_2_f) (AllU.seq (AllU.no (by kernel_rfl)) (AllU.seq (AllU.no (by kernel_rfl)) (AllU.seq (AllU.seq (AllU.unit (uorc := uorT (prefix_Table_Take_int_2_U2 k)) (u := 0) (prefix_Table_Take_int_2u0_ok k)) (AllU.no (by kernel_rfl))) (AllU.seq (AllU.no (by kernel_rfl)) (AllU.block (AllU.unit (uorc := uorT (prefix_Table_Take_int_2_U2 k)) (u := 1) (prefix_Table_Take_int_2u1_ok k))))))) (fn := Tryd.f74) (by kernel_rfl) prefix_Table_Take_int_2_m (fun d => by kernel_rfl) (prefix_Table_Take_int_fu k)
noncomputable def T22 (k : Nat) : List (Nat × Ent) := (74, ⟨prefix_Table_Take_int_2_e k⟩) :: T21 k
theorem T22_ok (k : Nat) : TabOK P GL (T22 k) := (T21_ok k).cons (prefix_Table_Take_int_2_fu k) (prefix_Table_Take_int_2_n k)
/-! ### overspill.mcbpc.Take -/
noncomputable def mcbpc_Take_U0 (_ : Nat) : List (Nat × Ent) := []
theorem mcbpc_Take_U0_ok (k : Nat) : UTab (mcbpc_Take_U0 k) := UTab.nil
noncomputable def mcbpc_Take (k : Nat) (x0 : Bool) (x1 : DReader) : Option (((Int) × ((Int) × ((Int) × (Unit)))) × (DReader)) :=
  Option.bind (inbits_Reader_At k x1) fun (v11 : (Int) × (DReader)) =>
  Option.bind (mcbpc_table k x0) fun r =>
  Sum.elim (fun (v54 : Unit) =>
    Option.bind (prefix_Table_Take_int k v11.2) fun (v62 : ((Int) × ((Int) × (Unit))) × (DReader)) =>
    bif (!(decide (v62.1.2.1 = 0))) then
      some ((0, (0, (v62.1.2.1, ()))), v62.2)
    else
    bif (decide ((wr .i64 (Int.tdiv v62.1.1 10)) = 2)) then
      Option.bind (inbits_Reader_Seek k v11.1 v62.2) fun (v63 : (Int) × (DReader)) =>
      some ((0, (0, (6, ()))), v63.2)
    else
    some (((wr .i64 (Int.tdiv v62.1.1 10)), ((Int.tmod v62.1.1 10), (0, ()))), v62.2))
    (fun (v64 : (Unit) × (((Unit) × ((Unit) × ((Unit) × ((Unit) × ((Int) × (Unit)))))) × ((List ((List UInt8) × Int)) × ((List ((Int) × Int)) × ((List ((List UInt8) × Int)) × (List (DReader))))))) =>
    Option.bind (prefix_Table_Take_int_2 k v64.2.1.2.2.2.2.1 v64.2.2.1 v64.2.2.2.1 v64.2.2.2.2.1 v11.2 v64.2.2.2.2.2) fun (v74 : ((Int) × ((Int) × (Unit))) × (((Unit) × ((Unit) × ((Unit) × ((Unit) × ((Int) × (Unit)))))) × ((List ((List UInt8) × Int)) × ((List ((Int) × Int)) × ((List ((List UInt8) × Int)) × ((DReader) × (List (DReader)))))))) =>
    bif (!(decide (v74.1.2.1 = 0))) then
      some ((0, (0, (v74.1.2.1, ()))), v74.2.2.2.2.2.1)
    else
    bif (decide ((wr .i64 (Int.tdiv v74.1.1 10)) = 2)) then
      Option.bind (inbits_Reader_Seek k v11.1 v74.2.2.2.2.2.1) fun (v75 : (Int) × (DReader)) =>
      some ((0, (0, (6, ()))), v75.2)
    else
    some (((wr .i64 (Int.tdiv v74.1.1 10)), ((Int.tmod v74.1.1 10), (0, ()))), v74.2.2.2.2.2.1)) r
noncomputable def mcbpc_Take_b : AC :=
  (.seq (.region [⟨some 4, none, (.op (.mv (.c (.tv (.int .i64) (0 : Int))))), []⟩,
    ⟨some 5, none, (.op (.mv (.c (.tv (.int .i64) (0 : Int))))), []⟩,
    ⟨some 6, none, (.op (.mv (.c (.tv (.int .i64) (0 : Int))))), []⟩])
  (.seq (.region [⟨some 10, none, (.op (.mv (.t 0))), []⟩,
    ⟨some 11, none, (.call (.c (.fn 14 .nil .nil)) [((.t 10), none)]), []⟩,
    ⟨some 7, none, (.op (.mv (.t 11))), []⟩])
  (.seq (.region [⟨some 13, none, (.op (.mv (.t 1))), []⟩,
    ⟨some 14, none, (.call (.c (.fn 73 .nil .nil)) [((.t 13), none)]), []⟩,
    ⟨some 15, none, (.op (.mv (.t 0))), []⟩,
    ⟨some 16, none, (.call (.c (.fn 74 .nil .nil)) [((.t 14), none), ((.t 15), none)]), []⟩,
    ⟨some 12, none, (.op (.mv (.t 16))), []⟩,
    ⟨some 17, none, (.op (.ext (.t 12) 0)), []⟩,
    ⟨some 18, none, (.op (.ext (.t 12) 1)), []⟩,
    ⟨some 8, none, (.op (.mv (.t 17))), []⟩,
    ⟨some 9, none, (.op (.mv (.t 18))), []⟩])
  (.seq (.block 0 (.seq (.region [⟨some 20, none, (.op (.mv (.t 9))), []⟩,
    ⟨some 21, none, (.op (.bin .neq (.t 20) (.c (.tv (.int .i64) (0 : Int))))), []⟩,
    ⟨some 19, none, (.op (.mv (.t 21))), []⟩])
  (.cond (.t 19)
  (.seq (.region [⟨some 22, none, (.op (.mv (.t 9))), []⟩,
      ⟨some 4, none, (.op (.mv (.c (.tv (.int .i64) (0 : Int))))), []⟩,
      ⟨some 5, none, (.op (.mv (.c (.tv (.int .i64) (0 : Int))))), []⟩,
      ⟨some 6, none, (.op (.mv (.t 22))), []⟩])
    .ret)
  (.seq (.region [⟨some 24, none, (.op (.mv (.t 8))), []⟩,
      ⟨some 25, none, (.op (.bin .quo (.t 24) (.c (.tv (.int .i64) (10 : Int))))), []⟩,
      ⟨some 26, none, (.op (.bin .eql (.t 25) (.c (.tv (.int .i64) (2 : Int))))), []⟩,
      ⟨some 23, none, (.op (.mv (.t 26))), []⟩])
    (.cond (.t 23)
    (.seq (.region [⟨some 27, none, (.op (.mv (.t 0))), []⟩,
        ⟨some 28, none, (.op (.mv (.t 7))), []⟩,
        ⟨some 29, none, (.call (.c (.fn 8 .nil .nil)) [((.t 27), none), ((.t 28), none)]), []⟩])
      (.seq (.region [⟨some 4, none, (.op (.mv (.c (.tv (.int .i64) (0 : Int))))), []⟩,
        ⟨some 5, none, (.op (.mv (.c (.tv (.int .i64) (0 : Int))))), []⟩,
        ⟨some 6, none, (.op (.mv (.c (.tv (.int .i64) (6 : Int))))), []⟩])
      .ret))
    .skip)))))
  (.seq (.region [⟨some 30, none, (.op (.mv (.t 8))), []⟩,
    ⟨some 31, none, (.op (.bin .quo (.t 30) (.c (.tv (.int .i64) (10 : Int))))), []⟩,
    ⟨some 32, none, (.op (.mv (.t 8))), []⟩,
    ⟨some 33, none, (.op (.bin .rem (.t 32) (.c (.tv (.int .i64) (10 : Int))))), []⟩,
    ⟨some 4, none, (.op (.mv (.t 31))), []⟩,
    ⟨some 5, none, (.op (.mv (.t 33))), []⟩,
    ⟨some 6, none, (.op (.mv (.c (.tv (.int .i64) (0 : Int))))), []⟩])
  .ret)))))
noncomputable def mcbpc_Take_f : FDef := ⟨2, 34, [.tmp 4 none, .tmp 5 none, .tmp 6 none], mcbpc_Take_b⟩
noncomputable def mcbpc_Take_p : XPat := ⟨.normal, [(.ptr 0 []), (.tv .bool)], [(.box (.tv YReader))]⟩
noncomputable def mcbpc_Take_x : List XPat := [⟨.ret, [(.tup (.cons (.tv (.int .i64)) (.cons (.tv (.int .i64)) (.cons (.tv (.int .i64)) .nil))))], [(.box (.tv YReader))]⟩]
noncomputable def mcbpc_Take_t (k : Nat) (d : mcbpc_Take_p.D) : Option (XD mcbpc_Take_x) := mcbpc_Take k d.1.2 d.2
noncomputable def mcbpc_Take_e (k : Nat) : UEntry := mkU mcbpc_Take_p mcbpc_Take_x (mcbpc_Take_t k) nilU
theorem mcbpc_Take_n (k : Nat) : UNat (mcbpc_Take_e k) := mkU_nat nilU_nat
theorem mcbpc_Take_m : mfn P mcbpc_Take_f Tryd.f51 = true := by kernel_rfl
theorem mcbpc_Take_fu (k : Nat) : FU P GL 51 (mcbpc_Take_e k) :=
  fn_typed (uorc := uorT (mcbpc_Take_U0 k)) hmo (T22_ok k).oo (mcbpc_Take_U0_ok k) (fd := mcbpc_Take_f) (AllU.no (by kernel_rfl)) (fn := Tryd.f51) (by kernel_rfl) mcbpc_Take_m (fun d => by kernel_rfl) FU_nil
noncomputable def T23 (k : Nat) : List (Nat × Ent) := (51, ⟨mcbpc_Take_e k⟩) :: T22 k
theorem T23_ok (k : Nat) : TabOK P GL (T23 k) := (T22_ok k).cons (mcbpc_Take_fu k) (mcbpc_Take_n k)
abbrev DEvent : Type := Bool × Int × Int × Unit
abbrev DCell : Type := Int × Bool × Int × Int × (List (Int)) × (List (Int)) × (List (List (DEvent))) × Unit
/-! ### (*overspill.cellin.reader).head -/
noncomputable def cellin_reader_head_U0 (_ : Nat) : List (Nat × Ent) := []
theorem cellin_reader_head_U0_ok (k : Nat) : UTab (cellin_reader_head_U0 k) := UTab.nil
noncomputable def cellin_reader_headu0_d : UDef := ⟨[(0, none), (1, none)], [16, 17, 18, 19, 20, 21], [(.normal, [(21, none)])], []⟩
noncomputable def cellin_reader_headu0_p : XPat := ⟨.normal, [(.ptr 0 []), (.tv .bool)], [(.box (.cons (.ptr 1 []) (.cons (.tv (.int .i64)) .nil))), (.box (.tv YReader))]⟩
noncomputable def cellin_reader_headu0_x : List XPat := [⟨.normal, [(.tv .bool)], [(.box (.cons (.ptr 1 []) (.cons (.tv (.int .i64)) .nil))), (.box (.tv YReader))]⟩]
noncomputable def cellin_reader_headu0 (k : Nat) (x0 : Bool) (x1 : Int) (x2 : DReader) : Option ((Bool) × (((Unit) × ((Int) × (Unit))) × (DReader))) :=
  bif x0 then
    Option.bind (cellin_reader_bit k x1 x2) fun (v9 : (Int) × (((Unit) × ((Int) × (Unit))) × (DReader))) =>
    some ((decide (v9.1 = 1)), (((), (v9.2.1.2.1, ())), v9.2.2))
  else
  some (false, (((), (x1, ())), x2))
noncomputable def cellin_reader_headu0_b : AC :=
  (.region [⟨some 16, none, (.op (.mv (.t 1))), []⟩,
    ⟨some 17, none, (.op (.mv (.t 16))), []⟩,
    ⟨some 18, some (1, 17, true), (.op (.mv (.t 0))), []⟩,
    ⟨some 19, some (1, 17, true), (.call (.c (.fn 50 .nil .nil)) [((.t 18), none)]), []⟩,
    ⟨some 20, some (1, 17, true), (.op (.bin .eql (.t 19) (.c (.tv (.int .i64) (1 : Int))))), []⟩,
    ⟨some 21, none, (.op (.pick (.t 17) (.t 20) (.c (.tv .bool (false : Bool))))), []⟩])
noncomputable def cellin_reader_headu0_t (k : Nat) (d : cellin_reader_headu0_p.D) : Option (XD cellin_reader_headu0_x) := cellin_reader_headu0 k d.1.2 d.2.1.2.1 d.2.2
theorem cellin_reader_headu0_ok (k : Nat) : UOK P GL (mkU cellin_reader_headu0_p cellin_reader_headu0_x (cellin_reader_headu0_t k) nilU) cellin_reader_headu0_d false cellin_reader_headu0_b :=
  unit_typed (ud := cellin_reader_headu0_d) (body := cellin_reader_headu0_b) (uorc := uorT (cellin_reader_head_U0 k)) hmo (T23_ok k).oo (cellin_reader_head_U0_ok k) (AllU.no (by kernel_rfl)) (fun d => by kernel_rfl)
noncomputable def cellin_reader_head_U1 (k : Nat) : List (Nat × Ent) := (0, ⟨mkU cellin_reader_headu0_p cellin_reader_headu0_x (cellin_reader_headu0_t k) nilU⟩) :: cellin_reader_head_U0 k
theorem cellin_reader_head_U1_ok (k : Nat) : UTab (cellin_reader_head_U1 k) := (cellin_reader_head_U0_ok k).cons (mkU_nat nilU_nat)
noncomputable def cellin_reader_headu1_d : UDef := ⟨[(0, none), (1, none), (2, none)], [6, 7, 8, 9, 10, 11, 12, 13, 14, 15, 16, 17, 18, 19, 20, 21, 22, 23, 24, 25, 26, 27, 28, 29, 30, 31, 32, 33, 34, 35, 36, 37, 38, 39, 40, 41, 42, 43, 44, 45, 46, 47, 48, 49, 50, 51, 52, 53, 54, 55, 56, 57, 58, 59, 60, 61, 62, 63, 64, 65, 66, 67], [(.ret, [(6, none), (7, none)]), ((.exit 0), [])], []⟩
noncomputable def cellin_reader_headu1_p : XPat := ⟨.normal, [(.ptr 0 []), (.tv .bool), (.ptr 2 [])], [(.box (.cons (.ptr 1 []) (.cons (.tv (.int .i64)) .nil))), (.box (.tv YReader)), (.box (.tv YCell))]⟩
noncomputable def cellin_reader_headu1_x : List XPat := [⟨.ret, [(.tv (.int .i64)), (.tv .bool)], [(.box (.cons (.ptr 1 []) (.cons (.tv (.int .i64)) .nil))), (.box (.tv YReader)), (.box (.tv YCell))]⟩, ⟨(.exit 0), [], [(.box (.cons (.ptr 1 []) (.cons (.tv (.int .i64)) .nil))), (.box (.tv YReader)), (.box (.tv YCell))]⟩]
noncomputable def cellin_reader_headu1 (k : Nat) : Nat → (Bool) → (Int) → (DReader) → (DCell) → Option ((((Int) × (Bool)) × (((Unit) × ((Int) × (Unit))) × ((DReader) × (DCell)))) ⊕ ((Unit) × (((Unit) × ((Int) × (Unit))) × ((DReader) × (DCell)))))
  | 0, _, _, _, _ => none
  | n + 1, x0, x1, x2, x3 =>
    bif (decide (x1 = 0)) then
      Option.bind (cellin_reader_headu0 k x0 x1 x2) fun (v77 : (Bool) × (((Unit) × ((Int) × (Unit))) × (DReader))) =>
      bif v77.1 then
        some (Sum.inl ((0, false), (((), (v77.2.1.2.1, ())), (v77.2.2, (x3.1, (true, x3.2.2))))))
      else
      bif (!(decide (v77.2.1.2.1 = 0))) then
        some (Sum.inr ((), (((), (v77.2.1.2.1, ())), (v77.2.2, x3))))
      else
      Option.bind (mcbpc_Take k x0 v77.2.2) fun (v78 : ((Int) × ((Int) × ((Int) × (Unit)))) × (DReader)) =>
      bif (!(decide (v78.1.2.2.1 = 0))) then
        some (Sum.inr ((), (((), (v78.1.2.2.1, ())), (v78.2, x3))))
      else
      bif (!(decide (v78.1.1 = 5))) then
        some (Sum.inl ((v78.1.2.1, true), (((), (v77.2.1.2.1, ())), (v78.2, (x3.1, (x3.2.1, (v78.1.1, x3.2.2.2)))))))
      else
      bif (decide (x3.1 = 64)) then
        some (Sum.inr ((), (((), (13, ())), (v78.2, x3))))
      else
      Option.bind (cellin_reader_headu1 k n x0 v77.2.1.2.1 v78.2 ((wr .i64 (x3.1 + 1)), x3.2)) fun r => Sum.elim (fun w => some (Sum.inl w)) (fun w => some (Sum.inr w)) r
    else
    some (Sum.inr ((), (((), (x1, ())), (x2, x3))))
noncomputable def cellin_reader_headu1_b : AC :=
  (.seq (.seq (.region [⟨some 11, none, (.op (.mv (.t 0))), []⟩,
    ⟨some 12, none, (.op (.nilc (.t 11))), []⟩,
    ⟨some 13, none, (.op (.fad 1 1 (.t 12))), []⟩,
    ⟨some 14, none, (.op (.load false 1 (.t 13))), []⟩,
    ⟨some 15, none, (.op (.bin .eql (.t 14) (.c (.tv (.int .i64) (0 : Int))))), []⟩])
  (.cond (.t 15)
  .skip
  (.exit 0)))
  (.block 1 (.seq (.seq (.unit 0 cellin_reader_headu0_d false cellin_reader_headu0_b)
  (.cond (.t 21)
  (.seq (.region [⟨some 22, none, (.op (.mv (.t 2))), []⟩,
      ⟨some 23, none, (.op (.nilc (.t 22))), []⟩,
      ⟨some 24, none, (.op (.fad 1 1 (.t 23))), []⟩,
      ⟨none, none, (.op (.store 1 none (.t 24) (.c (.tv .bool (true : Bool))))), []⟩])
    (.seq (.region [⟨some 6, none, (.op (.mv (.c (.tv (.int .i64) (0 : Int))))), []⟩,
      ⟨some 7, none, (.op (.mv (.c (.tv .bool (false : Bool))))), []⟩])
    .ret))
  .skip))
  (.seq (.seq (.region [⟨some 25, none, (.op (.mv (.t 0))), []⟩,
    ⟨some 26, none, (.op (.nilc (.t 25))), []⟩,
    ⟨some 27, none, (.op (.fad 1 1 (.t 26))), []⟩,
    ⟨some 28, none, (.op (.load false 1 (.t 27))), []⟩,
    ⟨some 29, none, (.op (.bin .neq (.t 28) (.c (.tv (.int .i64) (0 : Int))))), []⟩])
  (.cond (.t 29)
  (.exit 0)
  .skip))
  (.seq (.region [⟨some 31, none, (.op (.mv (.t 0))), []⟩,
    ⟨some 32, none, (.op (.nilc (.t 31))), []⟩,
    ⟨some 33, none, (.op (.fad 0 0 (.t 32))), []⟩,
    ⟨some 34, none, (.op (.load false 1 (.t 33))), []⟩,
    ⟨some 35, none, (.op (.mv (.t 1))), []⟩,
    ⟨some 36, none, (.call (.c (.fn 51 .nil .nil)) [((.t 34), none), ((.t 35), none)]), []⟩,
    ⟨some 30, none, (.op (.mv (.t 36))), []⟩,
    ⟨some 37, none, (.op (.ext (.t 30) 0)), []⟩,
    ⟨some 38, none, (.op (.ext (.t 30) 1)), []⟩,
    ⟨some 39, none, (.op (.ext (.t 30) 2)), []⟩,
    ⟨some 8, none, (.op (.mv (.t 37))), []⟩,
    ⟨some 9, none, (.op (.mv (.t 38))), []⟩,
    ⟨some 10, none, (.op (.mv (.t 39))), []⟩])
  (.seq (.seq (.region [⟨some 40, none, (.op (.mv (.t 10))), []⟩,
    ⟨some 41, none, (.op (.bin .neq (.t 40) (.c (.tv (.int .i64) (0 : Int))))), []⟩])
  (.cond (.t 41)
  (.seq (.region [⟨some 42, none, (.op (.mv (.t 0))), []⟩,
      ⟨some 43, none, (.op (.mv (.t 10))), []⟩,
      ⟨some 44, none, (.op (.nilc (.t 42))), []⟩,
      ⟨some 45, none, (.op (.fad 1 1 (.t 44))), []⟩,
      ⟨none, none, (.op (.store 1 none (.t 45) (.t 43))), []⟩])
    (.exit 0))
  .skip))
  (.seq (.seq (.region [⟨some 46, none, (.op (.mv (.t 8))), []⟩,
    ⟨some 47, none, (.op (.bin .neq (.t 46) (.c (.tv (.int .i64) (5 : Int))))), []⟩])
  (.cond (.t 47)
  (.seq (.region [⟨some 48, none, (.op (.mv (.t 2))), []⟩,
      ⟨some 49, none, (.op (.mv (.t 8))), []⟩,
      ⟨some 50, none, (.op (.nilc (.t 48))), []⟩,
      ⟨some 51, none, (.op (.fad 2 2 (.t 50))), []⟩,
      ⟨none, none, (.op (.store 1 none (.t 51) (.t 49))), []⟩])
    (.seq (.region [⟨some 52, none, (.op (.mv (.t 9))), []⟩,
      ⟨some 6, none, (.op (.mv (.t 52))), []⟩,
      ⟨some 7, none, (.op (.mv (.c (.tv .bool (true : Bool))))), []⟩])
    .ret))
  .skip))
  (.seq (.seq (.region [⟨some 53, none, (.op (.mv (.t 2))), []⟩,
    ⟨some 54, none, (.op (.nilc (.t 53))), []⟩,
    ⟨some 55, none, (.op (.fad 0 0 (.t 54))), []⟩,
    ⟨some 56, none, (.op (.load false 1 (.t 55))), []⟩,
    ⟨some 57, none, (.op (.bin .eql (.t 56) (.c (.tv (.int .i64) (64 : Int))))), []⟩])
  (.cond (.t 57)
  (.seq (.region [⟨some 58, none, (.op (.mv (.t 0))), []⟩,
      ⟨some 59, none, (.op (.nilc (.t 58))), []⟩,
      ⟨some 60, none, (.op (.fad 1 1 (.t 59))), []⟩,
      ⟨none, none, (.op (.store 1 none (.t 60) (.c (.tv (.int .i64) (13 : Int))))), []⟩])
    (.exit 0))
  .skip))
  (.region [⟨some 61, none, (.op (.mv (.t 2))), []⟩,
    ⟨some 62, none, (.op (.nilc (.t 61))), []⟩,
    ⟨some 63, none, (.op (.fad 0 0 (.t 62))), []⟩,
    ⟨some 64, none, (.op (.load false 1 (.t 63))), []⟩,
    ⟨some 65, none, (.op (.bin .add (.t 64) (.c (.tv (.int .i64) (1 : Int))))), []⟩,
    ⟨some 66, none, (.op (.nilc (.t 61))), []⟩,
    ⟨some 67, none, (.op (.fad 0 0 (.t 66))), []⟩,
    ⟨none, none, (.op (.store 1 none (.t 67) (.t 65))), []⟩])))))))))
noncomputable def cellin_reader_headu1_t (k n : Nat) (d : cellin_reader_headu1_p.D) : Option (XD cellin_reader_headu1_x) := cellin_reader_headu1 k n d.1.2.1 d.2.1.2.1 d.2.2.1 d.2.2.2
theorem cellin_reader_headu1_ok (k : Nat) : UOK P GL (mkU cellin_reader_headu1_p cellin_reader_headu1_x (cellin_reader_headu1_t k k) nilU) cellin_reader_headu1_d true cellin_reader_headu1_b :=
  loop_typed (ud := cellin_reader_headu1_d) (body := cellin_reader_headu1_b) (uorc := uorT (cellin_reader_head_U1 k)) hmo (T23_ok k).oo (cellin_reader_head_U1_ok k) (AllU.seq (AllU.no (by kernel_rfl)) (AllU.block (AllU.seq (AllU.seq (AllU.unit (uorc := uorT (cellin_reader_head_U1 k)) (u := 0) (cellin_reader_headu0_ok k)) (AllU.no (by kernel_rfl))) (AllU.no (by kernel_rfl))))) (t := cellin_reader_headu1_t k) (fun d => by kernel_rfl) (fun n d => by kernel_rfl) k
noncomputable def cellin_reader_head_U2 (k : Nat) : List (Nat × Ent) := (1, ⟨mkU cellin_reader_headu1_p cellin_reader_headu1_x (cellin_reader_headu1_t k k) nilU⟩) :: cellin_reader_head_U1 k
theorem cellin_reader_head_U2_ok (k : Nat) : UTab (cellin_reader_head_U2 k) := (cellin_reader_head_U1_ok k).cons (mkU_nat nilU_nat)
noncomputable def cellin_reader_head (k : Nat) (x0 : Bool) (x1 : Int) (x2 : DReader) (x3 : DCell) : Option (((Int) × ((Bool) × (Unit))) × (((Unit) × ((Int) × (Unit))) × ((DReader) × (DCell)))) :=
  Option.bind (cellin_reader_headu1 k k x0 x1 x2 x3) fun r =>
  Sum.elim (fun (v79 : ((Int) × (Bool)) × (((Unit) × ((Int) × (Unit))) × ((DReader) × (DCell)))) =>
    some ((v79.1.1, (v79.1.2, ())), (((), (v79.2.1.2.1, ())), (v79.2.2.1, v79.2.2.2))))
    (fun (v80 : (Unit) × (((Unit) × ((Int) × (Unit))) × ((DReader) × (DCell)))) =>
    some ((0, (false, ())), (((), (v80.2.1.2.1, ())), (v80.2.2.1, v80.2.2.2)))) r
noncomputable def cellin_reader_head_b : AC :=
  (.seq (.region [⟨some 6, none, (.op (.mv (.c (.tv (.int .i64) (0 : Int))))), []⟩,
    ⟨some 7, none, (.op (.mv (.c (.tv .bool (false : Bool))))), []⟩])
  (.seq (.block 0 (.unit 1 cellin_reader_headu1_d true cellin_reader_headu1_b))
  (.seq (.region [⟨some 6, none, (.op (.mv (.c (.tv (.int .i64) (0 : Int))))), []⟩,
    ⟨some 7, none, (.op (.mv (.c (.tv .bool (false : Bool))))), []⟩])
  .ret)))
noncomputable def cellin_reader_head_f : FDef := ⟨3, 68, [.tmp 6 none, .tmp 7 none], cellin_reader_head_b⟩
noncomputable def cellin_reader_head_p : XPat := ⟨.normal, [(.ptr 0 []), (.tv .bool), (.ptr 2 [])], [(.box (.cons (.ptr 1 []) (.cons (.tv (.int .i64)) .nil))), (.box (.tv YReader)), (.box (.tv YCell))]⟩
noncomputable def cellin_reader_head_x : List XPat := [⟨.ret, [(.tup (.cons (.tv (.int .i64)) (.cons (.tv .bool) .nil)))], [(.box (.cons (.ptr 1 []) (.cons (.tv (.int .i64)) .nil))), (.box (.tv YReader)), (.box (.tv YCell))]⟩]
noncomputable def cellin_reader_head_t (k : Nat) (d : cellin_reader_head_p.D) : Option (XD cellin_reader_head_x) := cellin_reader_head k d.1.2.1 d.2.1.2.1 d.2.2.1 d.2.2.2
noncomputable def cellin_reader_head_e (k : Nat) : UEntry := mkU cellin_reader_head_p cellin_reader_head_x (cellin_reader_head_t k) nilU
theorem cellin_reader_head_n (k : Nat) : UNat (cellin_reader_head_e k) := mkU_nat nilU_nat
theorem cellin_reader_head_m : mfn P cellin_reader_head_f Tryd.f24 = true := by kernel_rfl
theorem cellin_reader_head_fu (k : Nat) : FU P GL 24 (cellin_reader_head_e k) :=
  fn_typed (uorc := uorT (cellin_reader_head_U2 k)) hmo (T23_ok k).oo (cellin_reader_head_U2_ok k) (fd := cellin_reader_head_f) (AllU.seq (AllU.no (by kernel_rfl)) (AllU.seq (AllU.block (AllU.unit (uorc := uorT (cellin_reader_head_U2 k)) (u := 1) (cellin_reader_headu1_ok k))) (AllU.no (by kernel_rfl)))) (fn := Tryd.f24) (by kernel_rfl) cellin_reader_head_m (fun d => by kernel_rfl) FU_nil
noncomputable def T24 (k : Nat) : List (Nat × Ent) := (24, ⟨cellin_reader_head_e k⟩) :: T23 k
theorem T24_ok (k : Nat) : TabOK P GL (T24 k) := (T23_ok k).cons (cellin_reader_head_fu k) (cellin_reader_head_n k)
/-! ### overspill.cellin.intra -/
noncomputable def cellin_intra_U0 (_ : Nat) : List (Nat × Ent) := []
theorem cellin_intra_U0_ok (k : Nat) : UTab (cellin_intra_U0 k) := UTab.nil
noncomputable def cellin_intra (k : Nat) (x0 : Int) : Option (Bool) :=
  bif (decide (x0 = 3)) then
    some true
  else
  some (decide (x0 = 4))
noncomputable def cellin_intra_b : AC :=
  (.seq (.region [⟨some 2, none, (.op (.mv (.c (.tv .bool (false : Bool))))), []⟩])
  (.seq (.region [⟨some 3, none, (.op (.mv (.t 0))), []⟩,
    ⟨some 4, none, (.op (.bin .eql (.t 3) (.c (.tv (.int .i64) (3 : Int))))), []⟩,
    ⟨some 5, none, (.op (.mv (.t 4))), []⟩,
    ⟨some 6, some (2, 5, false), (.op (.mv (.t 0))), []⟩,
    ⟨some 7, some (2, 5, false), (.op (.bin .eql (.t 6) (.c (.tv (.int .i64) (4 : Int))))), []⟩,
    ⟨some 8, none, (.op (.pick (.t 5) (.c (.tv .bool (true : Bool))) (.t 7))), []⟩,
    ⟨some 2, none, (.op (.mv (.t 8))), []⟩])
  .ret))
noncomputable def cellin_intra_f : FDef := ⟨1, 9, [.tmp 2 none], cellin_intra_b⟩
noncomputable def cellin_intra_p : XPat := ⟨.normal, [(.tv (.int .i64))], []⟩
noncomputable def cellin_intra_x : List XPat := [⟨.ret, [(.tv .bool)], []⟩]
noncomputable def cellin_intra_t (k : Nat) (d : cellin_intra_p.D) : Option (XD cellin_intra_x) := cellin_intra k d
noncomputable def cellin_intra_e (k : Nat) : UEntry := mkU cellin_intra_p cellin_intra_x (cellin_intra_t k) nilU
theorem cellin_intra_n (k : Nat) : UNat (cellin_intra_e k) := mkU_nat nilU_nat
theorem cellin_intra_m : mfn P cellin_intra_f Tryd.f53 = true := by kernel_rfl
theorem cellin_intra_fu (k : Nat) : FU P GL 53 (cellin_intra_e k) :=
  fn_typed (uorc := uorT (cellin_intra_U0 k)) hmo (T24_ok k).oo (cellin_intra_U0_ok k) (fd := cellin_intra_f) (AllU.no (by kernel_rfl)) (fn := Tryd.f53) (by kernel_rfl) cellin_intra_m (fun d => by kernel_rfl) FU_nil
noncomputable def T25 (k : Nat) : List (Nat × Ent) := (53, ⟨cellin_intra_e k⟩) :: T24 k
theorem T25_ok (k : Nat) : TabOK P GL (T25 k) := (T24_ok k).cons (cellin_intra_fu k) (cellin_intra_n k)
/-! ### overspill.cbpy.rows -/
noncomputable def cbpy_rows_U0 (_ : Nat) : List (Nat × Ent) := []
theorem cbpy_rows_U0_ok (k : Nat) : UTab (cbpy_rows_U0 k) := UTab.nil
noncomputable def cbpy_rows (k : Nat) : Option (List (List UInt8)) :=
  some (List.set (List.set (List.set (List.set (List.set (List.set (List.set (List.set (List.set (List.set (List.set (List.set (List.set (List.set (List.set (List.set (Ty.zero (.arr 16 .str)) 0 ([48, 48, 49, 49] : List UInt8)) 1 ([48, 48, 49, 48, 49] : List UInt8)) 2 ([48, 48, 49, 48, 48] : List UInt8)) 3 ([49, 48, 48, 49] : List UInt8)) 4 ([48, 48, 48, 49, 49] : List UInt8)) 5 ([48, 49, 49, 49] : List UInt8)) 6 ([48, 48, 48, 48, 49, 48] : List UInt8)) 7 ([49, 48, 49, 49] : List UInt8)) 8 ([48, 48, 48, 49, 48] : List UInt8)) 9 ([48, 48, 48, 48, 49, 49] : List UInt8)) 10 ([48, 49, 48, 49] : List UInt8)) 11 ([49, 48, 49, 48] : List UInt8)) 12 ([48, 49, 48, 48] : List UInt8)) 13 ([49, 48, 48, 48] : List UInt8)) 14 ([48, 49, 49, 48] : List UInt8)) 15 ([49, 49] : List UInt8))
noncomputable def cbpy_rows_b : AC :=
  (.seq (.region [⟨some 0, none, (.op (.alloc 108 (.tv (.arr 16 .str)))), []⟩])
  (.seq (.region [⟨some 1, none, (.op (.build 108 (.tv (.arr 16 .str)) [(0, (.idx 0 16 1), 1, (.c (.tv .str (([48, 48, 49, 49] : List UInt8) : List UInt8)))), (1, (.idx 1 16 1), 1, (.c (.tv .str (([48, 48, 49, 48, 49] : List UInt8) : List UInt8)))), (2, (.idx 2 16 1), 1, (.c (.tv .str (([48, 48, 49, 48, 48] : List UInt8) : List UInt8)))), (3, (.idx 3 16 1), 1, (.c (.tv .str (([49, 48, 48, 49] : List UInt8) : List UInt8)))), (4, (.idx 4 16 1), 1, (.c (.tv .str (([48, 48, 48, 49, 49] : List UInt8) : List UInt8)))), (5, (.idx 5 16 1), 1, (.c (.tv .str (([48, 49, 49, 49] : List UInt8) : List UInt8)))), (6, (.idx 6 16 1), 1, (.c (.tv .str (([48, 48, 48, 48, 49, 48] : List UInt8) : List UInt8)))), (7, (.idx 7 16 1), 1, (.c (.tv .str (([49, 48, 49, 49] : List UInt8) : List UInt8)))), (8, (.idx 8 16 1), 1, (.c (.tv .str (([48, 48, 48, 49, 48] : List UInt8) : List UInt8)))), (9, (.idx 9 16 1), 1, (.c (.tv .str (([48, 48, 48, 48, 49, 49] : List UInt8) : List UInt8)))), (10, (.idx 10 16 1), 1, (.c (.tv .str (([48, 49, 48, 49] : List UInt8) : List UInt8)))), (11, (.idx 11 16 1), 1, (.c (.tv .str (([49, 48, 49, 48] : List UInt8) : List UInt8)))), (12, (.idx 12 16 1), 1, (.c (.tv .str (([48, 49, 48, 48] : List UInt8) : List UInt8)))), (13, (.idx 13 16 1), 1, (.c (.tv .str (([49, 48, 48, 48] : List UInt8) : List UInt8)))), (14, (.idx 14 16 1), 1, (.c (.tv .str (([48, 49, 49, 48] : List UInt8) : List UInt8)))), (15, (.idx 15 16 1), 1, (.c (.tv .str (([49, 49] : List UInt8) : List UInt8))))])), []⟩,
    ⟨none, none, (.op (.store 16 none (.t 0) (.t 1))), []⟩])
  .ret))
noncomputable def cbpy_rows_f : FDef := ⟨0, 2, [.cell 0 16 true (some (.arr 16 .str))], cbpy_rows_b⟩
noncomputable def cbpy_rows_p : XPat := ⟨.normal, [], []⟩
noncomputable def cbpy_rows_x : List XPat := [⟨.ret, [(.tv (.arr 16 .str))], []⟩]
noncomputable def cbpy_rows_t (k : Nat) (d : cbpy_rows_p.D) : Option (XD cbpy_rows_x) := cbpy_rows k
noncomputable def cbpy_rows_e (k : Nat) : UEntry := mkU cbpy_rows_p cbpy_rows_x (cbpy_rows_t k) nilU
theorem cbpy_rows_n (k : Nat) : UNat (cbpy_rows_e k) := mkU_nat nilU_nat
theorem cbpy_rows_m : mfn P cbpy_rows_f Tryd.f65 = true := by kernel_rfl
theorem cbpy_rows_fu (k : Nat) : FU P GL 65 (cbpy_rows_e k) :=
  fn_typed (uorc := uorT (cbpy_rows_U0 k)) hmo (T25_ok k).oo (cbpy_rows_U0_ok k) (fd := cbpy_rows_f) (AllU.no (by kernel_rfl)) (fn := Tryd.f65) (by kernel_rfl) cbpy_rows_m (fun d => by kernel_rfl) FU_nil
noncomputable def T26 (k : Nat) : List (Nat × Ent) := (65, ⟨cbpy_rows_e k⟩) :: T25 k
theorem T26_ok (k : Nat) : TabOK P GL (T26 k) := (T25_ok k).cons (cbpy_rows_fu k) (cbpy_rows_n k)
/-! ### overspill.cbpy.turned -/
noncomputable def cbpy_turned_U0 (_ : Nat) : List (Nat × Ent) := []
theorem cbpy_turned_U0_ok (k : Nat) : UTab (cbpy_turned_U0 k) := UTab.nil
noncomputable def cbpy_turned (k : Nat) (x0 : Bool) (x1 : Int) : Option (Int) :=
  bif x0 then
    some x1
  else
  some (wr .i64 (15 - x1))
noncomputable def cbpy_turned_b : AC :=
  (.seq (.region [⟨some 4, none, (.op (.mv (.c (.tv (.int .i64) (0 : Int))))), []⟩])
  (.seq (.seq (.region [⟨some 5, none, (.op (.mv (.t 0))), []⟩])
  (.cond (.t 5)
  (.seq (.region [⟨some 6, none, (.op (.mv (.t 1))), []⟩,
      ⟨some 4, none, (.op (.mv (.t 6))), []⟩])
    .ret)
  .skip))
  (.seq (.region [⟨some 7, none, (.op (.mv (.t 1))), []⟩,
    ⟨some 8, none, (.op (.bin .sub (.c (.tv (.int .i64) (15 : Int))) (.t 7))), []⟩,
    ⟨some 4, none, (.op (.mv (.t 8))), []⟩])
  .ret)))
noncomputable def cbpy_turned_f : FDef := ⟨2, 9, [.tmp 4 none], cbpy_turned_b⟩
noncomputable def cbpy_turned_p : XPat := ⟨.normal, [(.tv .bool), (.tv (.int .i64))], []⟩
noncomputable def cbpy_turned_x : List XPat := [⟨.ret, [(.tv (.int .i64))], []⟩]
noncomputable def cbpy_turned_t (k : Nat) (d : cbpy_turned_p.D) : Option (XD cbpy_turned_x) := cbpy_turned k d.1 d.2
noncomputable def cbpy_turned_e (k : Nat) : UEntry := mkU cbpy_turned_p cbpy_turned_x (cbpy_turned_t k) nilU
theorem cbpy_turned_n (k : Nat) : UNat (cbpy_turned_e k) := mkU_nat nilU_nat
theorem cbpy_turned_m : mfn P cbpy_turned_f Tryd.f66 = true := by kernel_rfl
theorem cbpy_turned_fu (k : Nat) : FU P GL 66 (cbpy_turned_e k) :=
  fn_typed (uorc := uorT (cbpy_turned_U0 k)) hmo (T26_ok k).oo (cbpy_turned_U0_ok k) (fd := cbpy_turned_f) (AllU.no (by kernel_rfl)) (fn := Tryd.f66) (by kernel_rfl) cbpy_turned_m (fun d => by kernel_rfl) FU_nil
noncomputable def T27 (k : Nat) : List (Nat × Ent) := (66, ⟨cbpy_turned_e k⟩) :: T26 k
theorem T27_ok (k : Nat) : TabOK P GL (T27 k) := (T26_ok k).cons (cbpy_turned_fu k) (cbpy_turned_n k)
/-! ### overspill.cbpy.Take -/
noncomputable def cbpy_Take_U0 (_ : Nat) : List (Nat × Ent) := []
theorem cbpy_Take_U0_ok (k : Nat) : UTab (cbpy_Take_U0 k) := UTab.nil
noncomputable def cbpy_Takeu0_d : UDef := ⟨[(1, none), (6, none), (12, none), (13, none)], [6, 7, 8, 13, 14, 15, 16, 17, 18, 19, 20, 21, 22, 23, 24, 25], [((.exit 0), [(6, none)])], []⟩
noncomputable def cbpy_Takeu0_p : XPat := ⟨.normal, [(.tv .bool), (.row 0), (.tv (.arr 16 .str)), (.tv (.int .i64))], [(.row YReader false)]⟩
noncomputable def cbpy_Takeu0_x : List XPat := [⟨(.exit 0), [(.row 0)], [(.row YReader false)]⟩]
noncomputable def cbpy_Takeu0 (k : Nat) : Nat → (Bool) → (List (List UInt8)) → (Int) → (List (DReader)) → Option ((Unit) × (List (DReader)))
  | 0, _, _, _, _ => none
  | n + 1, x0, x1, x2, x3 =>
    bif (decide (x2 < 16)) then
      bif (inR x2 16) then
        Option.bind (cbpy_turned k x0 x2) fun (v85 : Int) =>
        bif (decide ((List.length x3) + 1 ≤ rowMax)) then
          Option.bind (cbpy_Takeu0 k n x0 x1 (wr .i64 (x2 + 1)) (x3 ++ ([((List.getD x1 (Int.toNat x2) ([] : List UInt8)), (v85, ()))] : List (DReader)))) fun r => some r
        else
          none
      else
        none
    else
    some ((), x3)
noncomputable def cbpy_Takeu0_b : AC :=
  (.seq (.region [⟨some 14, none, (.op (.bin .lss (.t 13) (.c (.tv (.int .i64) (16 : Int))))), []⟩])
  (.seq (.cond (.t 14)
  .skip
  (.exit 0))
  (.seq (.block 1 (.seq (.region [⟨some 15, none, (.op (.mv (.t 13))), []⟩,
    ⟨some 16, none, (.op (.ix 16 1 false (.t 12) (.t 13))), []⟩,
    ⟨some 7, none, (.op (.mv (.t 15))), []⟩,
    ⟨some 8, none, (.op (.mv (.t 16))), []⟩])
  (.region [⟨some 17, none, (.op (.mv (.t 6))), []⟩,
    ⟨some 18, none, (.op (.mv (.t 8))), []⟩,
    ⟨some 19, none, (.op (.mv (.t 1))), []⟩,
    ⟨some 20, none, (.op (.mv (.t 7))), []⟩,
    ⟨some 21, none, (.call (.c (.fn 66 .nil .nil)) [((.t 19), none), ((.t 20), none)]), []⟩,
    ⟨some 22, none, (.op (.build 122 (.tv YReader) [(0, (.fld 0 0), 1, (.t 18)), (1, (.fld 1 1), 1, (.t 21))])), []⟩,
    ⟨some 23, none, (.op (.bslice YReader [(.t 22)])), []⟩,
    ⟨some 24, none, (.op (.app YReader (.t 17) (.t 23))), []⟩,
    ⟨some 6, none, (.op (.mv (.t 24))), []⟩])))
  (.region [⟨some 25, none, (.op (.bin .add (.t 13) (.c (.tv (.int .i64) (1 : Int))))), []⟩,
    ⟨some 13, none, (.op (.mv (.t 25))), []⟩]))))
noncomputable def cbpy_Takeu0_t (k n : Nat) (d : cbpy_Takeu0_p.D) : Option (XD cbpy_Takeu0_x) := cbpy_Takeu0 k n d.1.1 d.1.2.2.1 d.1.2.2.2 d.2
theorem cbpy_Takeu0_ok (k : Nat) : UOK P GL (mkU cbpy_Takeu0_p cbpy_Takeu0_x (cbpy_Takeu0_t k k) nilU) cbpy_Takeu0_d true cbpy_Takeu0_b :=
  loop_typed (ud := cbpy_Takeu0_d) (body := cbpy_Takeu0_b) (uorc := uorT (cbpy_Take_U0 k)) hmo (T27_ok k).oo (cbpy_Take_U0_ok k) (AllU.no (by kernel_rfl)) (t := cbpy_Takeu0_t k) (fun d => by kernel_rfl) (fun n d => by kernel_rfl) k
noncomputable def cbpy_Take_U1 (k : Nat) : List (Nat × Ent) := (0, ⟨mkU cbpy_Takeu0_p cbpy_Takeu0_x (cbpy_Takeu0_t k k) nilU⟩) :: cbpy_Take_U0 k
theorem cbpy_Take_U1_ok (k : Nat) : UTab (cbpy_Take_U1 k) := (cbpy_Take_U0_ok k).cons (mkU_nat nilU_nat)
noncomputable def cbpy_Take (k : Nat) (x0 : Bool) (x1 : DReader) : Option (((Int) × ((Int) × (Unit))) × (DReader)) :=
  Option.bind (cbpy_rows k) fun (v83 : List (List UInt8)) =>
  Option.bind (cbpy_Takeu0 k k x0 v83 0 ([] : List (DReader))) fun (v86 : (Unit) × (List (DReader))) =>
  Option.bind (prefix_Make_int k v86.2) fun r =>
  Sum.elim (fun (v87 : (Unit) × ((Int) × (Unit))) =>
    Option.bind (prefix_Table_Take_int k x1) fun (v88 : ((Int) × ((Int) × (Unit))) × (DReader)) =>
    some ((v88.1.1, (v88.1.2.1, ())), v88.2))
    (fun (v89 : ((Unit) × ((Int) × (Unit))) × (((Unit) × ((Unit) × ((Unit) × ((Unit) × ((Int) × (Unit)))))) × ((List ((List UInt8) × Int)) × ((List ((Int) × Int)) × ((List ((List UInt8) × Int)) × (List (DReader))))))) =>
    Option.bind (prefix_Table_Take_int_2 k v89.2.1.2.2.2.2.1 v89.2.2.1 v89.2.2.2.1 v89.2.2.2.2.1 x1 v89.2.2.2.2.2) fun (v90 : ((Int) × ((Int) × (Unit))) × (((Unit) × ((Unit) × ((Unit) × ((Unit) × ((Int) × (Unit)))))) × ((List ((List UInt8) × Int)) × ((List ((Int) × Int)) × ((List ((List UInt8) × Int)) × ((DReader) × (List (DReader)))))))) =>
    some ((v90.1.1, (v90.1.2.1, ())), v90.2.2.2.2.2.1)) r
noncomputable def cbpy_Take_b : AC :=
  (.seq (.region [⟨some 4, none, (.op (.mv (.c (.tv (.int .i64) (0 : Int))))), []⟩,
    ⟨some 5, none, (.op (.mv (.c (.tv (.int .i64) (0 : Int))))), []⟩])
  (.seq (.region [⟨some 11, none, (.op (.mkslice YReader (.c (.tv (.int .i64) (0 : Int))) (.c (.tv (.int .i64) (16 : Int))))), []⟩,
    ⟨some 6, none, (.op (.mv (.t 11))), []⟩])
  (.seq (.seq (.region [⟨some 12, none, (.call (.c (.fn 65 .nil .nil)) []), []⟩,
    ⟨some 13, none, (.op (.mv (.c (.tv (.int .i64) (0 : Int))))), []⟩])
  (.block 0 (.unit 0 cbpy_Takeu0_d true cbpy_Takeu0_b)))
  (.seq (.region [⟨some 27, none, (.op (.mv (.t 6))), []⟩,
    ⟨some 28, none, (.call (.c (.fn 75 .nil .nil)) [((.t 27), some (.sl YReader))]), []⟩,
    ⟨some 26, none, (.op (.mv (.t 28))), []⟩,
    ⟨some 29, none, (.op (.ext (.t 26) 0)), []⟩,
    ⟨some 30, none, (.op (.ext (.t 26) 1)), []⟩,
    ⟨some 9, none, (.op (.mv (.t 29))), []⟩,
    ⟨some 10, none, (.op (.mv (.t 30))), []⟩])
  (.seq (.region [⟨some 31, none, (.op (.mv (.t 9))), []⟩,
    ⟨some 32, none, (.op (.mv (.t 0))), []⟩,
    ⟨some 33, none, (.call (.c (.fn 74 .nil .nil)) [((.t 31), none), ((.t 32), none)]), []⟩,
    ⟨some 34, none, (.op (.ext (.t 33) 0)), []⟩,
    ⟨some 35, none, (.op (.ext (.t 33) 1)), []⟩,
    ⟨some 4, none, (.op (.mv (.t 34))), []⟩,
    ⟨some 5, none, (.op (.mv (.t 35))), []⟩])
  .ret)))))
noncomputable def cbpy_Take_f : FDef := ⟨2, 36, [.tmp 4 none, .tmp 5 none], cbpy_Take_b⟩
noncomputable def cbpy_Take_p : XPat := ⟨.normal, [(.ptr 0 []), (.tv .bool)], [(.box (.tv YReader))]⟩
noncomputable def cbpy_Take_x : List XPat := [⟨.ret, [(.tup (.cons (.tv (.int .i64)) (.cons (.tv (.int .i64)) .nil)))], [(.box (.tv YReader))]⟩]
noncomputable def cbpy_Take_t (k : Nat) (d : cbpy_Take_p.D) : Option (XD cbpy_Take_x) := cbpy_Take k d.1.2 d.2
noncomputable def cbpy_Take_e (k : Nat) : UEntry := mkU cbpy_Take_p cbpy_Take_x (cbpy_Take_t k) nilU
theorem cbpy_Take_n (k : Nat) : UNat (cbpy_Take_e k) := mkU_nat nilU_nat
theorem cbpy_Take_m : mfn P cbpy_Take_f Tryd.f52 = true := by kernel_rfl
theorem cbpy_Take_fu (k : Nat) : FU P GL 52 (cbpy_Take_e k) :=
  fn_typed (uorc := uorT (cbpy_Take_U1 k)) hmo (T27_ok k).oo (cbpy_Take_U1_ok k) (fd := cbpy_Take_f) (AllU.seq (AllU.no (by kernel_rfl)) (AllU.seq (AllU.no (by kernel_rfl)) (AllU.seq (AllU.seq (AllU.no (by kernel_rfl)) (AllU.block (AllU.unit (uorc := uorT (cbpy_Take_U1 k)) (u := 0) (cbpy_Takeu0_ok k)))) (AllU.no (by kernel_rfl))))) (fn := Tryd.f52) (by kernel_rfl) cbpy_Take_m (fun d => by kernel_rfl) FU_nil
noncomputable def T28 (k : Nat) : List (Nat × Ent) := (52, ⟨cbpy_Take_e k⟩) :: T27 k
theorem T28_ok (k : Nat) : TabOK P GL (T28 k) := (T27_ok k).cons (cbpy_Take_fu k) (cbpy_Take_n k)
/-! ### overspill.steps.Take -/
noncomputable def steps_Take_U0 (_ : Nat) : List (Nat × Ent) := []
theorem steps_Take_U0_ok (k : Nat) : UTab (steps_Take_U0 k) := UTab.nil
noncomputable def steps_Take (k : Nat) (x0 : DReader) : Option (((Int) × ((Int) × (Unit))) × (DReader)) :=
  Option.bind (inbits_Reader_Take k 2 x0) fun (v93 : ((Int) × ((Int) × (Unit))) × (DReader)) =>
  bif (!(decide (v93.1.2.1 = 0))) then
    some ((0, (v93.1.2.1, ())), v93.2)
  else
  bif (decide ((2 : Int) ≤ v93.1.1)) then
    some (((wr .i64 (v93.1.1 - 1)), (0, ())), v93.2)
  else
  some (((wr .i64 ((-1) - v93.1.1)), (0, ())), v93.2)
noncomputable def steps_Take_b : AC :=
  (.seq (.region [⟨some 2, none, (.op (.mv (.c (.tv (.int .i64) (0 : Int))))), []⟩,
    ⟨some 3, none, (.op (.mv (.c (.tv (.int .i64) (0 : Int))))), []⟩])
  (.seq (.region [⟨some 7, none, (.op (.mv (.t 0))), []⟩,
    ⟨some 8, none, (.call (.c (.fn 72 .nil .nil)) [((.t 7), none), ((.c (.tv (.int .i64) (2 : Int))), none)]), []⟩,
    ⟨some 6, none, (.op (.mv (.t 8))), []⟩,
    ⟨some 9, none, (.op (.ext (.t 6) 0)), []⟩,
    ⟨some 10, none, (.op (.ext (.t 6) 1)), []⟩,
    ⟨some 4, none, (.op (.mv (.t 9))), []⟩,
    ⟨some 5, none, (.op (.mv (.t 10))), []⟩])
  (.seq (.block 0 (.seq (.region [⟨some 12, none, (.op (.mv (.t 5))), []⟩,
    ⟨some 13, none, (.op (.bin .neq (.t 12) (.c (.tv (.int .i64) (0 : Int))))), []⟩,
    ⟨some 11, none, (.op (.mv (.t 13))), []⟩])
  (.cond (.t 11)
  (.seq (.region [⟨some 14, none, (.op (.mv (.t 5))), []⟩,
      ⟨some 2, none, (.op (.mv (.c (.tv (.int .i64) (0 : Int))))), []⟩,
      ⟨some 3, none, (.op (.mv (.t 14))), []⟩])
    .ret)
  (.seq (.region [⟨some 16, none, (.op (.mv (.t 4))), []⟩,
      ⟨some 17, none, (.op (.bin .geq (.t 16) (.c (.tv (.int .i64) (2 : Int))))), []⟩,
      ⟨some 15, none, (.op (.mv (.t 17))), []⟩])
    (.cond (.t 15)
    (.seq (.region [⟨some 18, none, (.op (.mv (.t 4))), []⟩,
        ⟨some 19, none, (.op (.bin .sub (.t 18) (.c (.tv (.int .i64) (1 : Int))))), []⟩,
        ⟨some 2, none, (.op (.mv (.t 19))), []⟩,
        ⟨some 3, none, (.op (.mv (.c (.tv (.int .i64) (0 : Int))))), []⟩])
      .ret)
    .skip)))))
  (.seq (.region [⟨some 20, none, (.op (.mv (.t 4))), []⟩,
    ⟨some 21, none, (.op (.bin .sub (.c (.tv (.int .i64) ((-1) : Int))) (.t 20))), []⟩,
    ⟨some 2, none, (.op (.mv (.t 21))), []⟩,
    ⟨some 3, none, (.op (.mv (.c (.tv (.int .i64) (0 : Int))))), []⟩])
  .ret))))
noncomputable def steps_Take_f : FDef := ⟨1, 22, [.tmp 2 none, .tmp 3 none], steps_Take_b⟩
noncomputable def steps_Take_p : XPat := ⟨.normal, [(.ptr 0 [])], [(.box (.tv YReader))]⟩
noncomputable def steps_Take_x : List XPat := [⟨.ret, [(.tup (.cons (.tv (.int .i64)) (.cons (.tv (.int .i64)) .nil)))], [(.box (.tv YReader))]⟩]
noncomputable def steps_Take_t (k : Nat) (d : steps_Take_p.D) : Option (XD steps_Take_x) := steps_Take k d.2
noncomputable def steps_Take_e (k : Nat) : UEntry := mkU steps_Take_p steps_Take_x (steps_Take_t k) nilU
theorem steps_Take_n (k : Nat) : UNat (steps_Take_e k) := mkU_nat nilU_nat
theorem steps_Take_m : mfn P steps_Take_f Tryd.f54 = true := by kernel_rfl
theorem steps_Take_fu (k : Nat) : FU P GL 54 (steps_Take_e k) :=
  fn_typed (uorc := uorT (steps_Take_U0 k)) hmo (T28_ok k).oo (steps_Take_U0_ok k) (fd := steps_Take_f) (AllU.no (by kernel_rfl)) (fn := Tryd.f54) (by kernel_rfl) steps_Take_m (fun d => by kernel_rfl) FU_nil
noncomputable def T29 (k : Nat) : List (Nat × Ent) := (54, ⟨steps_Take_e k⟩) :: T28 k
theorem T29_ok (k : Nat) : TabOK P GL (T29 k) := (T28_ok k).cons (steps_Take_fu k) (steps_Take_n k)
/-! ### overspill.mvd.length -/
noncomputable def mvd_length_U0 (_ : Nat) : List (Nat × Ent) := []
theorem mvd_length_U0_ok (k : Nat) : UTab (mvd_length_U0 k) := UTab.nil
noncomputable def mvd_length (k : Nat) (x0 : Int) : Option (Int) :=
  bif (decide (x0 < 4)) then
    some (wr .i64 (x0 + 1))
  else
  bif (decide (x0 = 4)) then
    some 6
  else
  bif (decide (x0 < 8)) then
    some 7
  else
  bif (decide (x0 < 11)) then
    some 9
  else
  bif (decide (x0 < 25)) then
    some 10
  else
  bif (decide (x0 < 31)) then
    some 11
  else
  some 12
noncomputable def mvd_length_b : AC :=
  (.seq (.region [⟨some 2, none, (.op (.mv (.c (.tv (.int .i64) (0 : Int))))), []⟩])
  (.seq (.block 0 (.seq (.region [⟨some 4, none, (.op (.mv (.t 0))), []⟩,
    ⟨some 5, none, (.op (.bin .lss (.t 4) (.c (.tv (.int .i64) (4 : Int))))), []⟩,
    ⟨some 3, none, (.op (.mv (.t 5))), []⟩])
  (.cond (.t 3)
  (.seq (.region [⟨some 6, none, (.op (.mv (.t 0))), []⟩,
      ⟨some 7, none, (.op (.bin .add (.t 6) (.c (.tv (.int .i64) (1 : Int))))), []⟩,
      ⟨some 2, none, (.op (.mv (.t 7))), []⟩])
    .ret)
  (.seq (.region [⟨some 9, none, (.op (.mv (.t 0))), []⟩,
      ⟨some 10, none, (.op (.bin .eql (.t 9) (.c (.tv (.int .i64) (4 : Int))))), []⟩,
      ⟨some 8, none, (.op (.mv (.t 10))), []⟩])
    (.cond (.t 8)
    (.seq (.region [⟨some 2, none, (.op (.mv (.c (.tv (.int .i64) (6 : Int))))), []⟩])
      .ret)
    (.seq (.region [⟨some 12, none, (.op (.mv (.t 0))), []⟩,
        ⟨some 13, none, (.op (.bin .lss (.t 12) (.c (.tv (.int .i64) (8 : Int))))), []⟩,
        ⟨some 11, none, (.op (.mv (.t 13))), []⟩])
      (.cond (.t 11)
      (.seq (.region [⟨some 2, none, (.op (.mv (.c (.tv (.int .i64) (7 : Int))))), []⟩])
        .ret)
      (.seq (.region [⟨some 15, none, (.op (.mv (.t 0))), []⟩,
          ⟨some 16, none, (.op (.bin .lss (.t 15) (.c (.tv (.int .i64) (11 : Int))))), []⟩,
          ⟨some 14, none, (.op (.mv (.t 16))), []⟩])
        (.cond (.t 14)
        (.seq (.region [⟨some 2, none, (.op (.mv (.c (.tv (.int .i64) (9 : Int))))), []⟩])
          .ret)
        (.seq (.region [⟨some 18, none, (.op (.mv (.t 0))), []⟩,
            ⟨some 19, none, (.op (.bin .lss (.t 18) (.c (.tv (.int .i64) (25 : Int))))), []⟩,
            ⟨some 17, none, (.op (.mv (.t 19))), []⟩])
          (.cond (.t 17)
          (.seq (.region [⟨some 2, none, (.op (.mv (.c (.tv (.int .i64) (10 : Int))))), []⟩])
            .ret)
          (.seq (.region [⟨some 21, none, (.op (.mv (.t 0))), []⟩,
              ⟨some 22, none, (.op (.bin .lss (.t 21) (.c (.tv (.int .i64) (31 : Int))))), []⟩,
              ⟨some 20, none, (.op (.mv (.t 22))), []⟩])
            (.cond (.t 20)
            (.seq (.region [⟨some 2, none, (.op (.mv (.c (.tv (.int .i64) (11 : Int))))), []⟩])
              .ret)
            .skip)))))))))))))
  (.seq (.region [⟨some 2, none, (.op (.mv (.c (.tv (.int .i64) (12 : Int))))), []⟩])
  .ret)))
noncomputable def mvd_length_f : FDef := ⟨1, 23, [.tmp 2 none], mvd_length_b⟩
noncomputable def mvd_length_p : XPat := ⟨.normal, [(.tv (.int .i64))], []⟩
noncomputable def mvd_length_x : List XPat := [⟨.ret, [(.tv (.int .i64))], []⟩]
noncomputable def mvd_length_t (k : Nat) (d : mvd_length_p.D) : Option (XD mvd_length_x) := mvd_length k d
noncomputable def mvd_length_e (k : Nat) : UEntry := mkU mvd_length_p mvd_length_x (mvd_length_t k) nilU
theorem mvd_length_n (k : Nat) : UNat (mvd_length_e k) := mkU_nat nilU_nat
theorem mvd_length_m : mfn P mvd_length_f Tryd.f68 = true := by kernel_rfl
theorem mvd_length_fu (k : Nat) : FU P GL 68 (mvd_length_e k) :=
  fn_typed (uorc := uorT (mvd_length_U0 k)) hmo (T29_ok k).oo (mvd_length_U0_ok k) (fd := mvd_length_f) (AllU.no (by kernel_rfl)) (fn := Tryd.f68) (by kernel_rfl) mvd_length_m (fun d => by kernel_rfl) FU_nil
noncomputable def T30 (k : Nat) : List (Nat × Ent) := (68, ⟨mvd_length_e k⟩) :: T29 k
theorem T30_ok (k : Nat) : TabOK P GL (T30 k) := (T29_ok k).cons (mvd_length_fu k) (mvd_length_n k)
/-! ### overspill.mvd.found -/
noncomputable def mvd_found_U0 (_ : Nat) : List (Nat × Ent) := []
theorem mvd_found_U0_ok (k : Nat) : UTab (mvd_found_U0 k) := UTab.nil
noncomputable def mvd_foundu0_d : UDef := ⟨[(0, none), (1, none), (7, none), (8, none)], [14, 15, 16, 17, 18, 19, 20, 21, 22, 23, 24], [(.normal, [(14, none)])], []⟩
noncomputable def mvd_foundu0_p : XPat := ⟨.normal, [(.tv (.int .i64)), (.tv (.int .i64)), (.tv (.int .i64)), (.tv (.int .i64))], []⟩
noncomputable def mvd_foundu0_x : List XPat := [⟨.normal, [(.tv .bool)], []⟩]
noncomputable def mvd_foundu0 (k : Nat) (x0 : Int) (x1 : Int) (x2 : Int) (x3 : Int) : Option (Bool) :=
  bif (decide (x3 = x1)) then
    bif (inR x2 33) then
      some (decide ((List.getD tbl0 (Int.toNat x2) 0) = x0))
    else
      none
  else
  some false
noncomputable def mvd_foundu0_b : AC :=
  (.region [⟨some 15, none, (.op (.mv (.t 8))), []⟩,
    ⟨some 16, none, (.op (.mv (.t 1))), []⟩,
    ⟨some 17, none, (.op (.bin .eql (.t 15) (.t 16))), []⟩,
    ⟨some 18, none, (.op (.mv (.t 17))), []⟩,
    ⟨some 19, some (3, 18, true), (.op (.mv (.t 7))), []⟩,
    ⟨some 20, some (3, 18, true), (.op (.iad 33 1 (.g 0) (.t 19))), []⟩,
    ⟨some 21, some (3, 18, true), (.op (.load false 1 (.t 20))), []⟩,
    ⟨some 22, some (3, 18, true), (.op (.mv (.t 0))), []⟩,
    ⟨some 23, some (3, 18, true), (.op (.bin .eql (.t 21) (.t 22))), []⟩,
    ⟨some 24, none, (.op (.pick (.t 18) (.t 23) (.c (.tv .bool (false : Bool))))), []⟩,
    ⟨some 14, none, (.op (.mv (.t 24))), []⟩])
noncomputable def mvd_foundu0_t (k : Nat) (d : mvd_foundu0_p.D) : Option (XD mvd_foundu0_x) := mvd_foundu0 k d.1 d.2.1 d.2.2.1 d.2.2.2
theorem mvd_foundu0_ok (k : Nat) : UOK P GL (mkU mvd_foundu0_p mvd_foundu0_x (mvd_foundu0_t k) nilU) mvd_foundu0_d false mvd_foundu0_b :=
  unit_typed (ud := mvd_foundu0_d) (body := mvd_foundu0_b) (uorc := uorT (mvd_found_U0 k)) hmo (T30_ok k).oo (mvd_found_U0_ok k) (AllU.no (by kernel_rfl)) (fun d => by kernel_rfl)
noncomputable def mvd_found_U1 (k : Nat) : List (Nat × Ent) := (0, ⟨mkU mvd_foundu0_p mvd_foundu0_x (mvd_foundu0_t k) nilU⟩) :: mvd_found_U0 k
theorem mvd_found_U1_ok (k : Nat) : UTab (mvd_found_U1 k) := (mvd_found_U0_ok k).cons (mkU_nat nilU_nat)
noncomputable def mvd_foundu1_d : UDef := ⟨[(0, none), (1, none), (6, none), (9, none)], [4, 5, 6, 7, 8, 9, 10, 11, 12, 13, 14, 15, 16, 17, 18, 19, 20, 21, 22, 23, 24, 25, 26, 27, 28, 29, 30, 31, 32, 33, 34, 35, 36, 37, 38, 39, 40, 41, 42], [(.ret, [(4, none), (5, none), (6, none)]), ((.exit 0), [(6, none)])], []⟩
noncomputable def mvd_foundu1_p : XPat := ⟨.normal, [(.tv (.int .i64)), (.tv (.int .i64)), (.tv .bool), (.tv (.int .i64))], []⟩
noncomputable def mvd_foundu1_x : List XPat := [⟨.ret, [(.tv (.int .i64)), (.tv .bool), (.tv .bool)], []⟩, ⟨(.exit 0), [(.tv .bool)], []⟩]
noncomputable def mvd_foundu1 (k : Nat) : Nat → (Int) → (Int) → (Bool) → (Int) → Option (((Int) × ((Bool) × (Bool))) ⊕ (Bool))
  | 0, _, _, _, _ => none
  | n + 1, x0, x1, x2, x3 =>
    bif (decide (x3 < 33)) then
      Option.bind (mvd_length k x3) fun (v104 : Int) =>
      Option.bind (mvd_foundu0 k x0 x1 x3 v104) fun (v105 : Bool) =>
      bif v105 then
        some (Sum.inl (x3, (true, true)))
      else
      bif (decide (x1 < v104)) then
        bif (inR x3 33) then
          bif (decide ((wr .u64 (wr .i64 (v104 - x1))) < 0)) then
            none
          else
          bif (decide ((shrI .i64 (List.getD tbl0 (Int.toNat x3) 0) (wr .u64 (wr .i64 (v104 - x1)))) = x0)) then
            Option.bind (mvd_foundu1 k n x0 x1 true (wr .i64 (x3 + 1))) fun r => Sum.elim (fun w => some (Sum.inl w)) (fun w => some (Sum.inr w)) r
          else
          Option.bind (mvd_foundu1 k n x0 x1 x2 (wr .i64 (x3 + 1))) fun r => Sum.elim (fun w => some (Sum.inl w)) (fun w => some (Sum.inr w)) r
        else
          none
      else
      Option.bind (mvd_foundu1 k n x0 x1 x2 (wr .i64 (x3 + 1))) fun r => Sum.elim (fun w => some (Sum.inl w)) (fun w => some (Sum.inr w)) r
    else
    some (Sum.inr x2)
noncomputable def mvd_foundu1_b : AC :=
  (.seq (.region [⟨some 10, none, (.op (.bin .lss (.t 9) (.c (.tv (.int .i64) (33 : Int))))), []⟩])
  (.seq (.cond (.t 10)
  .skip
  (.exit 0))
  (.seq (.block 1 (.seq (.region [⟨some 11, none, (.op (.mv (.t 9))), []⟩,
    ⟨some 7, none, (.op (.mv (.t 11))), []⟩])
  (.seq (.region [⟨some 12, none, (.op (.mv (.t 7))), []⟩,
    ⟨some 13, none, (.call (.c (.fn 68 .nil .nil)) [((.t 12), none)]), []⟩,
    ⟨some 8, none, (.op (.mv (.t 13))), []⟩])
  (.block 2 (.seq (.unit 0 mvd_foundu0_d false mvd_foundu0_b)
  (.cond (.t 14)
  (.seq (.region [⟨some 25, none, (.op (.mv (.t 7))), []⟩,
      ⟨some 4, none, (.op (.mv (.t 25))), []⟩,
      ⟨some 5, none, (.op (.mv (.c (.tv .bool (true : Bool))))), []⟩,
      ⟨some 6, none, (.op (.mv (.c (.tv .bool (true : Bool))))), []⟩])
    .ret)
  (.seq (.region [⟨some 27, none, (.op (.mv (.t 8))), []⟩,
      ⟨some 28, none, (.op (.mv (.t 1))), []⟩,
      ⟨some 29, none, (.op (.bin .gtr (.t 27) (.t 28))), []⟩,
      ⟨some 30, none, (.op (.mv (.t 29))), []⟩,
      ⟨some 31, some (3, 30, true), (.op (.mv (.t 7))), []⟩,
      ⟨some 32, some (3, 30, true), (.op (.iad 33 1 (.g 0) (.t 31))), []⟩,
      ⟨some 33, some (3, 30, true), (.op (.load false 1 (.t 32))), []⟩,
      ⟨some 34, some (3, 30, true), (.op (.mv (.t 8))), []⟩,
      ⟨some 35, some (3, 30, true), (.op (.mv (.t 1))), []⟩,
      ⟨some 36, some (3, 30, true), (.op (.bin .sub (.t 34) (.t 35))), []⟩,
      ⟨some 37, some (3, 30, true), (.op (.conv .u64 (.t 36))), []⟩,
      ⟨some 38, some (3, 30, true), (.op (.bin .shr (.t 33) (.t 37))), []⟩,
      ⟨some 39, some (3, 30, true), (.op (.mv (.t 0))), []⟩,
      ⟨some 40, some (3, 30, true), (.op (.bin .eql (.t 38) (.t 39))), []⟩,
      ⟨some 41, none, (.op (.pick (.t 30) (.t 40) (.c (.tv .bool (false : Bool))))), []⟩,
      ⟨some 26, none, (.op (.mv (.t 41))), []⟩])
    (.cond (.t 26)
    (.region [⟨some 6, none, (.op (.mv (.c (.tv .bool (true : Bool))))), []⟩])
    .skip))))))))
  (.region [⟨some 42, none, (.op (.bin .add (.t 9) (.c (.tv (.int .i64) (1 : Int))))), []⟩,
    ⟨some 9, none, (.op (.mv (.t 42))), []⟩]))))
noncomputable def mvd_foundu1_t (k n : Nat) (d : mvd_foundu1_p.D) : Option (XD mvd_foundu1_x) := mvd_foundu1 k n d.1 d.2.1 d.2.2.1 d.2.2.2
theorem mvd_foundu1_ok (k : Nat) : UOK P GL (mkU mvd_foundu1_p mvd_foundu1_x (mvd_foundu1_t k k) nilU) mvd_foundu1_d true mvd_foundu1_b :=
  loop_typed (ud := mvd_foundu1_d) (body := mvd_foundu1_b) (uorc := uorT (mvd_found_U1 k)) hmo (T30_ok k).oo (mvd_found_U1_ok k) (AllU.seq (AllU.no (by kernel_rfl)) (AllU.seq (AllU.no (by kernel_rfl)) (AllU.seq (AllU.block (AllU.seq (AllU.no (by kernel_rfl)) (AllU.seq (AllU.no (by kernel_rfl)) (AllU.block (AllU.seq (AllU.unit (uorc := uorT (mvd_found_U1 k)) (u := 0) (mvd_foundu0_ok k)) (AllU.no (by kernel_rfl))))))) (AllU.no (by kernel_rfl))))) (t := mvd_foundu1_t k) (fun d => by kernel_rfl) (fun n d => by kernel_rfl) k
noncomputable def mvd_found_U2 (k : Nat) : List (Nat × Ent) := (1, ⟨mkU mvd_foundu1_p mvd_foundu1_x (mvd_foundu1_t k k) nilU⟩) :: mvd_found_U1 k
theorem mvd_found_U2_ok (k : Nat) : UTab (mvd_found_U2 k) := (mvd_found_U1_ok k).cons (mkU_nat nilU_nat)
noncomputable def mvd_found (k : Nat) (x0 : Int) (x1 : Int) : Option ((Int) × ((Bool) × ((Bool) × (Unit)))) :=
  Option.bind (mvd_foundu1 k k x0 x1 false 0) fun r =>
  Sum.elim (fun (v106 : (Int) × ((Bool) × (Bool))) =>
    some (v106.1, (v106.2.1, (v106.2.2, ()))))
    (fun (v107 : Bool) =>
    some (0, (false, (v107, ())))) r
noncomputable def mvd_found_b : AC :=
  (.seq (.region [⟨some 4, none, (.op (.mv (.c (.tv (.int .i64) (0 : Int))))), []⟩,
    ⟨some 5, none, (.op (.mv (.c (.tv .bool (false : Bool))))), []⟩,
    ⟨some 6, none, (.op (.mv (.c (.tv .bool (false : Bool))))), []⟩])
  (.seq (.seq (.region [⟨some 9, none, (.op (.mv (.c (.tv (.int .i64) (0 : Int))))), []⟩])
  (.block 0 (.unit 1 mvd_foundu1_d true mvd_foundu1_b)))
  (.seq (.region [⟨some 43, none, (.op (.mv (.t 6))), []⟩,
    ⟨some 4, none, (.op (.mv (.c (.tv (.int .i64) (0 : Int))))), []⟩,
    ⟨some 5, none, (.op (.mv (.c (.tv .bool (false : Bool))))), []⟩,
    ⟨some 6, none, (.op (.mv (.t 43))), []⟩])
  .ret)))
noncomputable def mvd_found_f : FDef := ⟨2, 44, [.tmp 4 none, .tmp 5 none, .tmp 6 none], mvd_found_b⟩
noncomputable def mvd_found_p : XPat := ⟨.normal, [(.tv (.int .i64)), (.tv (.int .i64))], []⟩
noncomputable def mvd_found_x : List XPat := [⟨.ret, [(.tup (.cons (.tv (.int .i64)) (.cons (.tv .bool) (.cons (.tv .bool) .nil))))], []⟩]
noncomputable def mvd_found_t (k : Nat) (d : mvd_found_p.D) : Option (XD mvd_found_x) := mvd_found k d.1 d.2
noncomputable def mvd_found_e (k : Nat) : UEntry := mkU mvd_found_p mvd_found_x (mvd_found_t k) nilU
theorem mvd_found_n (k : Nat) : UNat (mvd_found_e k) := mkU_nat nilU_nat
theorem mvd_found_m : mfn P mvd_found_f Tryd.f76 = true := by kernel_rfl
theorem mvd_found_fu (k : Nat) : FU P GL 76 (mvd_found_e k) :=
  fn_typed (uorc := uorT (mvd_found_U2 k)) hmo (T30_ok k).oo (mvd_found_U2_ok k) (fd := mvd_found_f) (AllU.seq (AllU.no (by kernel_rfl)) (AllU.seq (AllU.seq (AllU.no (by kernel_rfl)) (AllU.block (AllU.unit (uorc := uorT (mvd_found_U2 k)) (u := 1) (mvd_foundu1_ok k)))) (AllU.no (by kernel_rfl)))) (fn := Tryd.f76) (by kernel_rfl) mvd_found_m (fun d => by kernel_rfl) FU_nil
noncomputable def T31 (k : Nat) : List (Nat × Ent) := (76, ⟨mvd_found_e k⟩) :: T30 k
theorem T31_ok (k : Nat) : TabOK P GL (T31 k) := (T30_ok k).cons (mvd_found_fu k) (mvd_found_n k)
/-! ### overspill.mvd.signed -/
noncomputable def mvd_signed_U0 (_ : Nat) : List (Nat × Ent) := []
theorem mvd_signed_U0_ok (k : Nat) : UTab (mvd_signed_U0 k) := UTab.nil
noncomputable def mvd_signed (k : Nat) (x0 : Int) (x1 : DReader) : Option (((Int) × ((Int) × (Unit))) × (DReader)) :=
  bif (decide (x0 = 0)) then
    some ((0, (0, ())), x1)
  else
  Option.bind (inbits_Reader_Take k 1 x1) fun (v112 : ((Int) × ((Int) × (Unit))) × (DReader)) =>
  bif (!(decide (v112.1.2.1 = 0))) then
    some ((0, (v112.1.2.1, ())), v112.2)
  else
  bif (decide (v112.1.1 = 1)) then
    some (((wr .i64 (0 - x0)), (0, ())), v112.2)
  else
  bif (decide ((31 : Int) < x0)) then
    some ((0, (3, ())), v112.2)
  else
  some ((x0, (0, ())), v112.2)
noncomputable def mvd_signed_b : AC :=
  (.seq (.region [⟨some 4, none, (.op (.mv (.c (.tv (.int .i64) (0 : Int))))), []⟩,
    ⟨some 5, none, (.op (.mv (.c (.tv (.int .i64) (0 : Int))))), []⟩])
  (.seq (.seq (.region [⟨some 8, none, (.op (.mv (.t 1))), []⟩,
    ⟨some 9, none, (.op (.bin .eql (.t 8) (.c (.tv (.int .i64) (0 : Int))))), []⟩])
  (.cond (.t 9)
  (.seq (.region [⟨some 4, none, (.op (.mv (.c (.tv (.int .i64) (0 : Int))))), []⟩,
      ⟨some 5, none, (.op (.mv (.c (.tv (.int .i64) (0 : Int))))), []⟩])
    .ret)
  .skip))
  (.seq (.region [⟨some 11, none, (.op (.mv (.t 0))), []⟩,
    ⟨some 12, none, (.call (.c (.fn 72 .nil .nil)) [((.t 11), none), ((.c (.tv (.int .i64) (1 : Int))), none)]), []⟩,
    ⟨some 10, none, (.op (.mv (.t 12))), []⟩,
    ⟨some 13, none, (.op (.ext (.t 10) 0)), []⟩,
    ⟨some 14, none, (.op (.ext (.t 10) 1)), []⟩,
    ⟨some 6, none, (.op (.mv (.t 13))), []⟩,
    ⟨some 7, none, (.op (.mv (.t 14))), []⟩])
  (.seq (.block 0 (.seq (.region [⟨some 16, none, (.op (.mv (.t 7))), []⟩,
    ⟨some 17, none, (.op (.bin .neq (.t 16) (.c (.tv (.int .i64) (0 : Int))))), []⟩,
    ⟨some 15, none, (.op (.mv (.t 17))), []⟩])
  (.cond (.t 15)
  (.seq (.region [⟨some 18, none, (.op (.mv (.t 7))), []⟩,
      ⟨some 4, none, (.op (.mv (.c (.tv (.int .i64) (0 : Int))))), []⟩,
      ⟨some 5, none, (.op (.mv (.t 18))), []⟩])
    .ret)
  (.seq (.region [⟨some 20, none, (.op (.mv (.t 6))), []⟩,
      ⟨some 21, none, (.op (.bin .eql (.t 20) (.c (.tv (.int .i64) (1 : Int))))), []⟩,
      ⟨some 19, none, (.op (.mv (.t 21))), []⟩])
    (.cond (.t 19)
    (.seq (.region [⟨some 22, none, (.op (.mv (.t 1))), []⟩,
        ⟨some 23, none, (.op (.un .neg (.t 22))), []⟩,
        ⟨some 4, none, (.op (.mv (.t 23))), []⟩,
        ⟨some 5, none, (.op (.mv (.c (.tv (.int .i64) (0 : Int))))), []⟩])
      .ret)
    (.seq (.region [⟨some 25, none, (.op (.mv (.t 1))), []⟩,
        ⟨some 26, none, (.op (.bin .gtr (.t 25) (.c (.tv (.int .i64) (31 : Int))))), []⟩,
        ⟨some 24, none, (.op (.mv (.t 26))), []⟩])
      (.cond (.t 24)
      (.seq (.region [⟨some 4, none, (.op (.mv (.c (.tv (.int .i64) (0 : Int))))), []⟩,
          ⟨some 5, none, (.op (.mv (.c (.tv (.int .i64) (3 : Int))))), []⟩])
        .ret)
      .skip)))))))
  (.seq (.region [⟨some 27, none, (.op (.mv (.t 1))), []⟩,
    ⟨some 4, none, (.op (.mv (.t 27))), []⟩,
    ⟨some 5, none, (.op (.mv (.c (.tv (.int .i64) (0 : Int))))), []⟩])
  .ret)))))
noncomputable def mvd_signed_f : FDef := ⟨2, 28, [.tmp 4 none, .tmp 5 none], mvd_signed_b⟩
noncomputable def mvd_signed_p : XPat := ⟨.normal, [(.ptr 0 []), (.tv (.int .i64))], [(.box (.tv YReader))]⟩
noncomputable def mvd_signed_x : List XPat := [⟨.ret, [(.tup (.cons (.tv (.int .i64)) (.cons (.tv (.int .i64)) .nil)))], [(.box (.tv YReader))]⟩]
noncomputable def mvd_signed_t (k : Nat) (d : mvd_signed_p.D) : Option (XD mvd_signed_x) := mvd_signed k d.1.2 d.2
noncomputable def mvd_signed_e (k : Nat) : UEntry := mkU mvd_signed_p mvd_signed_x (mvd_signed_t k) nilU
theorem mvd_signed_n (k : Nat) : UNat (mvd_signed_e k) := mkU_nat nilU_nat
theorem mvd_signed_m : mfn P mvd_signed_f Tryd.f77 = true := by kernel_rfl
theorem mvd_signed_fu (k : Nat) : FU P GL 77 (mvd_signed_e k) :=
  fn_typed (uorc := uorT (mvd_signed_U0 k)) hmo (T31_ok k).oo (mvd_signed_U0_ok k) (fd := mvd_signed_f) (AllU.no (by kernel_rfl)) (fn := Tryd.f77) (by kernel_rfl) mvd_signed_m (fun d => by kernel_rfl) FU_nil
noncomputable def T32 (k : Nat) : List (Nat × Ent) := (77, ⟨mvd_signed_e k⟩) :: T31 k
theorem T32_ok (k : Nat) : TabOK P GL (T32 k) := (T31_ok k).cons (mvd_signed_fu k) (mvd_signed_n k)
/-! ### overspill.mvd.Take -/
noncomputable def mvd_Take_U0 (_ : Nat) : List (Nat × Ent) := []
theorem mvd_Take_U0_ok (k : Nat) : UTab (mvd_Take_U0 k) := UTab.nil
noncomputable def mvd_Takeu0_d : UDef := ⟨[(8, none), (11, none)], [35, 36, 37, 38, 39, 40], [(.normal, [(40, none)])], []⟩
noncomputable def mvd_Takeu0_p : XPat := ⟨.normal, [(.tv (.int .i64)), (.tv .bool)], []⟩
noncomputable def mvd_Takeu0_x : List XPat := [⟨.normal, [(.tv .bool)], []⟩]
noncomputable def mvd_Takeu0 (k : Nat) (x0 : Int) (x1 : Bool) : Option (Bool) :=
  bif (decide (x0 = 0)) then
    some (!x1)
  else
  some false
noncomputable def mvd_Takeu0_b : AC :=
  (.region [⟨some 35, none, (.op (.mv (.t 8))), []⟩,
    ⟨some 36, none, (.op (.bin .eql (.t 35) (.c (.tv (.int .i64) (0 : Int))))), []⟩,
    ⟨some 37, none, (.op (.mv (.t 36))), []⟩,
    ⟨some 38, some (2, 37, true), (.op (.mv (.t 11))), []⟩,
    ⟨some 39, some (2, 37, true), (.op (.un .not (.t 38))), []⟩,
    ⟨some 40, none, (.op (.pick (.t 37) (.t 39) (.c (.tv .bool (false : Bool))))), []⟩])
noncomputable def mvd_Takeu0_t (k : Nat) (d : mvd_Takeu0_p.D) : Option (XD mvd_Takeu0_x) := mvd_Takeu0 k d.1 d.2
theorem mvd_Takeu0_ok (k : Nat) : UOK P GL (mkU mvd_Takeu0_p mvd_Takeu0_x (mvd_Takeu0_t k) nilU) mvd_Takeu0_d false mvd_Takeu0_b :=
  unit_typed (ud := mvd_Takeu0_d) (body := mvd_Takeu0_b) (uorc := uorT (mvd_Take_U0 k)) hmo (T32_ok k).oo (mvd_Take_U0_ok k) (AllU.no (by kernel_rfl)) (fun d => by kernel_rfl)
noncomputable def mvd_Take_U1 (k : Nat) : List (Nat × Ent) := (0, ⟨mkU mvd_Takeu0_p mvd_Takeu0_x (mvd_Takeu0_t k) nilU⟩) :: mvd_Take_U0 k
theorem mvd_Take_U1_ok (k : Nat) : UTab (mvd_Take_U1 k) := (mvd_Take_U0_ok k).cons (mkU_nat nilU_nat)
noncomputable def mvd_Takeu1_d : UDef := ⟨[(8, none), (40, none)], [8], [(.normal, [(8, none)])], []⟩
noncomputable def mvd_Takeu1_p : XPat := ⟨.normal, [(.tv (.int .i64)), (.tv .bool)], []⟩
noncomputable def mvd_Takeu1_x : List XPat := [⟨.normal, [(.tv (.int .i64))], []⟩]
noncomputable def mvd_Takeu1 (k : Nat) (x0 : Int) (x1 : Bool) : Option (Int) :=
  bif x1 then
    some 3
  else
  some x0
noncomputable def mvd_Takeu1_b : AC :=
  (.cond (.t 40)
  (.region [⟨some 8, none, (.op (.mv (.c (.tv (.int .i64) (3 : Int))))), []⟩])
  .skip)
noncomputable def mvd_Takeu1_t (k : Nat) (d : mvd_Takeu1_p.D) : Option (XD mvd_Takeu1_x) := mvd_Takeu1 k d.1 d.2
theorem mvd_Takeu1_ok (k : Nat) : UOK P GL (mkU mvd_Takeu1_p mvd_Takeu1_x (mvd_Takeu1_t k) nilU) mvd_Takeu1_d false mvd_Takeu1_b :=
  unit_typed (ud := mvd_Takeu1_d) (body := mvd_Takeu1_b) (uorc := uorT (mvd_Take_U1 k)) hmo (T32_ok k).oo (mvd_Take_U1_ok k) (AllU.no (by kernel_rfl)) (fun d => by kernel_rfl)
noncomputable def mvd_Take_U2 (k : Nat) : List (Nat × Ent) := (1, ⟨mkU mvd_Takeu1_p mvd_Takeu1_x (mvd_Takeu1_t k) nilU⟩) :: mvd_Take_U1 k
theorem mvd_Take_U2_ok (k : Nat) : UTab (mvd_Take_U2 k) := (mvd_Take_U1_ok k).cons (mkU_nat nilU_nat)
noncomputable def mvd_Takeu2_d : UDef := ⟨[(8, none), (10, none)], [41, 42, 43, 44, 45], [(.normal, [(45, none)])], []⟩
noncomputable def mvd_Takeu2_p : XPat := ⟨.normal, [(.tv (.int .i64)), (.tv .bool)], []⟩
noncomputable def mvd_Takeu2_x : List XPat := [⟨.normal, [(.tv .bool)], []⟩]
noncomputable def mvd_Takeu2 (k : Nat) (x0 : Int) (x1 : Bool) : Option (Bool) :=
  bif (decide (x0 = 0)) then
    some x1
  else
  some false
noncomputable def mvd_Takeu2_b : AC :=
  (.region [⟨some 41, none, (.op (.mv (.t 8))), []⟩,
    ⟨some 42, none, (.op (.bin .eql (.t 41) (.c (.tv (.int .i64) (0 : Int))))), []⟩,
    ⟨some 43, none, (.op (.mv (.t 42))), []⟩,
    ⟨some 44, some (2, 43, true), (.op (.mv (.t 10))), []⟩,
    ⟨some 45, none, (.op (.pick (.t 43) (.t 44) (.c (.tv .bool (false : Bool))))), []⟩])
noncomputable def mvd_Takeu2_t (k : Nat) (d : mvd_Takeu2_p.D) : Option (XD mvd_Takeu2_x) := mvd_Takeu2 k d.1 d.2
theorem mvd_Takeu2_ok (k : Nat) : UOK P GL (mkU mvd_Takeu2_p mvd_Takeu2_x (mvd_Takeu2_t k) nilU) mvd_Takeu2_d false mvd_Takeu2_b :=
  unit_typed (ud := mvd_Takeu2_d) (body := mvd_Takeu2_b) (uorc := uorT (mvd_Take_U2 k)) hmo (T32_ok k).oo (mvd_Take_U2_ok k) (AllU.no (by kernel_rfl)) (fun d => by kernel_rfl)
noncomputable def mvd_Take_U3 (k : Nat) : List (Nat × Ent) := (2, ⟨mkU mvd_Takeu2_p mvd_Takeu2_x (mvd_Takeu2_t k) nilU⟩) :: mvd_Take_U2 k
theorem mvd_Take_U3_ok (k : Nat) : UTab (mvd_Take_U3 k) := (mvd_Take_U2_ok k).cons (mkU_nat nilU_nat)
noncomputable def mvd_Takeu3_d : UDef := ⟨[(0, none), (8, none), (9, none), (12, none), (45, none)], [8, 12, 46, 47, 48, 49, 50, 51], [(.normal, [(8, none), (12, none)])], []⟩
noncomputable def mvd_Takeu3_p : XPat := ⟨.normal, [(.ptr 0 []), (.tv (.int .i64)), (.tv (.int .i64)), (.tv (.int .i64)), (.tv .bool)], [(.box (.tv YReader))]⟩
noncomputable def mvd_Takeu3_x : List XPat := [⟨.normal, [(.tv (.int .i64)), (.tv (.int .i64))], [(.box (.tv YReader))]⟩]
noncomputable def mvd_Takeu3 (k : Nat) (x0 : Int) (x1 : Int) (x2 : Int) (x3 : Bool) (x4 : DReader) : Option (((Int) × (Int)) × (DReader)) :=
  bif x3 then
    Option.bind (mvd_signed k x1 x4) fun (v114 : ((Int) × ((Int) × (Unit))) × (DReader)) =>
    some ((v114.1.2.1, v114.1.1), v114.2)
  else
  some ((x0, x2), x4)
noncomputable def mvd_Takeu3_b : AC :=
  (.cond (.t 45)
  (.region [⟨some 47, none, (.op (.mv (.t 0))), []⟩,
      ⟨some 48, none, (.op (.mv (.t 9))), []⟩,
      ⟨some 49, none, (.call (.c (.fn 77 .nil .nil)) [((.t 47), none), ((.t 48), none)]), []⟩,
      ⟨some 46, none, (.op (.mv (.t 49))), []⟩,
      ⟨some 50, none, (.op (.ext (.t 46) 0)), []⟩,
      ⟨some 51, none, (.op (.ext (.t 46) 1)), []⟩,
      ⟨some 12, none, (.op (.mv (.t 50))), []⟩,
      ⟨some 8, none, (.op (.mv (.t 51))), []⟩])
  .skip)
noncomputable def mvd_Takeu3_t (k : Nat) (d : mvd_Takeu3_p.D) : Option (XD mvd_Takeu3_x) := mvd_Takeu3 k d.1.2.1 d.1.2.2.1 d.1.2.2.2.1 d.1.2.2.2.2 d.2
theorem mvd_Takeu3_ok (k : Nat) : UOK P GL (mkU mvd_Takeu3_p mvd_Takeu3_x (mvd_Takeu3_t k) nilU) mvd_Takeu3_d false mvd_Takeu3_b :=
  unit_typed (ud := mvd_Takeu3_d) (body := mvd_Takeu3_b) (uorc := uorT (mvd_Take_U3 k)) hmo (T32_ok k).oo (mvd_Take_U3_ok k) (AllU.no (by kernel_rfl)) (fun d => by kernel_rfl)
noncomputable def mvd_Take_U4 (k : Nat) : List (Nat × Ent) := (3, ⟨mkU mvd_Takeu3_p mvd_Takeu3_x (mvd_Takeu3_t k) nilU⟩) :: mvd_Take_U3 k
theorem mvd_Take_U4_ok (k : Nat) : UTab (mvd_Take_U4 k) := (mvd_Take_U3_ok k).cons (mkU_nat nilU_nat)
noncomputable def mvd_Takeu4_d : UDef := ⟨[(0, none), (4, none), (5, none), (6, none)], [2, 3, 5, 6, 7, 8, 9, 10, 11, 12, 17, 18, 19, 20, 21, 22, 23, 24, 25, 26, 27, 28, 29, 30, 31, 32, 33, 34, 35, 36, 37, 38, 39, 40, 41, 42, 43, 44, 45, 46, 47, 48, 49, 50, 51, 52, 53, 54, 55, 56, 57, 58, 59], [(.ret, [(2, none), (3, none)])], []⟩
noncomputable def mvd_Takeu4_p : XPat := ⟨.normal, [(.ptr 0 []), (.tv (.int .i64)), (.tv (.int .i64)), (.tv (.int .i64))], [(.box (.tv YReader))]⟩
noncomputable def mvd_Takeu4_x : List XPat := [⟨.ret, [(.tv (.int .i64)), (.tv (.int .i64))], [(.box (.tv YReader))]⟩]
noncomputable def mvd_Takeu4 (k : Nat) : Nat → (Int) → (Int) → (Int) → (DReader) → Option (((Int) × (Int)) × (DReader))
  | 0, _, _, _, _ => none
  | n + 1, x0, x1, x2, x3 =>
    Option.bind (inbits_Reader_Take k 1 x3) fun (v117 : ((Int) × ((Int) × (Unit))) × (DReader)) =>
    Option.bind (mvd_found k (bitop .or .i64 (shlI .i64 x1 1) v117.1.1) x2) fun (v118 : (Int) × ((Bool) × ((Bool) × (Unit)))) =>
    Option.bind (mvd_Takeu0 k v117.1.2.1 v118.2.2.1) fun (v119 : Bool) =>
    Option.bind (mvd_Takeu1 k v117.1.2.1 v119) fun (v120 : Int) =>
    Option.bind (mvd_Takeu2 k v120 v118.2.1) fun (v121 : Bool) =>
    Option.bind (mvd_Takeu3 k v120 v118.1 0 v121 v117.2) fun (v122 : ((Int) × (Int)) × (DReader)) =>
    bif (!(decide (v122.1.1 = 0))) then
      Option.bind (inbits_Reader_Seek k x0 v122.2) fun (v123 : (Int) × (DReader)) =>
      some ((0, v122.1.1), v123.2)
    else
    bif v118.2.1 then
      some ((v122.1.2, 0), v122.2)
    else
    Option.bind (mvd_Takeu4 k n x0 (bitop .or .i64 (shlI .i64 x1 1) v117.1.1) (wr .i64 (x2 + 1)) v122.2) fun r => some r
noncomputable def mvd_Takeu4_b : AC :=
  (.seq (.block 1 (.seq (.region [⟨some 20, none, (.op (.mv (.t 0))), []⟩,
    ⟨some 21, none, (.call (.c (.fn 72 .nil .nil)) [((.t 20), none), ((.c (.tv (.int .i64) (1 : Int))), none)]), []⟩,
    ⟨some 19, none, (.op (.mv (.t 21))), []⟩,
    ⟨some 22, none, (.op (.ext (.t 19) 0)), []⟩,
    ⟨some 23, none, (.op (.ext (.t 19) 1)), []⟩,
    ⟨some 7, none, (.op (.mv (.t 22))), []⟩,
    ⟨some 8, none, (.op (.mv (.t 23))), []⟩])
  (.seq (.region [⟨some 24, none, (.op (.mv (.t 5))), []⟩,
    ⟨some 25, none, (.op (.bin .shl (.t 24) (.c (.tv (.int .u64) (1 : Int))))), []⟩,
    ⟨some 26, none, (.op (.mv (.t 7))), []⟩,
    ⟨some 27, none, (.op (.bin .or (.t 25) (.t 26))), []⟩,
    ⟨some 5, none, (.op (.mv (.t 27))), []⟩])
  (.seq (.region [⟨some 29, none, (.op (.mv (.t 5))), []⟩,
    ⟨some 30, none, (.op (.mv (.t 6))), []⟩,
    ⟨some 31, none, (.call (.c (.fn 76 .nil .nil)) [((.t 29), none), ((.t 30), none)]), []⟩,
    ⟨some 28, none, (.op (.mv (.t 31))), []⟩,
    ⟨some 32, none, (.op (.ext (.t 28) 0)), []⟩,
    ⟨some 33, none, (.op (.ext (.t 28) 1)), []⟩,
    ⟨some 34, none, (.op (.ext (.t 28) 2)), []⟩,
    ⟨some 9, none, (.op (.mv (.t 32))), []⟩,
    ⟨some 10, none, (.op (.mv (.t 33))), []⟩,
    ⟨some 11, none, (.op (.mv (.t 34))), []⟩])
  (.seq (.seq (.unit 0 mvd_Takeu0_d false mvd_Takeu0_b)
  (.unit 1 mvd_Takeu1_d false mvd_Takeu1_b))
  (.seq (.region [⟨some 12, none, (.op (.mv (.c (.tv (.int .i64) (0 : Int))))), []⟩])
  (.seq (.seq (.unit 2 mvd_Takeu2_d false mvd_Takeu2_b)
  (.unit 3 mvd_Takeu3_d false mvd_Takeu3_b))
  (.seq (.seq (.region [⟨some 52, none, (.op (.mv (.t 8))), []⟩,
    ⟨some 53, none, (.op (.bin .neq (.t 52) (.c (.tv (.int .i64) (0 : Int))))), []⟩])
  (.cond (.t 53)
  (.seq (.region [⟨some 54, none, (.op (.mv (.t 0))), []⟩,
      ⟨some 55, none, (.op (.mv (.t 4))), []⟩,
      ⟨some 56, none, (.call (.c (.fn 8 .nil .nil)) [((.t 54), none), ((.t 55), none)]), []⟩])
    (.seq (.region [⟨some 57, none, (.op (.mv (.t 8))), []⟩,
      ⟨some 2, none, (.op (.mv (.c (.tv (.int .i64) (0 : Int))))), []⟩,
      ⟨some 3, none, (.op (.mv (.t 57))), []⟩])
    .ret))
  .skip))
  (.seq (.region [⟨some 58, none, (.op (.mv (.t 10))), []⟩])
  (.cond (.t 58)
  (.seq (.region [⟨some 59, none, (.op (.mv (.t 12))), []⟩,
      ⟨some 2, none, (.op (.mv (.t 59))), []⟩,
      ⟨some 3, none, (.op (.mv (.c (.tv (.int .i64) (0 : Int))))), []⟩])
    .ret)
  .skip))))))))))
  (.region [⟨some 17, none, (.op (.mv (.t 6))), []⟩,
    ⟨some 18, none, (.op (.bin .add (.t 17) (.c (.tv (.int .i64) (1 : Int))))), []⟩,
    ⟨some 6, none, (.op (.mv (.t 18))), []⟩]))
noncomputable def mvd_Takeu4_t (k n : Nat) (d : mvd_Takeu4_p.D) : Option (XD mvd_Takeu4_x) := mvd_Takeu4 k n d.1.2.1 d.1.2.2.1 d.1.2.2.2 d.2
theorem mvd_Takeu4_ok (k : Nat) : UOK P GL (mkU mvd_Takeu4_p mvd_Takeu4_x (mvd_Takeu4_t k k) nilU) mvd_Takeu4_d true mvd_Takeu4_b :=
  loop_typed (ud := mvd_Takeu4_d) (body := mvd_Takeu4_b) (uorc := uorT (mvd_Take_U4 k)) hmo (T32_ok k).oo (mvd_Take_U4_ok k) (AllU.seq (AllU.block (AllU.seq (AllU.no (by kernel_rfl)) (AllU.seq (AllU.no (by kernel_rfl)) (AllU.seq (AllU.no (by kernel_rfl)) (AllU.seq (AllU.seq (AllU.unit (uorc := uorT (mvd_Take_U4 k)) (u := 0) (mvd_Takeu0_ok k)) (AllU.unit (uorc := uorT (mvd_Take_U4 k)) (u := 1) (mvd_Takeu1_ok k))) (AllU.seq (AllU.no (by kernel_rfl)) (AllU.seq (AllU.seq (AllU.unit (uorc := uorT (mvd_Take_U4 k)) (u := 2) (mvd_Takeu2_ok k)) (AllU.unit (uorc := uorT (mvd_Take_U4 k)) (u := 3) (mvd_Takeu3_ok k))) (AllU.no (by kernel_rfl))))))))) (AllU.no (by kernel_rfl))) (t := mvd_Takeu4_t k) (fun d => by kernel_rfl) (fun n d => by kernel_rfl) k
noncomputable def mvd_Take_U5 (k : Nat) : List (Nat × Ent) := (4, ⟨mkU mvd_Takeu4_p mvd_Takeu4_x (mvd_Takeu4_t k k) nilU⟩) :: mvd_Take_U4 k
theorem mvd_Take_U5_ok (k : Nat) : UTab (mvd_Take_U5 k) := (mvd_Take_U4_ok k).cons (mkU_nat nilU_nat)
noncomputable def mvd_Take (k : Nat) (x0 : DReader) : Option (((Int) × ((Int) × (Unit))) × (DReader)) :=
  Option.bind (inbits_Reader_At k x0) fun (v100 : (Int) × (DReader)) =>
  Option.bind (mvd_Takeu4 k k v100.1 0 1 v100.2) fun (v124 : ((Int) × (Int)) × (DReader)) =>
  some ((v124.1.1, (v124.1.2, ())), v124.2)
noncomputable def mvd_Take_b : AC :=
  (.seq (.region [⟨some 2, none, (.op (.mv (.c (.tv (.int .i64) (0 : Int))))), []⟩,
    ⟨some 3, none, (.op (.mv (.c (.tv (.int .i64) (0 : Int))))), []⟩])
  (.seq (.seq (.region [⟨some 13, none, (.op (.mv (.t 0))), []⟩,
    ⟨some 14, none, (.op (.eqp false (.t 13) (.c .nilp))), []⟩])
  (.cond (.t 14)
  (.seq (.region [⟨some 2, none, .op .bad, []⟩,
      ⟨some 3, none, .op .bad, []⟩])
    .ret)
  .skip))
  (.seq (.region [⟨some 15, none, (.op (.mv (.t 0))), []⟩,
    ⟨some 16, none, (.call (.c (.fn 14 .nil .nil)) [((.t 15), none)]), []⟩,
    ⟨some 4, none, (.op (.mv (.t 16))), []⟩])
  (.seq (.region [⟨some 5, none, (.op (.mv (.c (.tv (.int .i64) (0 : Int))))), []⟩,
    ⟨some 6, none, (.op (.mv (.c (.tv (.int .i64) (1 : Int))))), []⟩])
  (.block 0 (.unit 4 mvd_Takeu4_d true mvd_Takeu4_b))))))
noncomputable def mvd_Take_f : FDef := ⟨1, 60, [.tmp 2 none, .tmp 3 none], mvd_Take_b⟩
noncomputable def mvd_Take_p : XPat := ⟨.normal, [(.ptr 0 [])], [(.box (.tv YReader))]⟩
noncomputable def mvd_Take_x : List XPat := [⟨.ret, [(.tup (.cons (.tv (.int .i64)) (.cons (.tv (.int .i64)) .nil)))], [(.box (.tv YReader))]⟩]
noncomputable def mvd_Take_t (k : Nat) (d : mvd_Take_p.D) : Option (XD mvd_Take_x) := mvd_Take k d.2
noncomputable def mvd_Take_e (k : Nat) : UEntry := mkU mvd_Take_p mvd_Take_x (mvd_Take_t k) nilU
theorem mvd_Take_n (k : Nat) : UNat (mvd_Take_e k) := mkU_nat nilU_nat
theorem mvd_Take_m : mfn P mvd_Take_f Tryd.f55 = true := by kernel_rfl
theorem mvd_Take_fu (k : Nat) : FU P GL 55 (mvd_Take_e k) :=
  fn_typed (uorc := uorT (mvd_Take_U5 k)) hmo (T32_ok k).oo (mvd_Take_U5_ok k) (fd := mvd_Take_f) (AllU.seq (AllU.no (by kernel_rfl)) (AllU.seq (AllU.no (by kernel_rfl)) (AllU.seq (AllU.no (by kernel_rfl)) (AllU.seq (AllU.no (by kernel_rfl)) (AllU.block (AllU.unit (uorc := uorT (mvd_Take_U5 k)) (u := 4) (mvd_Takeu4_ok k))))))) (fn := Tryd.f55) (by kernel_rfl) mvd_Take_m (fun d => by kernel_rfl) FU_nil
noncomputable def T33 (k : Nat) : List (Nat × Ent) := (55, ⟨mvd_Take_e k⟩) :: T32 k
theorem T33_ok (k : Nat) : TabOK P GL (T33 k) := (T32_ok k).cons (mvd_Take_fu k) (mvd_Take_n k)
/-! ### overspill.whole.Wrap -/
noncomputable def whole_Wrap_U0 (_ : Nat) : List (Nat × Ent) := []
theorem whole_Wrap_U0_ok (k : Nat) : UTab (whole_Wrap_U0 k) := UTab.nil
noncomputable def whole_Wrap (k : Nat) (x0 : Int) : Option (Int) :=
  bif (decide ((Int.tmod x0 64) < (-32))) then
    some (wr .i64 ((Int.tmod x0 64) + 64))
  else
  bif (decide ((32 : Int) ≤ (Int.tmod x0 64))) then
    some (wr .i64 ((Int.tmod x0 64) - 64))
  else
  some (Int.tmod x0 64)
noncomputable def whole_Wrap_b : AC :=
  (.seq (.region [⟨some 2, none, (.op (.mv (.c (.tv (.int .i64) (0 : Int))))), []⟩])
  (.seq (.region [⟨some 3, none, (.op (.mv (.t 0))), []⟩,
    ⟨some 4, none, (.op (.bin .rem (.t 3) (.c (.tv (.int .i64) (64 : Int))))), []⟩,
    ⟨some 0, none, (.op (.mv (.t 4))), []⟩])
  (.seq (.block 0 (.seq (.region [⟨some 6, none, (.op (.mv (.t 0))), []⟩,
    ⟨some 7, none, (.op (.bin .lss (.t 6) (.c (.tv (.int .i64) ((-32) : Int))))), []⟩,
    ⟨some 5, none, (.op (.mv (.t 7))), []⟩])
  (.cond (.t 5)
  (.seq (.region [⟨some 8, none, (.op (.mv (.t 0))), []⟩,
      ⟨some 9, none, (.op (.bin .add (.t 8) (.c (.tv (.int .i64) (64 : Int))))), []⟩,
      ⟨some 2, none, (.op (.mv (.t 9))), []⟩])
    .ret)
  (.seq (.region [⟨some 11, none, (.op (.mv (.t 0))), []⟩,
      ⟨some 12, none, (.op (.bin .geq (.t 11) (.c (.tv (.int .i64) (32 : Int))))), []⟩,
      ⟨some 10, none, (.op (.mv (.t 12))), []⟩])
    (.cond (.t 10)
    (.seq (.region [⟨some 13, none, (.op (.mv (.t 0))), []⟩,
        ⟨some 14, none, (.op (.bin .sub (.t 13) (.c (.tv (.int .i64) (64 : Int))))), []⟩,
        ⟨some 2, none, (.op (.mv (.t 14))), []⟩])
      .ret)
    .skip)))))
  (.seq (.region [⟨some 15, none, (.op (.mv (.t 0))), []⟩,
    ⟨some 2, none, (.op (.mv (.t 15))), []⟩])
  .ret))))
noncomputable def whole_Wrap_f : FDef := ⟨1, 16, [.tmp 2 none], whole_Wrap_b⟩
noncomputable def whole_Wrap_p : XPat := ⟨.normal, [(.tv (.int .i64))], []⟩
noncomputable def whole_Wrap_x : List XPat := [⟨.ret, [(.tv (.int .i64))], []⟩]
noncomputable def whole_Wrap_t (k : Nat) (d : whole_Wrap_p.D) : Option (XD whole_Wrap_x) := whole_Wrap k d
noncomputable def whole_Wrap_e (k : Nat) : UEntry := mkU whole_Wrap_p whole_Wrap_x (whole_Wrap_t k) nilU
theorem whole_Wrap_n (k : Nat) : UNat (whole_Wrap_e k) := mkU_nat nilU_nat
theorem whole_Wrap_m : mfn P whole_Wrap_f Tryd.f44 = true := by kernel_rfl
theorem whole_Wrap_fu (k : Nat) : FU P GL 44 (whole_Wrap_e k) :=
  fn_typed (uorc := uorT (whole_Wrap_U0 k)) hmo (T33_ok k).oo (whole_Wrap_U0_ok k) (fd := whole_Wrap_f) (AllU.no (by kernel_rfl)) (fn := Tryd.f44) (by kernel_rfl) whole_Wrap_m (fun d => by kernel_rfl) FU_nil
noncomputable def T34 (k : Nat) : List (Nat × Ent) := (44, ⟨whole_Wrap_e k⟩) :: T33 k
theorem T34_ok (k : Nat) : TabOK P GL (T34 k) := (T33_ok k).cons (whole_Wrap_fu k) (whole_Wrap_n k)
/-! ### (*overspill.cellin.reader).middle -/
noncomputable def cellin_reader_middle_U0 (_ : Nat) : List (Nat × Ent) := []
theorem cellin_reader_middle_U0_ok (k : Nat) : UTab (cellin_reader_middle_U0 k) := UTab.nil
noncomputable def cellin_reader_middleu0_d : UDef := ⟨[(1, none), (8, none)], [24, 25, 26, 27, 28, 29, 30, 31, 32, 33, 34, 35, 36, 37, 38, 39], [(.normal, [(39, none)])], []⟩
noncomputable def cellin_reader_middleu0_p : XPat := ⟨.normal, [(.ptr 0 []), (.tv (.int .i64))], [(.box (.tv YCell))]⟩
noncomputable def cellin_reader_middleu0_x : List XPat := [⟨.normal, [(.tv .bool)], [(.box (.tv YCell))]⟩]
noncomputable def cellin_reader_middleu0 (k : Nat) (x0 : Int) (x1 : DCell) : Option ((Bool) × (DCell)) :=
  bif (decide (x0 = 0)) then
    bif (decide (x1.2.2.1 = 1)) then
      some (true, x1)
    else
    some ((decide (x1.2.2.1 = 4)), x1)
  else
  some (false, x1)
noncomputable def cellin_reader_middleu0_b : AC :=
  (.region [⟨some 24, none, (.op (.mv (.t 8))), []⟩,
    ⟨some 25, none, (.op (.bin .eql (.t 24) (.c (.tv (.int .i64) (0 : Int))))), []⟩,
    ⟨some 26, none, (.op (.mv (.t 25))), []⟩,
    ⟨some 27, some (2, 26, true), (.op (.mv (.t 1))), []⟩,
    ⟨some 28, some (2, 26, true), (.op (.nilc (.t 27))), []⟩,
    ⟨some 29, some (2, 26, true), (.op (.fad 2 2 (.t 28))), []⟩,
    ⟨some 30, some (2, 26, true), (.op (.load false 1 (.t 29))), []⟩,
    ⟨some 31, some (2, 26, true), (.op (.bin .eql (.t 30) (.c (.tv (.int .i64) (1 : Int))))), []⟩,
    ⟨some 32, some (2, 26, true), (.op (.mv (.t 31))), []⟩,
    ⟨some 33, some (8, 32, false), (.op (.mv (.t 1))), []⟩,
    ⟨some 34, some (8, 32, false), (.op (.nilc (.t 33))), []⟩,
    ⟨some 35, some (8, 32, false), (.op (.fad 2 2 (.t 34))), []⟩,
    ⟨some 36, some (8, 32, false), (.op (.load false 1 (.t 35))), []⟩,
    ⟨some 37, some (8, 32, false), (.op (.bin .eql (.t 36) (.c (.tv (.int .i64) (4 : Int))))), []⟩,
    ⟨some 38, some (2, 26, true), (.op (.pick (.t 32) (.c (.tv .bool (true : Bool))) (.t 37))), []⟩,
    ⟨some 39, none, (.op (.pick (.t 26) (.t 38) (.c (.tv .bool (false : Bool))))), []⟩])
noncomputable def cellin_reader_middleu0_t (k : Nat) (d : cellin_reader_middleu0_p.D) : Option (XD cellin_reader_middleu0_x) := cellin_reader_middleu0 k d.1.2 d.2
theorem cellin_reader_middleu0_ok (k : Nat) : UOK P GL (mkU cellin_reader_middleu0_p cellin_reader_middleu0_x (cellin_reader_middleu0_t k) nilU) cellin_reader_middleu0_d false cellin_reader_middleu0_b :=
  unit_typed (ud := cellin_reader_middleu0_d) (body := cellin_reader_middleu0_b) (uorc := uorT (cellin_reader_middle_U0 k)) hmo (T34_ok k).oo (cellin_reader_middle_U0_ok k) (AllU.no (by kernel_rfl)) (fun d => by kernel_rfl)
noncomputable def cellin_reader_middle_U1 (k : Nat) : List (Nat × Ent) := (0, ⟨mkU cellin_reader_middleu0_p cellin_reader_middleu0_x (cellin_reader_middleu0_t k) nilU⟩) :: cellin_reader_middle_U0 k
theorem cellin_reader_middle_U1_ok (k : Nat) : UTab (cellin_reader_middle_U1 k) := (cellin_reader_middle_U0_ok k).cons (mkU_nat nilU_nat)
noncomputable def cellin_reader_middleu1_d : UDef := ⟨[(0, none), (1, none), (8, none), (39, none)], [8, 40, 41, 42, 43, 44, 45, 46, 47, 48, 49, 50], [(.normal, [(8, none)])], []⟩
noncomputable def cellin_reader_middleu1_p : XPat := ⟨.normal, [(.ptr 0 []), (.ptr 2 []), (.tv (.int .i64)), (.tv .bool)], [(.box (.cons (.ptr 1 []) (.cons (.tv (.int .i64)) .nil))), (.box (.tv YReader)), (.box (.tv YCell))]⟩
noncomputable def cellin_reader_middleu1_x : List XPat := [⟨.normal, [(.tv (.int .i64))], [(.box (.cons (.ptr 1 []) (.cons (.tv (.int .i64)) .nil))), (.box (.tv YReader)), (.box (.tv YCell))]⟩]
noncomputable def cellin_reader_middleu1 (k : Nat) (x0 : Int) (x1 : Bool) (x2 : Int) (x3 : DReader) (x4 : DCell) : Option ((Int) × (((Unit) × ((Int) × (Unit))) × ((DReader) × (DCell)))) :=
  bif x1 then
    Option.bind (steps_Take k x3) fun (v95 : ((Int) × ((Int) × (Unit))) × (DReader)) =>
    some (v95.1.2.1, (((), (x2, ())), (v95.2, (x4.1, (x4.2.1, (x4.2.2.1, (v95.1.1, x4.2.2.2.2)))))))
  else
  some (x0, (((), (x2, ())), (x3, x4)))
noncomputable def cellin_reader_middleu1_b : AC :=
  (.cond (.t 39)
  (.region [⟨some 41, none, (.op (.mv (.t 1))), []⟩,
      ⟨some 42, none, (.op (.mv (.t 0))), []⟩,
      ⟨some 43, none, (.op (.nilc (.t 42))), []⟩,
      ⟨some 44, none, (.op (.fad 0 0 (.t 43))), []⟩,
      ⟨some 45, none, (.op (.load false 1 (.t 44))), []⟩,
      ⟨some 46, none, (.call (.c (.fn 54 .nil .nil)) [((.t 45), none)]), []⟩,
      ⟨some 40, none, (.op (.mv (.t 46))), []⟩,
      ⟨some 47, none, (.op (.ext (.t 40) 0)), []⟩,
      ⟨some 48, none, (.op (.ext (.t 40) 1)), []⟩,
      ⟨some 49, none, (.op (.nilc (.t 41))), []⟩,
      ⟨some 50, none, (.op (.fad 3 3 (.t 49))), []⟩,
      ⟨none, none, (.op (.store 1 none (.t 50) (.t 47))), []⟩,
      ⟨some 8, none, (.op (.mv (.t 48))), []⟩])
  .skip)
noncomputable def cellin_reader_middleu1_t (k : Nat) (d : cellin_reader_middleu1_p.D) : Option (XD cellin_reader_middleu1_x) := cellin_reader_middleu1 k d.1.2.2.1 d.1.2.2.2 d.2.1.2.1 d.2.2.1 d.2.2.2
theorem cellin_reader_middleu1_ok (k : Nat) : UOK P GL (mkU cellin_reader_middleu1_p cellin_reader_middleu1_x (cellin_reader_middleu1_t k) nilU) cellin_reader_middleu1_d false cellin_reader_middleu1_b :=
  unit_typed (ud := cellin_reader_middleu1_d) (body := cellin_reader_middleu1_b) (uorc := uorT (cellin_reader_middle_U1 k)) hmo (T34_ok k).oo (cellin_reader_middle_U1_ok k) (AllU.no (by kernel_rfl)) (fun d => by kernel_rfl)
noncomputable def cellin_reader_middle_U2 (k : Nat) : List (Nat × Ent) := (1, ⟨mkU cellin_reader_middleu1_p cellin_reader_middleu1_x (cellin_reader_middleu1_t k) nilU⟩) :: cellin_reader_middle_U1 k
theorem cellin_reader_middle_U2_ok (k : Nat) : UTab (cellin_reader_middle_U2 k) := (cellin_reader_middle_U1_ok k).cons (mkU_nat nilU_nat)
noncomputable def cellin_reader_middleu2_d : UDef := ⟨[(1, none), (8, none)], [54, 55, 56, 57, 58, 59, 60, 61, 62, 63], [(.normal, [(63, none)])], []⟩
noncomputable def cellin_reader_middleu2_p : XPat := ⟨.normal, [(.ptr 0 []), (.tv (.int .i64))], [(.box (.tv YCell))]⟩
noncomputable def cellin_reader_middleu2_x : List XPat := [⟨.normal, [(.tv .bool)], [(.box (.tv YCell))]⟩]
noncomputable def cellin_reader_middleu2 (k : Nat) (x0 : Int) (x1 : DCell) : Option ((Bool) × (DCell)) :=
  bif (decide (x0 = 0)) then
    Option.bind (cellin_intra k x1.2.2.1) fun (v98 : Bool) =>
    some ((!v98), x1)
  else
  some (false, x1)
noncomputable def cellin_reader_middleu2_b : AC :=
  (.region [⟨some 54, none, (.op (.mv (.t 8))), []⟩,
    ⟨some 55, none, (.op (.bin .eql (.t 54) (.c (.tv (.int .i64) (0 : Int))))), []⟩,
    ⟨some 56, none, (.op (.mv (.t 55))), []⟩,
    ⟨some 57, some (2, 56, true), (.op (.mv (.t 1))), []⟩,
    ⟨some 58, some (2, 56, true), (.op (.nilc (.t 57))), []⟩,
    ⟨some 59, some (2, 56, true), (.op (.fad 2 2 (.t 58))), []⟩,
    ⟨some 60, some (2, 56, true), (.op (.load false 1 (.t 59))), []⟩,
    ⟨some 61, some (2, 56, true), (.call (.c (.fn 53 .nil .nil)) [((.t 60), none)]), []⟩,
    ⟨some 62, some (2, 56, true), (.op (.un .not (.t 61))), []⟩,
    ⟨some 63, none, (.op (.pick (.t 56) (.t 62) (.c (.tv .bool (false : Bool))))), []⟩])
noncomputable def cellin_reader_middleu2_t (k : Nat) (d : cellin_reader_middleu2_p.D) : Option (XD cellin_reader_middleu2_x) := cellin_reader_middleu2 k d.1.2 d.2
theorem cellin_reader_middleu2_ok (k : Nat) : UOK P GL (mkU cellin_reader_middleu2_p cellin_reader_middleu2_x (cellin_reader_middleu2_t k) nilU) cellin_reader_middleu2_d false cellin_reader_middleu2_b :=
  unit_typed (ud := cellin_reader_middleu2_d) (body := cellin_reader_middleu2_b) (uorc := uorT (cellin_reader_middle_U2 k)) hmo (T34_ok k).oo (cellin_reader_middle_U2_ok k) (AllU.no (by kernel_rfl)) (fun d => by kernel_rfl)
noncomputable def cellin_reader_middle_U3 (k : Nat) : List (Nat × Ent) := (2, ⟨mkU cellin_reader_middleu2_p cellin_reader_middleu2_x (cellin_reader_middleu2_t k) nilU⟩) :: cellin_reader_middle_U2 k
theorem cellin_reader_middle_U3_ok (k : Nat) : UTab (cellin_reader_middle_U3 k) := (cellin_reader_middle_U2_ok k).cons (mkU_nat nilU_nat)
noncomputable def cellin_reader_middleu3_d : UDef := ⟨[(0, none), (1, none), (5, none), (8, none), (51, none)], [8, 9, 10, 51, 52, 53, 54, 55, 56, 57, 58, 59, 60, 61, 62, 63, 64, 65, 66, 67, 68, 69, 70, 71, 72, 73, 74, 75, 76, 77, 78, 79, 80, 81, 82, 83, 84], [((.exit 0), [(8, none)])], []⟩
noncomputable def cellin_reader_middleu3_p : XPat := ⟨.normal, [(.ptr 0 []), (.ptr 2 []), (.ptr 3 []), (.tv (.int .i64)), (.tv (.int .i64))], [(.box (.cons (.ptr 1 []) (.cons (.tv (.int .i64)) .nil))), (.box (.tv YReader)), (.box (.tv YCell)), (.box (.tv (.arr 2 (.int .i64))))]⟩
noncomputable def cellin_reader_middleu3_x : List XPat := [⟨(.exit 0), [(.tv (.int .i64))], [(.box (.cons (.ptr 1 []) (.cons (.tv (.int .i64)) .nil))), (.box (.tv YReader)), (.box (.tv YCell)), (.box (.tv (.arr 2 (.int .i64))))]⟩]
noncomputable def cellin_reader_middleu3 (k : Nat) : Nat → (Int) → (Int) → (Int) → (DReader) → (DCell) → (List (Int)) → Option ((Int) × (((Unit) × ((Int) × (Unit))) × ((DReader) × ((DCell) × (List (Int))))))
  | 0, _, _, _, _, _, _ => none
  | n + 1, x0, x1, x2, x3, x4, x5 =>
    bif (decide (x1 < 2)) then
      Option.bind (cellin_reader_middleu2 k x0 x4) fun (v128 : (Bool) × (DCell)) =>
      bif v128.1 then
        Option.bind (mvd_Take k x3) fun (v129 : ((Int) × ((Int) × (Unit))) × (DReader)) =>
        bif (inR x1 2) then
          Option.bind (whole_Wrap k (List.getD x5 (Int.toNat x1) 0)) fun (v130 : Int) =>
          Option.bind (whole_Wrap k (wr .i64 (v130 + v129.1.1))) fun (v131 : Int) =>
          bif (inR x1 2) then
            Option.bind (cellin_reader_middleu3 k n v129.1.2.1 (wr .i64 (x1 + 1)) x2 v129.2 (v128.2.1, (v128.2.2.1, (v128.2.2.2.1, (v128.2.2.2.2.1, ((List.set v128.2.2.2.2.2.1 (Int.toNat x1) v131), v128.2.2.2.2.2.2))))) x5) fun r => some r
          else
            none
        else
          none
      else
      Option.bind (cellin_reader_middleu3 k n x0 (wr .i64 (x1 + 1)) x2 x3 v128.2 x5) fun r => some r
    else
    some (x0, (((), (x2, ())), (x3, (x4, x5))))
noncomputable def cellin_reader_middleu3_b : AC :=
  (.seq (.region [⟨some 52, none, (.op (.bin .lss (.t 51) (.c (.tv (.int .i64) (2 : Int))))), []⟩])
  (.seq (.cond (.t 52)
  .skip
  (.exit 0))
  (.seq (.block 1 (.seq (.region [⟨some 53, none, (.op (.mv (.t 51))), []⟩,
    ⟨some 9, none, (.op (.mv (.t 53))), []⟩])
  (.seq (.unit 2 cellin_reader_middleu2_d false cellin_reader_middleu2_b)
  (.cond (.t 63)
  (.seq (.region [⟨some 10, none, (.op (.mv (.c (.tv (.int .i64) (0 : Int))))), []⟩])
    (.seq (.region [⟨some 65, none, (.op (.mv (.t 0))), []⟩,
      ⟨some 66, none, (.op (.nilc (.t 65))), []⟩,
      ⟨some 67, none, (.op (.fad 0 0 (.t 66))), []⟩,
      ⟨some 68, none, (.op (.load false 1 (.t 67))), []⟩,
      ⟨some 69, none, (.call (.c (.fn 55 .nil .nil)) [((.t 68), none)]), []⟩,
      ⟨some 64, none, (.op (.mv (.t 69))), []⟩,
      ⟨some 70, none, (.op (.ext (.t 64) 0)), []⟩,
      ⟨some 71, none, (.op (.ext (.t 64) 1)), []⟩,
      ⟨some 10, none, (.op (.mv (.t 70))), []⟩,
      ⟨some 8, none, (.op (.mv (.t 71))), []⟩])
    (.draw [⟨some 72, none, (.op (.mv (.t 1))), []⟩,
      ⟨some 73, none, (.op (.mv (.t 9))), []⟩,
      ⟨some 74, none, (.op (.mv (.t 9))), []⟩,
      ⟨some 75, none, (.op (.iad 2 1 (.t 5) (.t 74))), [2]⟩,
      ⟨some 76, none, (.op (.load false 1 (.t 75))), [2, 3]⟩,
      ⟨some 77, none, (.call (.c (.fn 44 .nil .nil)) [((.t 76), none)]), [2, 3, 4]⟩,
      ⟨some 78, none, (.op (.mv (.t 10))), []⟩,
      ⟨some 79, none, (.op (.bin .add (.t 77) (.t 78))), [2, 3, 4, 5, 6]⟩,
      ⟨some 80, none, (.call (.c (.fn 44 .nil .nil)) [((.t 79), none)]), [2, 3, 4, 5, 6, 7]⟩,
      ⟨some 81, none, (.op (.nilc (.t 72))), [0]⟩,
      ⟨some 82, none, (.op (.fad 4 4 (.t 81))), [0, 9]⟩,
      ⟨some 83, none, (.op (.iad 2 1 (.t 82) (.t 73))), [0, 1, 2, 3, 4, 5, 6, 7, 8, 9, 10]⟩,
      ⟨none, none, (.op (.store 1 none (.t 83) (.t 80))), [0, 1, 2, 3, 4, 5, 6, 7, 8, 9, 10, 11]⟩])))
  .skip))))
  (.region [⟨some 84, none, (.op (.bin .add (.t 51) (.c (.tv (.int .i64) (1 : Int))))), []⟩,
    ⟨some 51, none, (.op (.mv (.t 84))), []⟩]))))
noncomputable def cellin_reader_middleu3_t (k n : Nat) (d : cellin_reader_middleu3_p.D) : Option (XD cellin_reader_middleu3_x) := cellin_reader_middleu3 k n d.1.2.2.2.1 d.1.2.2.2.2 d.2.1.2.1 d.2.2.1 d.2.2.2.1 d.2.2.2.2
theorem cellin_reader_middleu3_ok (k : Nat) : UOK P GL (mkU cellin_reader_middleu3_p cellin_reader_middleu3_x (cellin_reader_middleu3_t k k) nilU) cellin_reader_middleu3_d true cellin_reader_middleu3_b :=
  loop_typed (ud := cellin_reader_middleu3_d) (body := cellin_reader_middleu3_b) (uorc := uorT (cellin_reader_middle_U3 k)) hmo (T34_ok k).oo (cellin_reader_middle_U3_ok k) (AllU.seq (AllU.no (by kernel_rfl)) (AllU.seq (AllU.no (by kernel_rfl)) (AllU.seq (AllU.block (AllU.seq (AllU.no (by kernel_rfl)) (AllU.seq (AllU.unit (uorc := uorT (cellin_reader_middle_U3 k)) (u := 2) (cellin_reader_middleu2_ok k)) (AllU.no (by kernel_rfl))))) (AllU.no (by kernel_rfl))))) (t := cellin_reader_middleu3_t k) (fun d => by kernel_rfl) (fun n d => by kernel_rfl) k
noncomputable def cellin_reader_middle_U4 (k : Nat) : List (Nat × Ent) := (3, ⟨mkU cellin_reader_middleu3_p cellin_reader_middleu3_x (cellin_reader_middleu3_t k k) nilU⟩) :: cellin_reader_middle_U3 k
theorem cellin_reader_middle_U4_ok (k : Nat) : UTab (cellin_reader_middle_U4 k) := (cellin_reader_middle_U3_ok k).cons (mkU_nat nilU_nat)
noncomputable def cellin_reader_middle (k : Nat) (x0 : List (Int)) (x1 : Int) (x2 : DReader) (x3 : DCell) : Option ((Int) × (((Unit) × ((Int) × (Unit))) × ((DReader) × (DCell)))) :=
  Option.bind (cellin_intra k x3.2.2.1) fun (v82 : Bool) =>
  Option.bind (cbpy_Take k v82 x2) fun (v91 : ((Int) × ((Int) × (Unit))) × (DReader)) =>
  Option.bind (cellin_reader_middleu0 k v91.1.2.1 x3) fun (v92 : (Bool) × (DCell)) =>
  Option.bind (cellin_reader_middleu1 k v91.1.2.1 v92.1 x1 v91.2 v92.2) fun (v96 : (Int) × (((Unit) × ((Int) × (Unit))) × ((DReader) × (DCell)))) =>
  Option.bind (cellin_reader_middleu3 k k v96.1 0 v96.2.1.2.1 v96.2.2.1 v96.2.2.2 x0) fun (v132 : (Int) × (((Unit) × ((Int) × (Unit))) × ((DReader) × ((DCell) × (List (Int)))))) =>
  some (v91.1.1, (((), (v132.1, ())), (v132.2.2.1, v132.2.2.2.1)))
noncomputable def cellin_reader_middle_b : AC :=
  (.seq (.region [⟨some 5, none, (.op (.box (.t 2))), []⟩,
    ⟨some 6, none, (.op (.mv (.c (.tv (.int .i64) (0 : Int))))), []⟩])
  (.seq (.draw [⟨some 12, none, (.op (.mv (.t 0))), []⟩,
    ⟨some 13, none, (.op (.nilc (.t 12))), [0]⟩,
    ⟨some 14, none, (.op (.fad 0 0 (.t 13))), [0, 1]⟩,
    ⟨some 15, none, (.op (.load false 1 (.t 14))), [0, 1, 2]⟩,
    ⟨some 16, none, (.op (.mv (.t 1))), []⟩,
    ⟨some 17, none, (.op (.nilc (.t 16))), [4]⟩,
    ⟨some 18, none, (.op (.fad 2 2 (.t 17))), [4, 5]⟩,
    ⟨some 19, none, (.op (.load false 1 (.t 18))), [4, 5, 6]⟩,
    ⟨some 20, none, (.call (.c (.fn 53 .nil .nil)) [((.t 19), none)]), [4, 5, 6, 7]⟩,
    ⟨some 21, none, (.call (.c (.fn 52 .nil .nil)) [((.t 15), none), ((.t 20), none)]), [0, 1, 2, 3, 4, 5, 6, 7, 8]⟩,
    ⟨some 11, none, (.op (.mv (.t 21))), [0, 1, 2, 3, 4, 5, 6, 7, 8, 9]⟩,
    ⟨some 22, none, (.op (.ext (.t 11) 0)), [0, 1, 2, 3, 4, 5, 6, 7, 8, 9, 10]⟩,
    ⟨some 23, none, (.op (.ext (.t 11) 1)), [0, 1, 2, 3, 4, 5, 6, 7, 8, 9, 10]⟩,
    ⟨some 7, none, (.op (.mv (.t 22))), [0, 1, 2, 3, 4, 5, 6, 7, 8, 9, 10, 11]⟩,
    ⟨some 8, none, (.op (.mv (.t 23))), [0, 1, 2, 3, 4, 5, 6, 7, 8, 9, 10, 11, 12, 13]⟩])
  (.seq (.seq (.unit 0 cellin_reader_middleu0_d false cellin_reader_middleu0_b)
  (.unit 1 cellin_reader_middleu1_d false cellin_reader_middleu1_b))
  (.seq (.seq (.region [⟨some 51, none, (.op (.mv (.c (.tv (.int .i64) (0 : Int))))), []⟩])
  (.block 0 (.unit 3 cellin_reader_middleu3_d true cellin_reader_middleu3_b)))
  (.seq (.region [⟨some 85, none, (.op (.mv (.t 0))), []⟩,
    ⟨some 86, none, (.op (.mv (.t 8))), []⟩,
    ⟨some 87, none, (.op (.nilc (.t 85))), []⟩,
    ⟨some 88, none, (.op (.fad 1 1 (.t 87))), []⟩,
    ⟨none, none, (.op (.store 1 none (.t 88) (.t 86))), []⟩])
  (.seq (.region [⟨some 89, none, (.op (.mv (.t 7))), []⟩,
    ⟨some 6, none, (.op (.mv (.t 89))), []⟩])
  .ret))))))
noncomputable def cellin_reader_middle_f : FDef := ⟨3, 90, [.tmp 6 none], cellin_reader_middle_b⟩
noncomputable def cellin_reader_middle_p : XPat := ⟨.normal, [(.ptr 0 []), (.ptr 2 []), (.tv (.arr 2 (.int .i64)))], [(.box (.cons (.ptr 1 []) (.cons (.tv (.int .i64)) .nil))), (.box (.tv YReader)), (.box (.tv YCell))]⟩
noncomputable def cellin_reader_middle_x : List XPat := [⟨.ret, [(.tv (.int .i64))], [(.box (.cons (.ptr 1 []) (.cons (.tv (.int .i64)) .nil))), (.box (.tv YReader)), (.box (.tv YCell))]⟩]
noncomputable def cellin_reader_middle_t (k : Nat) (d : cellin_reader_middle_p.D) : Option (XD cellin_reader_middle_x) := cellin_reader_middle k d.1.2.2 d.2.1.2.1 d.2.2.1 d.2.2.2
noncomputable def cellin_reader_middle_e (k : Nat) : UEntry := mkU cellin_reader_middle_p cellin_reader_middle_x (cellin_reader_middle_t k) nilU
theorem cellin_reader_middle_n (k : Nat) : UNat (cellin_reader_middle_e k) := mkU_nat nilU_nat
theorem cellin_reader_middle_m : mfn P cellin_reader_middle_f Tryd.f25 = true := by kernel_rfl
theorem cellin_reader_middle_fu (k : Nat) : FU P GL 25 (cellin_reader_middle_e k) :=
  fn_typed (uorc := uorT (cellin_reader_middle_U4 k)) hmo (T34_ok k).oo (cellin_reader_middle_U4_ok k) (fd := cellin_reader_middle_f) (AllU.seq (AllU.no (by kernel_rfl)) (AllU.seq (AllU.no (by kernel_rfl)) (AllU.seq (AllU.seq (AllU.unit (uorc := uorT (cellin_reader_middle_U4 k)) (u := 0) (cellin_reader_middleu0_ok k)) (AllU.unit (uorc := uorT (cellin_reader_middle_U4 k)) (u := 1) (cellin_reader_middleu1_ok k))) (AllU.seq (AllU.seq (AllU.no (by kernel_rfl)) (AllU.block (AllU.unit (uorc := uorT (cellin_reader_middle_U4 k)) (u := 3) (cellin_reader_middleu3_ok k)))) (AllU.no (by kernel_rfl)))))) (fn := Tryd.f25) (by kernel_rfl) cellin_reader_middle_m (fun d => by kernel_rfl) FU_nil
noncomputable def T35 (k : Nat) : List (Nat × Ent) := (25, ⟨cellin_reader_middle_e k⟩) :: T34 k
theorem T35_ok (k : Nat) : TabOK P GL (T35 k) := (T34_ok k).cons (cellin_reader_middle_fu k) (cellin_reader_middle_n k)
end Go.Proofs.YtlemoepklgfjoaaDoor
