/-
  For every input the law SheetoutPuts answers true and its arguments read as before: over the plain law, the row's statement and its tied card.
  Conditions: the row's own (package-level tables as the program's text lays them).
-/
import Derived.Test.YtlmajdbchmnhdaaGreatDoorCards
import Derived.Test.YtlmajdbchmnhdaaGreatDoorTie
import Derived.Test.YtlmajdbchmnhdaaGreatDoorM4
import Derived.Test.YtlmajdbchmnhdaaGreatDoorLSheetoutPuts
import Derived.WalkKit
import Derived.ProofKit
import Derived.OpenShut
import Derived.Deep.DeepHandedRow
import Derived.Deep.DeepWitnessRowRef
import Derived.Lib.LaidTab
import Derived.Lib.LaidU8
import Derived.Lib.LaidIn
set_option maxRecDepth 100000
namespace Go.Proofs.YtlmajdbchmnhdaaGreatDoor.sheetoutPuts
open Go Go.Av Go.ChangeShapes Go.WideShapes Go.ChangeAt Go.RowKit

theorem glob {W : World} (h : laidMetH Tryz.prog Rows.sheetoutPutsRow.laid W) : GlobOk (memOf W) GL := by
  have h' : laidMet Tryz.prog Rows.sheetoutPutsRow.laid W := h
  have g0 := tab_fp (P := Tryz.prog) (name := "overspill/mvd.codes") (k := .i64) (zs := tbl0) (g := 0) (t := 107) (e := 3) (n := 33) (i := 0) (by kernel_rfl) (by kernel_rfl) (by kernel_rfl) (by kernel_rfl) (by kernel_rfl) (by kernel_rfl) (by kernel_rfl) (by kernel_rfl) h'
  have g1 := tab_fp (P := Tryz.prog) (name := "overspill/tcoef.codes") (k := .i64) (zs := tbl1) (g := 1) (t := 124) (e := 3) (n := 102) (i := 1) (by kernel_rfl) (by kernel_rfl) (by kernel_rfl) (by kernel_rfl) (by kernel_rfl) (by kernel_rfl) (by kernel_rfl) (by kernel_rfl) h'
  have g2 := tab_fp (P := Tryz.prog) (name := "overspill/tcoef.lengths") (k := .i64) (zs := tbl2) (g := 2) (t := 124) (e := 3) (n := 102) (i := 2) (by kernel_rfl) (by kernel_rfl) (by kernel_rfl) (by kernel_rfl) (by kernel_rfl) (by kernel_rfl) (by kernel_rfl) (by kernel_rfl) h'
  have g3 := tab_fp (P := Tryz.prog) (name := "strings.asciiSpace") (k := .u8) (zs := tbl3) (g := 3) (t := 128) (e := 5) (n := 256) (i := 4) (by kernel_rfl) (by kernel_rfl) (by kernel_rfl) (by kernel_rfl) (by kernel_rfl) (by kernel_rfl) (by kernel_rfl) (by kernel_rfl) h'
  intro μ n
  match n with
  | 0 => exact g0 μ
  | 1 => exact g1 μ
  | 2 => exact g2 μ
  | 3 => exact g3 μ
  | n + 4 => exact trivial

theorem contract (H : Type) (enc : TypeId × Value → H) (W : World) (base : Nat) (args : Array Value) (ds gs : List (DataW H)) (before : List MemPlace)
    (hval : ∀ (j : Nat) t v, Tryz.f3.params[j]? = some t → args[j]? = some v → Value.okWide Tryz.prog W .any base t v)
    (hW : DataW.Whole enc Tryz.prog Tryz.f3.params.toList Rows.sheetoutPutsSpec.vars false W args.toList ds gs before) (hL : laidMetH Tryz.prog Rows.sheetoutPutsRow.laid W) :
    Calls Tryz.prog 3 args W fun e W' => ∃ v, e = .returned v ∧ Rows.sheetoutPutsSpec.post enc Tryz.prog Tryz.f3 false true false false W args v W' := by
  have hW' := hW
  obtain ⟨p, q, hA0, hV, rfl, hfz, hnd⟩ := hW
  have hA : DataW.TrodAll enc Tryz.prog W 0 (fun _ => true) true Tryz.f3.params.toList args.toList ds p := hA0
  have hA : DataW.TrodAll enc Tryz.prog W 0 (fun _ => true) true [25, 9] args.toList ds p := hA
  obtain ⟨v0, vs0, d0, ds0, p0, q0, hargs, rfl, rfl, h0, r0⟩ := trodAll_cons hA
  obtain ⟨v1, vs1, d1, ds1, p1, q1, rfl, rfl, rfl, h1, r1⟩ := trodAll_cons r0
  obtain ⟨rfl, rfl, rfl⟩ := trodAll_nil r1
  obtain rfl : args = #[v0, v1] := by cases args; simp_all
  obtain ⟨rfl, rfl⟩ := trodVars_none hV
  obtain ⟨f0, e0⟩ := h0
  obtain ⟨f1, e1⟩ := h1
  obtain ⟨x0, a0, w0, k0⟩ := argT (d := 20) (τ := YSheet) (by kernel_rfl) (hval 0 25 v0 rfl rfl) e0
  obtain ⟨x1, a1, w1, k1⟩ := argT (d := 20) (τ := .str) (by kernel_rfl) (hval 1 9 v1 rfl rfl) e1
  obtain ⟨k, hk⟩ := plain_SheetoutPuts x0 x1 w0 w1
  have hr : z112_e k [.tv YSheet x0, .tv .str x1] [] (fun _ o _ => some o) = some [.tv .bool true] := by
    show (overspilllaw27_SheetoutPuts k x0 x1).bind (fun r => some [AV.tv .bool r]) = _
    rw [hk]; rfl
  refine (law_calls (z112_fu k) hr (glob hL) ⟨v0, _, rfl, a0, v1, _, rfl, a1, rfl⟩).mono ?_
  rintro e W' ⟨rfl, hg, hc⟩
  refine ⟨_, rfl, post_of_same (pa := p0 ++ (p1 ++ ([]))) (pv := []) hW' (fun _ _ _ => trodAll_cons_mk (shut_bool Tryz.underlying4 _) trodAll_mk0) (fun sp hsp => ?_) (fun _ _ => rfl) rfl (hg.frame _) hg.2.1 (ok_one (by kernel_rfl) rfl (okWide_bool_mk Tryz.underlying4 _))⟩
  exact trodAll_cons_mk ⟨f0, k0 W' sp hc fun p hp => hsp p (by simp [hp])⟩ (trodAll_cons_mk ⟨f1, k1 W' sp hc fun p hp => hsp p (by simp [hp])⟩ (trodAll_mk0))

theorem own : ownKnob Tryz.prog.godebug = none := by kernel_rfl
/-- A world for the witness: the tables hold what the program's text lays. -/
noncomputable def laidWorld (os : Os) : World :=
  let N := (World.settled Tryz.prog os).heap.size
  let w0 := World.holding Tryz.prog os ⟨#[.cells #[.int .u16 9, .int .u16 13, .int .u16 1, .int .u16 32, .int .u16 133, .int .u16 101, .int .u16 160, .int .u16 5760, .int .u16 5600, .int .u16 8192, .int .u16 8202, .int .u16 1, .int .u16 8232, .int .u16 8233, .int .u16 1, .int .u16 8239, .int .u16 8287, .int .u16 48, .int .u16 12288, .int .u16 12288, .int .u16 1] 144, .cells #[.slice (some ⟨N + 0, 0, none⟩) 7 7, .slice none 0 0, .int .i64 2] 141], #[], []⟩
  let put (h : Array Obj) (g : Nat) (cs : Array Value) : Array Obj := h.modify g fun
    | .cells _ t frozen => .cells cs t frozen
    | o => o
  let h0 := put (w0.heap) 0 #[.int .i64 1, .int .i64 1, .int .i64 1, .int .i64 1, .int .i64 3, .int .i64 5, .int .i64 4, .int .i64 3, .int .i64 11, .int .i64 10, .int .i64 9, .int .i64 17, .int .i64 16, .int .i64 15, .int .i64 14, .int .i64 13, .int .i64 12, .int .i64 11, .int .i64 10, .int .i64 9, .int .i64 8, .int .i64 7, .int .i64 6, .int .i64 5, .int .i64 4, .int .i64 7, .int .i64 6, .int .i64 5, .int .i64 4, .int .i64 3, .int .i64 2, .int .i64 3, .int .i64 2]
  let h1 := put (h0) 1 #[.int .i64 2, .int .i64 15, .int .i64 21, .int .i64 23, .int .i64 31, .int .i64 37, .int .i64 36, .int .i64 33, .int .i64 32, .int .i64 7, .int .i64 6, .int .i64 32, .int .i64 6, .int .i64 20, .int .i64 30, .int .i64 15, .int .i64 33, .int .i64 80, .int .i64 14, .int .i64 29, .int .i64 14, .int .i64 81, .int .i64 13, .int .i64 35, .int .i64 13, .int .i64 12, .int .i64 34, .int .i64 82, .int .i64 11, .int .i64 12, .int .i64 83, .int .i64 19, .int .i64 11, .int .i64 84, .int .i64 18, .int .i64 10, .int .i64 17, .int .i64 9, .int .i64 16, .int .i64 8, .int .i64 22, .int .i64 85, .int .i64 21, .int .i64 20, .int .i64 28, .int .i64 27, .int .i64 33, .int .i64 32, .int .i64 31, .int .i64 30, .int .i64 29, .int .i64 28, .int .i64 27, .int .i64 26, .int .i64 34, .int .i64 35, .int .i64 86, .int .i64 87, .int .i64 7, .int .i64 25, .int .i64 5, .int .i64 15, .int .i64 4, .int .i64 14, .int .i64 13, .int .i64 12, .int .i64 19, .int .i64 18, .int .i64 17, .int .i64 16, .int .i64 26, .int .i64 25, .int .i64 24, .int .i64 23, .int .i64 22, .int .i64 21, .int .i64 20, .int .i64 19, .int .i64 24, .int .i64 23, .int .i64 22, .int .i64 21, .int .i64 20, .int .i64 19, .int .i64 18, .int .i64 17, .int .i64 7, .int .i64 6, .int .i64 5, .int .i64 4, .int .i64 36, .int .i64 37, .int .i64 38, .int .i64 39, .int .i64 88, .int .i64 89, .int .i64 90, .int .i64 91, .int .i64 92, .int .i64 93, .int .i64 94, .int .i64 95]
  let h2 := put (h1) 2 #[.int .i64 2, .int .i64 4, .int .i64 6, .int .i64 7, .int .i64 8, .int .i64 9, .int .i64 9, .int .i64 10, .int .i64 10, .int .i64 11, .int .i64 11, .int .i64 11, .int .i64 3, .int .i64 6, .int .i64 8, .int .i64 10, .int .i64 11, .int .i64 12, .int .i64 4, .int .i64 8, .int .i64 10, .int .i64 12, .int .i64 5, .int .i64 9, .int .i64 10, .int .i64 5, .int .i64 9, .int .i64 12, .int .i64 5, .int .i64 10, .int .i64 12, .int .i64 6, .int .i64 10, .int .i64 12, .int .i64 6, .int .i64 10, .int .i64 6, .int .i64 10, .int .i64 6, .int .i64 10, .int .i64 7, .int .i64 12, .int .i64 7, .int .i64 7, .int .i64 8, .int .i64 8, .int .i64 9, .int .i64 9, .int .i64 9, .int .i64 9, .int .i64 9, .int .i64 9, .int .i64 9, .int .i64 9, .int .i64 11, .int .i64 11, .int .i64 12, .int .i64 12, .int .i64 4, .int .i64 9, .int .i64 11, .int .i64 6, .int .i64 11, .int .i64 6, .int .i64 6, .int .i64 6, .int .i64 7, .int .i64 7, .int .i64 7, .int .i64 7, .int .i64 8, .int .i64 8, .int .i64 8, .int .i64 8, .int .i64 8, .int .i64 8, .int .i64 8, .int .i64 8, .int .i64 9, .int .i64 9, .int .i64 9, .int .i64 9, .int .i64 9, .int .i64 9, .int .i64 9, .int .i64 9, .int .i64 10, .int .i64 10, .int .i64 10, .int .i64 10, .int .i64 11, .int .i64 11, .int .i64 11, .int .i64 11, .int .i64 12, .int .i64 12, .int .i64 12, .int .i64 12, .int .i64 12, .int .i64 12, .int .i64 12, .int .i64 12]
  let h3 := put (h2) 4 #[.pointer (some ⟨N + 1, 0, none⟩)]
  let h4 := put (h3) 3 #[.int .u8 0, .int .u8 0, .int .u8 0, .int .u8 0, .int .u8 0, .int .u8 0, .int .u8 0, .int .u8 0, .int .u8 0, .int .u8 1, .int .u8 1, .int .u8 1, .int .u8 1, .int .u8 1, .int .u8 0, .int .u8 0, .int .u8 0, .int .u8 0, .int .u8 0, .int .u8 0, .int .u8 0, .int .u8 0, .int .u8 0, .int .u8 0, .int .u8 0, .int .u8 0, .int .u8 0, .int .u8 0, .int .u8 0, .int .u8 0, .int .u8 0, .int .u8 0, .int .u8 1, .int .u8 0, .int .u8 0, .int .u8 0, .int .u8 0, .int .u8 0, .int .u8 0, .int .u8 0, .int .u8 0, .int .u8 0, .int .u8 0, .int .u8 0, .int .u8 0, .int .u8 0, .int .u8 0, .int .u8 0, .int .u8 0, .int .u8 0, .int .u8 0, .int .u8 0, .int .u8 0, .int .u8 0, .int .u8 0, .int .u8 0, .int .u8 0, .int .u8 0, .int .u8 0, .int .u8 0, .int .u8 0, .int .u8 0, .int .u8 0, .int .u8 0, .int .u8 0, .int .u8 0, .int .u8 0, .int .u8 0, .int .u8 0, .int .u8 0, .int .u8 0, .int .u8 0, .int .u8 0, .int .u8 0, .int .u8 0, .int .u8 0, .int .u8 0, .int .u8 0, .int .u8 0, .int .u8 0, .int .u8 0, .int .u8 0, .int .u8 0, .int .u8 0, .int .u8 0, .int .u8 0, .int .u8 0, .int .u8 0, .int .u8 0, .int .u8 0, .int .u8 0, .int .u8 0, .int .u8 0, .int .u8 0, .int .u8 0, .int .u8 0, .int .u8 0, .int .u8 0, .int .u8 0, .int .u8 0, .int .u8 0, .int .u8 0, .int .u8 0, .int .u8 0, .int .u8 0, .int .u8 0, .int .u8 0, .int .u8 0, .int .u8 0, .int .u8 0, .int .u8 0, .int .u8 0, .int .u8 0, .int .u8 0, .int .u8 0, .int .u8 0, .int .u8 0, .int .u8 0, .int .u8 0, .int .u8 0, .int .u8 0, .int .u8 0, .int .u8 0, .int .u8 0, .int .u8 0, .int .u8 0, .int .u8 0, .int .u8 0, .int .u8 0, .int .u8 0, .int .u8 0, .int .u8 0, .int .u8 0, .int .u8 0, .int .u8 0, .int .u8 0, .int .u8 0, .int .u8 0, .int .u8 0, .int .u8 0, .int .u8 0, .int .u8 0, .int .u8 0, .int .u8 0, .int .u8 0, .int .u8 0, .int .u8 0, .int .u8 0, .int .u8 0, .int .u8 0, .int .u8 0, .int .u8 0, .int .u8 0, .int .u8 0, .int .u8 0, .int .u8 0, .int .u8 0, .int .u8 0, .int .u8 0, .int .u8 0, .int .u8 0, .int .u8 0, .int .u8 0, .int .u8 0, .int .u8 0, .int .u8 0, .int .u8 0, .int .u8 0, .int .u8 0, .int .u8 0, .int .u8 0, .int .u8 0, .int .u8 0, .int .u8 0, .int .u8 0, .int .u8 0, .int .u8 0, .int .u8 0, .int .u8 0, .int .u8 0, .int .u8 0, .int .u8 0, .int .u8 0, .int .u8 0, .int .u8 0, .int .u8 0, .int .u8 0, .int .u8 0, .int .u8 0, .int .u8 0, .int .u8 0, .int .u8 0, .int .u8 0, .int .u8 0, .int .u8 0, .int .u8 0, .int .u8 0, .int .u8 0, .int .u8 0, .int .u8 0, .int .u8 0, .int .u8 0, .int .u8 0, .int .u8 0, .int .u8 0, .int .u8 0, .int .u8 0, .int .u8 0, .int .u8 0, .int .u8 0, .int .u8 0, .int .u8 0, .int .u8 0, .int .u8 0, .int .u8 0, .int .u8 0, .int .u8 0, .int .u8 0, .int .u8 0, .int .u8 0, .int .u8 0, .int .u8 0, .int .u8 0, .int .u8 0, .int .u8 0, .int .u8 0, .int .u8 0, .int .u8 0, .int .u8 0, .int .u8 0, .int .u8 0, .int .u8 0, .int .u8 0, .int .u8 0, .int .u8 0, .int .u8 0, .int .u8 0, .int .u8 0, .int .u8 0, .int .u8 0, .int .u8 0, .int .u8 0, .int .u8 0, .int .u8 0, .int .u8 0, .int .u8 0, .int .u8 0, .int .u8 0, .int .u8 0, .int .u8 0, .int .u8 0, .int .u8 0, .int .u8 0, .int .u8 0, .int .u8 0, .int .u8 0]
  { w0 with heap := h4 }
noncomputable abbrev N0 : Nat := (World.settled Tryz.prog default).heap.size
theorem piece0 (os : Os) (args : Array Value) : LaidIn Tryz.prog ((laidWorld os).forCall (fun _ _ => 0) ⟨#[], args, []⟩).memory [("overspill/mvd.codes", Rows.laid_overspill_mvd_codes)] [0] :=
  LaidIn.of_run [0] 10 (by kernel_rfl) (by kernel_rfl) (by kernel_rfl) (by kernel_rfl)
theorem piece1 (os : Os) (args : Array Value) : LaidIn Tryz.prog ((laidWorld os).forCall (fun _ _ => 0) ⟨#[], args, []⟩).memory [("overspill/tcoef.codes", Rows.laid_overspill_tcoef_codes)] [1] :=
  LaidIn.of_run [1] 10 (by kernel_rfl) (by kernel_rfl) (by kernel_rfl) (by kernel_rfl)
theorem piece2 (os : Os) (args : Array Value) : LaidIn Tryz.prog ((laidWorld os).forCall (fun _ _ => 0) ⟨#[], args, []⟩).memory [("overspill/tcoef.lengths", Rows.laid_overspill_tcoef_lengths)] [2] :=
  LaidIn.of_run [2] 10 (by kernel_rfl) (by kernel_rfl) (by kernel_rfl) (by kernel_rfl)
theorem piece3 (os : Os) (args : Array Value) : LaidIn Tryz.prog ((laidWorld os).forCall (fun _ _ => 0) ⟨#[], args, []⟩).memory [("unicode.White_Space", Rows.laid_unicode_White_Space)] [4, N0, N0 + 1] :=
  LaidIn.of_run [4, N0, N0 + 1] 10 (by kernel_rfl) (by kernel_rfl) (by kernel_rfl) (by kernel_rfl)
theorem piece4 (os : Os) (args : Array Value) : LaidIn Tryz.prog ((laidWorld os).forCall (fun _ _ => 0) ⟨#[], args, []⟩).memory [("strings.asciiSpace", Rows.laid_strings_asciiSpace)] [3] :=
  LaidIn.of_run [3] 10 (by kernel_rfl) (by kernel_rfl) (by kernel_rfl) (by kernel_rfl)
theorem laid_met (os : Os) (args : Array Value) : laidMet Tryz.prog Rows.sheetoutPutsRow.laid ((laidWorld os).forCall (fun _ _ => 0) ⟨#[], args, []⟩).memory :=
  (((((((((piece0 os args).append (piece1 os args) (by kernel_rfl))).append (piece2 os args) (by kernel_rfl))).append (piece3 os args) (by kernel_rfl))).append (piece4 os args) (by kernel_rfl))).met
theorem witness_row (os : Os) {H : Type} (enc : TypeId × Value → H) :
    (OpenSpec.ofChange Rows.sheetoutPutsSpec).preRow enc Tryz.prog Tryz.f3 Rows.sheetoutPutsRow.domain false Rows.sheetoutPutsRow.laid ((laidWorld os).forCall (fun _ _ => 0) ⟨#[], #[.agg #[.int .i64 0, .int .i64 0, .int .i64 0, .bool false, .int .i64 0, .slice none 0 0, .slice none 0 0, .int .i64 0], .string ⟨#[]⟩], []⟩).memory #[.agg #[.int .i64 0, .int .i64 0, .int .i64 0, .bool false, .int .i64 0, .slice none 0 0, .slice none 0 0, .int .i64 0], .string ⟨#[]⟩] := by
  have hw : (DataW.whole enc Tryz.prog ((laidWorld os).forCall (fun _ _ => 0) ⟨#[], #[.agg #[.int .i64 0, .int .i64 0, .int .i64 0, .bool false, .int .i64 0, .slice none 0 0, .slice none 0 0, .int .i64 0], .string ⟨#[]⟩], []⟩).memory Tryz.f3.params.toList Rows.sheetoutPutsSpec.vars false (#[.agg #[.int .i64 0, .int .i64 0, .int .i64 0, .bool false, .int .i64 0, .slice none 0 0, .slice none 0 0, .int .i64 0], .string ⟨#[]⟩] : Array Value).toList 12).map (fun x => (x.1, x.2.1)) =
      some ([.agg [.lit (.int .i64 0), .lit (.int .i64 0), .lit (.int .i64 0), .lit (.bool false), .lit (.int .i64 0), .nil, .nil, .lit (.int .i64 0)], .lit (.string [])], []) := by kernel_rfl
  obtain ⟨⟨x1, x2, x3⟩, hx, hx1⟩ := Option.map_eq_some_iff.1 hw
  simp only [Prod.mk.injEq] at hx1
  obtain ⟨rfl, rfl⟩ := hx1
  exact OpenSpec.preRow_of_cond 12 hx (by kernel_rfl) (fun k hk => by cases hk) (by kernel_rfl) (laid_met os _)
theorem lifted (os : Os) (started : os.Started) (H : Type) (enc : TypeId × Value → H) (F : Stop.Interp) :
    ReturnsInHanded {} Tryz.checked os 3 .any ((OpenSpec.ofChange Rows.sheetoutPutsSpec).preRow enc Tryz.prog Tryz.f3 Rows.sheetoutPutsRow.domain false Rows.sheetoutPutsRow.laid) (((OpenSpec.ofChange Rows.sheetoutPutsSpec).at F).post enc Tryz.prog Tryz.f3 false true false false) := by
  refine returnsInHanded_of_row (C := Tryz.checked) (s := OpenSpec.ofChange Rows.sheetoutPutsSpec) own started (by kernel_rfl) Tryz.func3
    (witness_row_atRef (enc := enc) (C := Tryz.checked) false (laidWorld os) #[.agg #[.int .i64 0, .int .i64 0, .int .i64 0, .bool false, .int .i64 0, .slice none 0 0, .slice none 0 0, .int .i64 0], .string ⟨#[]⟩] rfl (by kernel_rfl) (by kernel_rfl) (by kernel_rfl) (witness_row os enc)) ?_
  intro W base args ds gs before hval hW _ _ _ hL _ _
  exact contract H enc W base args ds gs before hval hW hL
theorem said : Rows.SheetoutPutsSaid :=
  OpenClaim.holds_of_cond 3 Tryz.f3 rfl rfl rfl rfl rfl rfl rfl ⟨rfl, rfl, rfl, rfl, rfl⟩ rfl rfl rfl rfl rfl (by kernel_rfl) Tryz.func3 (by kernel_rfl)
    (of_decide_eq_true (by kernel_rfl)) (by unfold Func.isWrapper; first | (rw [if_pos (by decide +kernel)]; kernel_rfl) | (rw [if_neg (by decide +kernel)]; exact ⟨rfl, rfl⟩))
    (fun os started H enc _ F => by rw [OpenClaim.pre_eq_preRow]; exact lifted os started H enc F)
theorem noStandIn (f : FuncId) (fn : Func) (hf : Tryz.pinned.checked.prog.funcNamed "overspill/overspilllaw27.SheetoutPuts" = some f) (hfn : Tryz.pinned.checked.prog.funcs[f]? = some fn) :
    false = Tryz.pinned.checked.prog.looks [] ∧ ∀ (j : Nat) t, fn.params[j]? = some t → Tryz.pinned.checked.prog.wantsStandIn t = false := by
  obtain rfl : f = 3 := Option.some.inj ((show Tryz.prog.funcNamed "overspill/overspilllaw27.SheetoutPuts" = some 3 by kernel_rfl).symm.trans hf) |>.symm
  obtain rfl : fn = Tryz.f3 := (Option.some.inj (Tryz.func3.symm.trans hfn)).symm
  refine ⟨by kernel_rfl, fun j t ht => ?_⟩
  rw [Tryz.params3] at ht
  have hm := Array.mem_of_getElem? ht
  simp only [List.mem_toArray, List.mem_cons, List.not_mem_nil, or_false] at hm
  rcases hm with rfl | rfl
  · exact (show Tryz.prog.wantsStandIn 25 = false by kernel_rfl)
  · exact (show Tryz.prog.wantsStandIn 9 = false by kernel_rfl)
theorem card : Rows.SheetoutPutsCardSaid :=
  Claim7.holds_tied_plain_at .later [] _ _ _ _ said (fun _ h => by cases h) (by kernel_rfl) (fun _ h => by cases h) sheetoutPuts_row_tie rfl ⟨rfl, rfl⟩ (by kernel_rfl) rfl noStandIn (by kernel_rfl)
#print axioms card
end Go.Proofs.YtlmajdbchmnhdaaGreatDoor.sheetoutPuts
