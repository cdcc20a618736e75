/-
  Code: its abstract run, and that the run is the machine's.
-/
import Derived.Test.YtlemoepklgfjoaaDoorA25
namespace Go.Av

structure UDef where
  ins : List (Nat × Option Ty)
  kills : List Nat
  outs : List (AExit × List (Nat × Option Ty))
  fz : List Nat

/-- Rows become still. -/
def frzAll : List Nat → Hp → Hp
  | [], _ => []
  | i :: r, H => (match hget H i with
    | some (.row e xs _) => (i, some (.row e xs true)) :: frzAll r H
    | _ => frzAll r H)

def atAll : List Nat → List Nat → List Nat
  | [], _ => []
  | j :: r, ids => (match ids[j]? with
    | some i => i :: atAll r ids
    | none => atAll r ids)

def fzH (ps ids : List Nat) (H : Hp) : Hp := frzAll (atAll ps ids) H ++ H

inductive AC where
  | skip | ret | label | bad
  | exit (id : Nat)
  | seq (a b : AC)
  | cond (c : Opd) (a b : AC)
  | block (id : Nat) (a : AC)
  | scope (a : AC)
  | region (its : List AItem)
  | draw (its : List AItem)
  | unit (u : Nat) (ud : UDef) (loop : Bool) (body : AC)

def outsOf : List (AExit × List (Nat × Option Ty)) → AExit → Option (List (Nat × Option Ty))
  | [], _ => none
  | (y, l) :: r, x => bif y.eq x then some l else outsOf r x

def slotsOf : List (Nat × Option Ty) → List Nat
  | [] => []
  | (s, _) :: r => s :: slotsOf r

def asOpd : List (Nat × Option Ty) → List (Opd × Option Ty)
  | [] => []
  | (s, f) :: r => (.t s, f) :: asOpd r

def zipO : List Nat → List AV → List (Nat × AV)
  | s :: r, a :: r' => (s, a) :: zipO r r'
  | _, _ => []

def dropKs (ks : List Nat) : List (Nat × AV) → List (Nat × AV)
  | [] => []
  | (s, a) :: r => bif memB s ks then dropKs ks r else (s, a) :: dropKs ks r

section
variable {R : Type}

def exitU (G : Nat → AV) (outs : List (AExit × List (Nat × Option Ty))) (nb : Nat) (x : AExit) (S : St) (K : AExit → List AV → List Blk → Option R) : Option R :=
  match outsOf outs x with
  | some l => (match evArgs G S (asOpd l) S.H with
    | some (as, d) => exportK nb as (d ++ S.H) (K x)
    | none => none)
  | none => none

def aunit (E : UEntry) (ud : UDef) (as : List AV) (d : Hp) (S : St) (K : AExit → St → Option R) : Option R :=
  bif distinct (reach (refsOf as) (d ++ S.H)) then (match take (fun i => posOf i (reach (refsOf as) (d ++ S.H)) 0) (fzH ud.fz (reach (refsOf as) (d ++ S.H)) (d ++ S.H)) (reach (refsOf as) (d ++ S.H)) with
    | some blks => E (as.map (AV.ren fun i => posOf i (reach (refsOf as) (d ++ S.H)) 0)) blks fun x outs blks' => (match outsOf ud.outs x with
      | some l => K x ⟨zipO (slotsOf l) (outs.map (AV.ren (backTo (reach (refsOf as) (d ++ S.H)) (nBox blks) S.nid blks'.length))) ++ dropKs ud.kills S.env,
          enumR (backTo (reach (refsOf as) (d ++ S.H)) (nBox blks) S.nid blks'.length) 0 blks' ++ (gone (reach (refsOf as) (d ++ S.H)) ++ fzH ud.fz (reach (refsOf as) (d ++ S.H)) (d ++ S.H)), S.nid + blks'.length⟩
      | none => none)
    | none => none) else none

def evC (G : Nat → AV) (orc : Orc) (uorc : Nat → UEntry) : AC → St → (AExit → St → Option R) → Option R
  | .bad, _, _ => none
  | .skip, S, K => K .normal S
  | .label, S, K => K .normal S
  | .ret, S, K => K .ret S
  | .exit id, S, K => K (.exit id) S
  | .seq a b, S, K => evC G orc uorc a S fun x S' => (match x with
    | .normal => evC G orc uorc b S' K
    | .exit i => K (.exit i) S'
    | .ret => K .ret S')
  | .cond c a b, S, K => (match ev G S c with
    | .tv .bool v => bif v then evC G orc uorc a S K else evC G orc uorc b S K
    | _ => none)
  | .block id a, S, K => evC G orc uorc a S fun x S' => (match x with
    | .normal => K .normal S'
    | .exit i => bif Nat.beq i id then K .normal S' else K (.exit i) S'
    | .ret => K .ret S')
  | .scope a, S, K => evC G orc uorc a S K
  | .region its, S, K => evItems G orc its S fun S' => K .normal S'
  | .draw its, S, K => evDraw G orc its S its 0 S.nid [] fun S' => K .normal S'
  | .unit u ud _ _, S, K => (match evArgs G S (asOpd ud.ins) S.H with
    | some (as, d) => aunit (uorc u) ud as d S K
    | none => none)
end

def subL (a b : List Nat) : Bool := a.all fun i => memB i b

def mcode (P : Program) (N : Nat) : List Nat → AC → Code → Bool
  | _, .bad, _ => true
  | _, .skip, .skip => true
  | _, .ret, .ret => true
  | _, .label, .label _ => true
  | _, .exit i, .exit j => Nat.beq i j
  | ks, .seq a b, .seq x y => mcode P N ks a x && mcode P N ks b y
  | ks, .cond c a b, .cond o x y => mo c o && mcode P N ks a x && mcode P N ks b y
  | ks, .block i a, .block j x => Nat.beq i j && mcode P N ks a x
  | ks, .scope a, .scope x => mcode P N ks a x
  | ks, .region its, .region _ ops false => mitems P N ks ops its ops.toList
  | ks, .draw its, .region _ ops true => mdraw P N ks ops its 0 its ops.toList && distinct (dstsOf its)
  | ks, .unit _ ud true body, .loop c => subL ud.kills ks && mcode P N ud.kills body c
  | ks, .unit _ ud false body, c => subL ud.kills ks && mcode P N ud.kills body c
  | _, _, _ => false

def absX : Exit → Option AExit
  | .normal => some .normal
  | .exit i => some (.exit i)
  | .ret => some .ret
  | _ => none

/-! ### What is told does not hang on what is done with it -/
section
variable {R : Type} {G : Nat → AV} {orc : Orc} {uorc : Nat → UEntry}

theorem actK_nat2 {A : Type} (ho : ∀ f, Natural (orc f)) (act : AAct) (S : St) (nid : Nat) (F : AV → Upd → Option A) (K : A → Option R) : actK G orc act S nid (fun v u => (F v u).bind K) = (actK G orc act S nid F).bind K := by
  rw [actK_nat G ho act S nid fun v u => (F v u).bind K, actK_nat G ho act S nid F, Option.bind_assoc]

theorem evItems_nat (ho : ∀ f, Natural (orc f)) : ∀ (its : List AItem) (S : St) (K : St → Option R), evItems G orc its S K = (evItems G orc its S some).bind K
  | [], S, K => rfl
  | it :: its, S, K => by
    have ih := fun S => evItems_nat ho its S K
    simp only [evItems]
    split
    · simp only [ih]; exact actK_nat2 ho _ _ _ _ _
    · split
      · refine cond_nat ?_ (ih _)
        simp only [ih]; exact actK_nat2 ho _ _ _ _ _
      · exact ih _
      · rfl
    · split
      · exact ih _
      · refine cond_nat (ih _) ?_
        simp only [ih]; exact actK_nat2 ho _ _ _ _ _
      · rfl

theorem runD_nat {A : Type} {all : List AItem} {S0 : St} (ho : ∀ f, Natural (orc f)) (i : Nat) (it : AItem) (nid : Nat) (done : Done) (F : Rec → Option A) (K : A → Option R) : runD G orc all S0 i it nid done (fun d => (F d).bind K) = (runD G orc all S0 i it nid done F).bind K := by
  unfold runD
  rw [← actK_nat2 ho]
  congr 1
  funext v u
  exact cond_nat rfl rfl

theorem evDraw_nat {all : List AItem} {S0 : St} (ho : ∀ f, Natural (orc f)) : ∀ (its : List AItem) (i nid : Nat) (done : Done) (K : St → Option R), evDraw G orc all S0 its i nid done K = (evDraw G orc all S0 its i nid done some).bind K
  | [], _, _, _, K => rfl
  | it :: its, i, nid, done, K => by
    have ih := fun i nid done => evDraw_nat (all := all) (S0 := S0) ho its i nid done K
    simp only [evDraw]
    split
    · simp only [ih]; exact runD_nat ho _ _ _ _ _ _
    · split
      · split
        · refine cond_nat ?_ (ih _ _ _)
          simp only [ih]; exact runD_nat ho _ _ _ _ _ _
        · exact ih _ _ _
        · rfl
      · rfl
    · split
      · split
        · exact ih _ _ _
        · refine cond_nat (ih _ _ _) ?_
          simp only [ih]; exact runD_nat ho _ _ _ _ _ _
        · rfl
      · rfl

theorem aunit_nat {E : UEntry} (hE : UNat E) (ud : UDef) (as : List AV) (d : Hp) (S : St) (K : AExit → St → Option R) : aunit E ud as d S K = (aunit E ud as d S fun x S => some (x, S)).bind fun p => K p.1 p.2 := by
  unfold aunit
  refine cond_nat ?_ rfl
  split
  · refine (hE _ _ _).trans ?_
    refine Eq.trans ?_ (congrArg (fun z : Option (AExit × St) => Option.bind z fun p => K p.1 p.2) (hE _ _ _)).symm
    rw [Option.bind_assoc]
    congr 1
    funext p
    dsimp only
    split <;> rfl
  · rfl

theorem evC_nat (ho : ∀ f, Natural (orc f)) (hu : ∀ u, UNat (uorc u)) : ∀ (c : AC) {R : Type} (S : St) (K : AExit → St → Option R), evC G orc uorc c S K = (evC G orc uorc c S fun x S => some (x, S)).bind fun p => K p.1 p.2
  | .bad, _, _, _ | .skip, _, _, _ | .label, _, _, _ | .ret, _, _, _ | .exit _, _, _, _ => rfl
  | .seq a b, R, S, K => by
    simp only [evC]
    rw [evC_nat ho hu a, evC_nat ho hu a S fun x S' => (match x with
      | .normal => evC G orc uorc b S' fun x S => some (x, S)
      | .exit i => some (.exit i, S')
      | .ret => some (.ret, S')), Option.bind_assoc]
    congr 1
    funext p
    obtain ⟨x, S'⟩ := p
    cases x with
    | normal => exact evC_nat ho hu b S' K
    | exit i => rfl
    | ret => rfl
  | .cond c a b, R, S, K => by
    simp only [evC]
    split
    · exact cond_nat (evC_nat ho hu a S K) (evC_nat ho hu b S K)
    · rfl
  | .block id a, R, S, K => by
    simp only [evC]
    refine (evC_nat ho hu a _ _).trans ?_
    refine Eq.trans ?_ (congrArg (fun z : Option (AExit × St) => Option.bind z fun p => K p.1 p.2) (evC_nat ho hu a _ _)).symm
    rw [Option.bind_assoc]
    congr 1
    funext p
    obtain ⟨x, S'⟩ := p
    cases x with
    | normal => rfl
    | exit i => exact cond_nat rfl rfl
    | ret => rfl
  | .scope a, R, S, K => by
    simp only [evC]
    exact evC_nat ho hu a S K
  | .region its, R, S, K => by
    simp only [evC]
    rw [evItems_nat ho, evItems_nat ho its S fun S' => some (AExit.normal, S'), Option.bind_assoc]; rfl
  | .draw its, R, S, K => by
    simp only [evC]
    rw [evDraw_nat ho, evDraw_nat ho its 0 S.nid [] fun S' => some (AExit.normal, S'), Option.bind_assoc]; rfl
  | .unit u ud l body, R, S, K => by
    simp only [evC]
    split
    · exact aunit_nat (hu u) ud _ _ S K
    · rfl

theorem exitU_nat (outs : List (AExit × List (Nat × Option Ty))) (nb : Nat) (x : AExit) (S : St) (K : AExit → List AV → List Blk → Option R) : exitU G outs nb x S K = (exitU G outs nb x S fun x o b => some (x, o, b)).bind fun p => K p.1 p.2.1 p.2.2 := by
  unfold exitU
  split
  · split
    · rw [exportK_nat, exportK_nat _ _ _ fun o b => some (x, o, b), Option.bind_assoc]; rfl
    · rfl
  · rfl
end
end Go.Av
