/-
  From the typed functions' equations to what is told of the machine.
-/
import Derived.Test.YtlemoepklgfjoaaDoorA28
namespace Go.Av

structure Ent where
  e : UEntry

def tabE : List (Nat × Ent) → Nat → Ent
  | [], _ => ⟨nilU⟩
  | (k, e) :: r, f => bif Nat.beq k f then e else tabE r f

def orcT (t : List (Nat × Ent)) : Orc := fun f => fnE (tabE t f).e
def uorT (t : List (Nat × Ent)) : Nat → UEntry := fun u => (tabE t u).e

section
variable {P : Program} {G : Nat → AV} {orc : Orc} {uorc : Nat → UEntry}

structure TabOK (P : Program) (G : Nat → AV) (t : List (Nat × Ent)) : Prop where
  fu : ∀ f, FU P G f (tabE t f).e
  nat : ∀ f, UNat (tabE t f).e

theorem FU_nil {f : FuncId} : FU P G f nilU := fun h => by cases h

theorem TabOK.nil : TabOK P G [] := ⟨fun _ => FU_nil, fun _ => nilU_nat⟩

theorem TabOK.cons {f : FuncId} {e : UEntry} {t : List (Nat × Ent)} (h : TabOK P G t) (h1 : FU P G f e) (h2 : UNat e) : TabOK P G ((f, ⟨e⟩) :: t) := by
  constructor
  · intro g
    simp only [tabE]
    cases hq : Nat.beq f g with
    | true => rw [← Nat.eq_of_beq_eq_true hq]; exact h1
    | false => exact h.fu g
  · intro g
    simp only [tabE]
    cases hq : Nat.beq f g with
    | true => exact h2
    | false => exact h.nat g

theorem TabOK.oo {t : List (Nat × Ent)} (h : TabOK P G t) : OrcOK P G (orcT t) := ⟨fun f => FnOK_of (h.fu f), fun f => fnE_nat (h.nat f)⟩

def noU : AC → Bool
  | .seq a b => noU a && noU b
  | .cond _ a b => noU a && noU b
  | .block _ a => noU a
  | .scope a => noU a
  | .unit _ _ _ _ => false
  | _ => true

theorem AllU.no : ∀ {c : AC}, noU c = true → AllU P G uorc c
  | .seq a b, h => by simp only [noU, Bool.and_eq_true] at h; exact ⟨AllU.no h.1, AllU.no h.2⟩
  | .cond _ a b, h => by simp only [noU, Bool.and_eq_true] at h; exact ⟨AllU.no h.1, AllU.no h.2⟩
  | .block _ a, h => by simp only [noU] at h; exact AllU.no (c := a) h
  | .scope a, h => by simp only [noU] at h; exact AllU.no (c := a) h
  | .unit _ _ _ _, h => by cases h
  | .skip, _ | .ret, _ | .label, _ | .bad, _ | .exit _, _ | .region _, _ | .draw _, _ => trivial
theorem AllU.seq {a b : AC} (h1 : AllU P G uorc a) (h2 : AllU P G uorc b) : AllU P G uorc (.seq a b) := ⟨h1, h2⟩
theorem AllU.cond {c : Opd} {a b : AC} (h1 : AllU P G uorc a) (h2 : AllU P G uorc b) : AllU P G uorc (.cond c a b) := ⟨h1, h2⟩
theorem AllU.unit {u : Nat} {ud : UDef} {l : Bool} {body : AC} (h : UOK P G (uorc u) ud l body) : AllU P G uorc (.unit u ud l body) := h
theorem AllU.scope {a : AC} (h1 : AllU P G uorc a) : AllU P G uorc (.scope a) := h1
theorem AllU.block {i : Nat} {a : AC} (h1 : AllU P G uorc a) : AllU P G uorc (.block i a) := h1

def UTab (t : List (Nat × Ent)) : Prop := ∀ u, UNat (tabE t u).e
theorem UTab.nil : UTab [] := fun _ => nilU_nat
theorem UTab.cons {u : Nat} {e : UEntry} {t : List (Nat × Ent)} (h : UTab t) (h2 : UNat e) : UTab ((u, ⟨e⟩) :: t) := by
  intro g
  simp only [tabE]
  cases hq : Nat.beq u g with
  | true => exact h2
  | false => exact h g

theorem evU_nat (ho : ∀ f, Natural (orc f)) (hu : ∀ u, UNat (uorc u)) (ud : UDef) (body : AC) : UNat fun args blks K => evU G orc uorc ud body args blks K := by
  intro R args blks K
  show evU G orc uorc ud body args blks K = (evU G orc uorc ud body args blks _).bind _
  unfold evU
  rw [evC_nat ho hu, evC_nat ho hu body _ fun x S => exitU G ud.outs (nBox blks) x S fun x o b => some (x, o, b), Option.bind_assoc]
  congr 1
  funext p
  exact exitU_nat _ _ _ _ _

theorem evL_nat (ho : ∀ f, Natural (orc f)) (hu : ∀ u, UNat (uorc u)) (ud : UDef) (body : AC) {E : UEntry} (hE : UNat E) : UNat fun args blks K => evL G orc uorc ud body E args blks K := by
  intro R args blks K
  show evL G orc uorc ud body E args blks K = (evL G orc uorc ud body E args blks _).bind _
  unfold evL
  refine (evC_nat ho hu body _ _).trans ?_
  refine Eq.trans ?_ (congrArg (fun z : Option (AExit × List AV × List Blk) => Option.bind z fun p => K p.1 p.2.1 p.2.2) (evC_nat ho hu body _ _)).symm
  rw [Option.bind_assoc]
  congr 1
  funext p
  obtain ⟨x, S⟩ := p
  cases x with
  | normal =>
    dsimp only
    split
    · rw [exportK_nat, exportK_nat _ _ _ fun as' blks' => bif Nat.ble (nBox blks) (nBox blks') then E as' blks' (fun x o b => some (x, o, b)) else none, Option.bind_assoc]
      congr 1
      funext q
      exact cond_nat (hE _ _ _) rfl
    · rfl
  | exit i => exact exitU_nat _ _ _ _ _
  | ret => exact exitU_nat _ _ _ _ _

theorem evF_nat (ho : ∀ f, Natural (orc f)) (hu : ∀ u, UNat (uorc u)) (fd : FDef) : UNat fun args blks K => evF G orc uorc fd args blks K := by
  intro R args blks K
  show evF G orc uorc fd args blks K = (evF G orc uorc fd args blks _).bind _
  unfold evF
  refine cond_nat ?_ rfl
  refine (evC_nat ho hu fd.body _ _).trans ?_
  refine Eq.trans ?_ (congrArg (fun z : Option (AExit × List AV × List Blk) => Option.bind z fun p => K p.1 p.2.1 p.2.2) (evC_nat ho hu fd.body _ _)).symm
  rw [Option.bind_assoc]
  congr 1
  funext p
  obtain ⟨x, S⟩ := p
  have key : ∀ o : Option (List AV × Hp), (match o with
      | some (as, d) => exportK (nBox blks) [resOut as] (d ++ S.H) (K .ret)
      | none => none) = (match o with
      | some (as, d) => exportK (nBox blks) [resOut as] (d ++ S.H) (fun o b => some (AExit.ret, o, b))
      | none => none).bind fun p => K p.1 p.2.1 p.2.2 := by
    intro o
    split
    · rw [exportK_nat, exportK_nat _ _ _ fun o b => some (AExit.ret, o, b), Option.bind_assoc]; rfl
    · rfl
  cases x with
  | normal => exact key _
  | exit i => rfl
  | ret => exact key _

theorem typed_run {E : UEntry} (hE : UNat E) {args : List AV} {blks : List Blk} {xs : List XPat} {t : Option (XD xs)} (ht : E args blks (xof xs) = t) {R : Type} {K : AExit → List AV → List Blk → Option R} {r : R} (h : (t.bind fun d => xout xs d K) = some r) : E args blks K = some r := by
  cases t with
  | none => cases h
  | some d =>
    have e1 : ((E args blks fun x o b => some (x, o, b)).bind fun p => xof xs p.1 p.2.1 p.2.2) = some d := (hE args blks (xof xs)).symm.trans ht
    have e2 : E args blks K = (E args blks fun x o b => some (x, o, b)).bind fun p => K p.1 p.2.1 p.2.2 := hE args blks K
    rw [e2]
    cases hp : E args blks fun x o b => some (x, o, b) with
    | none => rw [hp] at e1; cases e1
    | some p =>
      rw [hp] at e1
      simp only [Option.bind_some] at e1 h ⊢
      rw [← xof_out (K := K) e1]
      exact h

theorem mkU_run {pat : XPat} {xs : List XPat} {t : pat.D → Option (XD xs)} {E E' : UEntry} (hE : UNat E) (heq : ∀ d, E (pat.vals d) (pat.blks d) (xof xs) = t d) {R : Type} {args : List AV} {blks : List Blk} {K : AExit → List AV → List Blk → Option R} {r : R} (h : mkU pat xs t E' args blks K = some r) : E args blks K = some r ∨ E' args blks K = some r := by
  simp only [mkU] at h
  split at h
  · rename_i d hd
    obtain ⟨rfl, rfl⟩ := XPat.of_mk hd
    exact .inl (typed_run hE (heq d) h)
  · exact .inr h

theorem unit_typed (hmo : P.follows .mixedOrders = true) (ho : OrcOK P G orc) (hu : ∀ u, UNat (uorc u)) {ud : UDef} {body : AC} (ha : AllU P G uorc body) {pat : XPat} {xs : List XPat} {t : pat.D → Option (XD xs)}
    (heq : ∀ d, evU G orc uorc ud body (pat.vals d) (pat.blks d) (xof xs) = t d) : UOK P G (mkU pat xs t nilU) ud false body :=
  ⟨unit_ok hmo ho ha fun args blks K r h => (mkU_run (E := fun args blks K => evU G orc uorc ud body args blks K) (evU_nat ho.nat hu ud body) heq h).resolve_right (fun h => by cases h)⟩

theorem loop_typed (hmo : P.follows .mixedOrders = true) (ho : OrcOK P G orc) (hu : ∀ u, UNat (uorc u)) {ud : UDef} {body : AC} (ha : AllU P G uorc body) {pat : XPat} {xs : List XPat} {t : Nat → pat.D → Option (XD xs)}
    (h0 : ∀ d, t 0 d = none) (heq : ∀ n d, evL G orc uorc ud body (mkU pat xs (t n) nilU) (pat.vals d) (pat.blks d) (xof xs) = t (n + 1) d) (n : Nat) : UOK P G (mkU pat xs (t n) nilU) ud true body := by
  refine ⟨loop_ok (E := fun n => mkU pat xs (t n) nilU) hmo ho ha ?_ ?_ n⟩
  · intro R args blks K r h
    simp only [mkU] at h
    split at h
    · rw [h0] at h; cases h
    · cases h
  · intro n R args blks K r h
    exact (mkU_run (E := fun args blks K => evL G orc uorc ud body (mkU pat xs (t n) nilU) args blks K) (evL_nat ho.nat hu ud body (mkU_nat nilU_nat)) (heq n) h).resolve_right (fun h => by cases h)

theorem fn_typed (hmo : P.follows .mixedOrders = true) (ho : OrcOK P G orc) (hu : ∀ u, UNat (uorc u)) {fd : FDef} (ha : AllU P G uorc fd.body) {f : FuncId} {fn : Func} (hf : P.funcs[f]? = some fn) (hm : mfn P fd fn = true) {pat : XPat} {xs : List XPat} {t : pat.D → Option (XD xs)}
    (heq : ∀ d, evF G orc uorc fd (pat.vals d) (pat.blks d) (xof xs) = t d) {E' : UEntry} (hE' : FU P G f E') : FU P G f (mkU pat xs t E') := by
  intro R args blks K r h
  rcases mkU_run (E := fun args blks K => evF G orc uorc fd args blks K) (evF_nat ho.nat hu fd) heq h with h1 | h1
  · exact fd_ok hmo ho ha hf hm h1
  · exact hE' h1

/-- A function of a slice, taken in two forms: the slice is nil, or is not. -/
theorem FU_slice {f : FuncId} {e : Ty} {xs : List XPat} {t1 t2 : List e.T → Option (XD xs)} (h1 : FU P G f (mkU ⟨.normal, [.sln true e], []⟩ xs t1 nilU)) (h2 : FU P G f (mkU ⟨.normal, [.sln false e], []⟩ xs t2 nilU)) (h : t1 [] = t2 []) {E' : UEntry} (hE' : FU P G f E') :
    FU P G f (mkU ⟨.normal, [.tv (.sl e)], []⟩ xs t2 E') := by
  intro R args blks K r hr
  simp only [mkU] at hr
  split at hr
  case h_2 => exact hE' hr
  rename_i d hd
  obtain ⟨rfl, rfl⟩ := XPat.of_mk hd
  have e2 : mkU ⟨.normal, [.sln false e], []⟩ xs t2 nilU [.sln false e d] [] K = some r := by
    have : XPat.of ⟨.normal, [.sln false e], []⟩ [.sln false e d] [] = some d := by simp [XPat.of, lof, APat.of]
    simp only [mkU, this]
    exact hr
  obtain ⟨p1, p2⟩ := h2 e2
  refine ⟨p1, ?_⟩
  intro c M μ w vs q1 q2 q3 q4 q5 q6
  obtain ⟨v, vr, rfl, a1, a2⟩ := q5
  simp only [AVs] at a2
  subst a2
  have a1 : AVV M μ (.tv (.sl e) d) v := a1
  rw [AVV_tv] at a1
  obtain ⟨cs, ht, hv⟩ := a1
  have ht' := ht
  obtain ⟨ad, cap, rfl, es, hrow, hmem, hcap⟩ := ht'
  cases ad with
  | some ad =>
    exact p2 q1 q2 q3 q4 ⟨v, [], rfl, ⟨_, ⟨ht, some ad, _, _, rfl, rfl⟩, hv⟩, rfl⟩ q6
  | none =>
    have hd0 : d = [] := by
      rcases hmem with h | ⟨b, o, h, _⟩
      · exact h
      · cases h
    subst hd0
    have e1 : mkU ⟨.normal, [.sln true e], []⟩ xs t1 nilU [.sln true e []] [] K = some r := by
      have : XPat.of ⟨.normal, [.sln true e], []⟩ [.sln true e []] [] = some [] := by simp [XPat.of, lof, APat.of]
      simp only [mkU, this, h]
      exact hr
    exact (h1 e1).2 q1 q2 q3 q4 ⟨v, [], rfl, ⟨_, ⟨ht, none, _, _, rfl, rfl⟩, hv⟩, rfl⟩ q6
end
end Go.Av
