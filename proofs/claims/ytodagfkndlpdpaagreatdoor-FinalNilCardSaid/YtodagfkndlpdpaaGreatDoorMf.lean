/- closed code; contracts from closed runs. -/
import Derived.Test.YtodagfkndlpdpaaGreatDoorMe
/- Drawn regions, closed. -/
namespace Go.Cl
noncomputable section

/-- An operation asks for its operands alone. -/
theorem cop_congr (X : Ctx) {T T' : PM Value} (s : CS) (o : Oper) (h : ∀ t, Operand.tmp t ∈ o.op.operands.toList → T.get t = T'.get t) : cop X T s o = cop X T' s o := by
  have E : ∀ x, x ∈ o.op.operands.toList → ev X T x = ev X T' x := by
    intro x hx
    cases x with
    | tmp t => exact h t hx
    | _ => rfl
  have ES : ∀ l : List Operand, (∀ x ∈ l, x ∈ o.op.operands.toList) → evs X T l = evs X T' l := by
    intro l
    induction l with
    | nil => intro _; rfl
    | cons x l ih => intro hl; simp only [evs]; rw [E x (hl x (by simp)), ih fun y hy => hl y (by simp [hy])]
  have EP : ∀ l : List (Nat × Operand), (∀ x ∈ l, x.2 ∈ o.op.operands.toList) → evp X T l = evp X T' l := by
    intro l
    induction l with
    | nil => intro _; rfl
    | cons x l ih => intro hl; obtain ⟨i, x⟩ := x; simp only [evp]; rw [E x (hl (i, x) (by simp)), ih fun y hy => hl y (by simp [hy])]
  have EO : ∀ x : Option Operand, (∀ y ∈ x, y ∈ o.op.operands.toList) → evo X T x = evo X T' x := by
    intro x hx
    cases x with
    | none => rfl
    | some y => simp only [evo]; rw [E y (hx y rfl)]
  obtain ⟨dst, op, type, pos, after, guard⟩ := o
  simp only at E ES EP EO
  cases op <;> simp only [cop] <;> try rfl
  case move x => rw [E x (by simp [Op.operands])]
  case assign x => rw [E x (by simp [Op.operands])]
  case pick c a b => simp only [oPick]; rw [E c (by simp [Op.operands]), E a (by simp [Op.operands]), E b (by simp [Op.operands])]
  case box e x => simp only [oBox]; rw [E x (by simp [Op.operands])]
  case build t ps => simp only [oBuild]; rw [EP ps.toList (fun x hx => by simp only [Op.operands, List.mem_map]; exact ⟨x, hx, rfl⟩)]
  case buildSlice t n ps => simp only [oBuildSlice]; rw [EP ps.toList (fun x hx => by simp only [Op.operands, List.mem_map]; exact ⟨x, hx, rfl⟩)]
  case insert t m k v => simp only [oMapUpdate]; rw [E m (by simp [Op.operands]), E k (by simp [Op.operands]), E v (by simp [Op.operands])]
  case mapUpdate t m k v => simp only [oMapUpdate]; rw [E m (by simp [Op.operands]), E k (by simp [Op.operands]), E v (by simp [Op.operands])]
  case load t a => simp only [oLoad]; rw [E a (by simp [Op.operands])]
  case store t a x => simp only [oStore]; rw [E a (by simp [Op.operands]), E x (by simp [Op.operands])]
  case nilCheck x => simp only [oNil]; rw [E x (by simp [Op.operands])]
  case binOp op t x y yt => simp only [oBin]; rw [E x (by simp [Op.operands]), E y (by simp [Op.operands])]
  case unOp op t x => simp only [oUn]; rw [E x (by simp [Op.operands])]
  case convert a b x => simp only [oConv]; rw [E x (by simp [Op.operands])]
  case makeInterface t x => simp only [oIface]; rw [E x (by simp [Op.operands])]
  case makeFunc fn fi ca => simp only [oFunc]; rw [ES fi.toList (fun x hx => by simp [Op.operands] at hx ⊢; exact .inl hx), ES ca.toList (fun x hx => by simp [Op.operands] at hx ⊢; exact .inr hx)]
  case makeMap t r => simp only [oMakeMap]; rw [EO r (fun y hy => by cases hy; simp [Op.operands])]
  case makeSlice t l c => simp only [oMakeSlice]; rw [E l (by simp [Op.operands]), E c (by simp [Op.operands])]
  case slice t x lo hi mx => simp only [oSlice]; rw [E x (by simp [Op.operands]), EO lo (fun y hy => by cases hy; simp [Op.operands]), EO hi (fun y hy => by cases hy; simp [Op.operands]), EO mx (fun y hy => by cases hy; simp [Op.operands])]
  case fieldAddr t x f => simp only [oFieldAddr]; rw [E x (by simp [Op.operands])]
  case field t x f => simp only [oField]; rw [E x (by simp [Op.operands])]
  case indexAddr t x y => simp only [oIndexAddr]; rw [E x (by simp [Op.operands]), E y (by simp [Op.operands])]
  case index t x y => simp only [oIndex]; rw [E x (by simp [Op.operands]), E y (by simp [Op.operands])]
  case lookup t x y ok => simp only [oLookup]; rw [E x (by simp [Op.operands]), E y (by simp [Op.operands])]
  case range t x => simp only [oRange]; rw [E x (by simp [Op.operands])]
  case next x b => simp only [oNext]; rw [E x (by simp [Op.operands])]
  case entry x => simp only [oEntry]; rw [E x (by simp [Op.operands])]
  case typeAssert x a b ok => simp only [oAssert]; rw [E x (by simp [Op.operands])]
  case extract x i => simp only [oExtract]; rw [E x (by simp [Op.operands])]
  case call c =>
    have hargs : ∀ x ∈ c.args.toList, x ∈ (Op.operands (.call c)).toList := fun x hx => by
      simp only [Op.operands, Call.operands, Array.toList_append, List.mem_append]; exact .inr hx
    simp only [oCall]
    rw [ES c.args.toList hargs]
    cases evs X T' c.args.toList with
    | none => rfl
    | some xs =>
      cases hc : c.callee with
      | value f =>
        have := E f (by simp [Op.operands, Call.operands, hc])
        simp only [this]
      | _ => rfl
  case defer c =>
    have hargs : ∀ x ∈ c.args.toList, x ∈ (Op.operands (.defer c)).toList := fun x hx => by
      simp only [Op.operands, Call.operands, Array.toList_append, List.mem_append]; exact .inr hx
    simp only [oDefer]
    rw [ES c.args.toList hargs]
    cases evs X T' c.args.toList with
    | none => rfl
    | some xs =>
      cases hc : c.callee with
      | value f =>
        have := E f (by simp [Op.operands, Call.operands, hc])
        simp only [this]
      | _ => rfl
theorem restr_mem (T : PM Value) : ∀ (l : List Tmp) (t : Tmp), t ∈ l → (restr T l).get t = T.get t
  | x :: l, t, ht => by
    simp only [restr]
    by_cases hx : t = x
    · subst hx
      cases h : T.get t with
      | some v => simp [PM.get_set]
      | none =>
        simp only
        cases h2 : (restr T l).get t with
        | none => rfl
        | some u =>
          have := (restr_get h2).2
          rw [h] at this; cases this
    · have ht' : t ∈ l := by
        rcases List.mem_cons.1 ht with h | h
        · exact absurd h hx
        · exact h
      have ih := restr_mem T l t ht'
      cases h : T.get x with
      | some v => simp only [PM.get_set]; rw [if_neg hx]; exact ih
      | none => exact ih
theorem cop_restr (X : Ctx) (T : PM Value) (s : CS) (ops : Array Oper) (o : Oper) : cop X (restr T (touchOf ops o)) s o = cop X T s o := by
  refine cop_congr X s o fun t ht => restr_mem T _ t ?_
  simp only [touchOf, List.mem_append, List.mem_filterMap]
  exact .inl ⟨.tmp t, ht, rfl⟩
theorem stepO_restr (X : Ctx) (R : Rec) (ro : Option Nat) (T : PM Value) (D : List DItem) (s : CS) (ops : Array Oper) (o : Oper) : stepO X R ro o (restr T (touchOf ops o)) D s = stepO X R ro o T D s := by
  unfold stepO; rw [cop_restr]
theorem wantedT_restr (T : PM Value) (ops : Array Oper) (o : Oper) : wantedT ops (restr T (touchOf ops o)) o = wantedT ops T o := by
  unfold wantedT
  cases hg : o.guard with
  | none => rfl
  | some jw =>
    obtain ⟨j, w⟩ := jw
    simp only
    cases ht : (ops[j]?).bind (·.dst) with
    | none => rfl
    | some t =>
      simp only
      rw [restr_mem T _ t (by simp [touchOf, hg, ht])]

/-- What a pure operation of a drawn region yields. -/
structure PVC where
  run : PM Value → Option Value
abbrev sE : CS := ⟨.nil, bigU, bigU + 1⟩
def PVOk (X : Ctx) (o : Oper) (c : PVC) : Prop := ∀ {T v}, c.run T = some v → (∃ h, cop X T sE o = some (.val v ⟨h, bigU, bigU + 1⟩)) ∨ cop X T sE o = some (.pcall v)
def pvOf (c : VC) : PVC := ⟨fun T => c.run T sE⟩
theorem pvOf_ok {X : Ctx} {o : Oper} {c : VC} (h : VCOk X o c) : PVOk X o (pvOf c) := fun hv => .inl ⟨.nil, h hv⟩
def pvGen (X : Ctx) (o : Oper) : PVC := ⟨fun T => match cop X T sE o with
  | some (.val v ⟨_, a, b⟩) => if a = bigU ∧ b = bigU + 1 then some v else none
  | some (.pcall v) => some v
  | _ => none⟩
theorem pvGen_ok (X : Ctx) (o : Oper) : PVOk X o (pvGen X o) := by
  intro T v h
  simp only [pvGen] at h
  split at h
  · rename_i u y a b hc
    split at h
    · rename_i hab
      obtain ⟨rfl, rfl⟩ := hab
      cases Option.some.inj h
      exact .inl ⟨y, hc⟩
    · cases h
  · rename_i u hc
    cases Option.some.inj h
    exact .inr hc
  · cases h
def pvCall (X : Ctx) (h : List Value → Option Value) (l : List Operand) : PVC := ⟨fun T => onSome none (fun xs => h xs) ((evsC X l).run T)⟩
theorem pvCall_ok (X : Ctx) {o : Oper} {c : Call} {g : FuncId} {fn : Func} {h : List Value → Option Value} (ho : o.op = .call c) (hc : c.callee = .value (.func g)) (he : X.ext g = none) (hf : X.fn g = some fn) (hp : X.pf g = some h) : PVOk X o (pvCall X h c.args.toList) := by
  intro T v hv
  obtain ⟨xs, h1, h2⟩ := onSome_some (show onSome none _ _ = some v from hv)
  rw [evsC_eq] at h1
  refine .inr ?_
  unfold cop; rw [ho]
  simp only [oCall, h1, hc, ev, oGo, he, hf, hp]
  simp [h2]
def pvCallO (X : Ctx) (o : Oper) (c : Call) : PVC := match c.callee with
  | .value (.func g) => (match X.ext g, X.fn g, X.pf g with
    | none, some _, some h => pvCall X h c.args.toList
    | _, _, _ => pvGen X o)
  | _ => pvGen X o
theorem pvCallO_ok (X : Ctx) {o : Oper} {c : Call} (ho : o.op = .call c) : PVOk X o (pvCallO X o c) := by
  unfold pvCallO
  split
  · rename_i g hg
    split
    · rename_i fn h h1 h2 h3
      exact pvCall_ok X ho hg h1 h2 h3
    · exact pvGen_ok X o
  · exact pvGen_ok X o
/-- Operations that only yield a value. -/
def compV (A : Alu) (X : Ctx) (o : Oper) : Option VC := match o.op with
  | .move x => some (moveV X x)
  | .assign x => some (moveV X x)
  | .pick c a b => some (pickV X c a b)
  | .load t a => some (loadV X t a)
  | .nilCheck x => some (nilCheckV X x)
  | .binOp op t x y _ => if isShift op then some (shiftV A X op t x y) else some (binV A X op t x y)
  | .unOp op _ x => some (unV A X op x)
  | .convert a b x => some (convV A X a b x)
  | .fieldAddr t x f => some (fieldAddrV X t x f)
  | .field t x f => some (fieldV X t x f)
  | .indexAddr t x ix => some (indexAddrV X t x ix)
  | .index t x ix => some (indexV X t x ix)
  | .extract t i => some (extractV X t i)
  | .build t ps => buildV X t ps
  | .call c => (match c.callee with
    | .builtin .len => some (lenV X c)
    | _ => none)
  | _ => none
theorem compV_ok (X : Ctx) (o : Oper) {c : VC} (h : compV .real X o = some c) : VCOk X o c := by
  unfold compV at h
  split at h <;> rename_i ho
  · cases Option.some.inj h; exact moveV_ok X (.inl ho)
  · cases Option.some.inj h; exact moveV_ok X (.inr ho)
  · cases Option.some.inj h; exact pickV_ok X ho
  · cases Option.some.inj h; exact loadV_ok X ho
  · cases Option.some.inj h; exact nilCheckV_ok X ho
  · split at h
    · rename_i op t x y yt hs
      cases Option.some.inj h
      refine shiftV_ok X ?_ ho
      cases op <;> first | exact .inl rfl | exact .inr rfl | cases hs
    · cases Option.some.inj h; exact binV_ok X ho
  · cases Option.some.inj h; exact unV_ok X ho
  · cases Option.some.inj h; exact convV_ok X ho
  · cases Option.some.inj h; exact fieldAddrV_ok X ho
  · cases Option.some.inj h; exact fieldV_ok X ho
  · cases Option.some.inj h; exact indexAddrV_ok X ho
  · cases Option.some.inj h; exact indexV_ok X ho
  · cases Option.some.inj h; exact extractV_ok X ho
  · exact buildV_ok X ho h
  · split at h
    · cases Option.some.inj h; exact lenV_ok X ho
    · cases h
  · cases h
def compP (A : Alu) (X : Ctx) (o : Oper) : PVC := match compV A X o with
  | some c => pvOf c
  | none => (match o.op with
    | .call c => pvCallO X o c
    | _ => pvGen X o)
theorem compP_ok (X : Ctx) (o : Oper) : PVOk X o (compP .real X o) := by
  unfold compP
  split
  · rename_i c hc; exact pvOf_ok (compV_ok X o hc)
  · split
    · rename_i c hc; exact pvCallO_ok X hc
    · exact pvGen_ok X o
def rvGen (X : Ctx) (o : Oper) : VC := ⟨fun T s => match cop X T s o with
  | some (.val v _) => some v
  | _ => none⟩
def compRd (A : Alu) (X : Ctx) (o : Oper) : VC := match compV A X o with
  | some c => c
  | none => rvGen X o
theorem compRd_ok (X : Ctx) (o : Oper) {T : PM Value} {s : CS} {v : Value} (h : (compRd .real X o).run T s = some v) : ∃ s1, cop X T s o = some (.val v s1) := by
  unfold compRd at h
  split at h
  · rename_i c hc; exact ⟨s, compV_ok X o hc h⟩
  · simp only [rvGen] at h
    split at h
    · rename_i u s1 hc
      cases Option.some.inj h
      exact ⟨s1, hc⟩
    · cases h

/-- A closed operation of a drawn region. -/
abbrev KD := DSt → CodeRes
structure DC where
  run : Rec → Option Nat → Nat → DSt → KD → CodeRes
structure SeeC where
  run : Nat → PM ORec → CS → CS
def seeC (vis : List (Nat × Nat)) : SeeC := match vis with
  | [] => ⟨fun _ _ s => s⟩
  | x :: l => ⟨fun n0 recs s => dSee n0 recs (x :: l) s⟩
theorem seeC_eq (vis : List (Nat × Nat)) (n0 : Nat) (recs : PM ORec) (s : CS) : (seeC vis).run n0 recs s = dSee n0 recs vis s := by cases vis <;> rfl
def yesC (A : Alu) (X : Ctx) (N : Nat) (ops : Array Oper) (p : PInfo) : DC := match p.kind with
  | .pure => ⟨fun _ _ _ g k => onSome none (fun v => k ⟨(dstC N p.o.dst).run v g.T, g.recs.set p.i ⟨v, restr g.T p.touch, none⟩, g.s, g.D, g.stg⟩) ((compP A X p.o).run g.T)⟩
  | .read => ⟨fun _ _ n0 g k => onSome none (fun v => k ⟨(dstC N p.o.dst).run v g.T, g.recs.set p.i ⟨v, restr g.T p.touch, none⟩, g.s, g.D, g.stg⟩) ((compRd A X p.o).run g.T ((seeC p.vis).run n0 g.recs g.s))⟩
  | .eff => ⟨fun R ro n0 g k => (compO A X p.o).run R ro g.T g.D ((seeC p.vis).run n0 g.recs g.s) (fun v D s => cond (Nat.ble s.up bigU) (k ⟨(dstC N p.o.dst).run v g.T, g.recs.set p.i ⟨v, restr g.T p.touch, none⟩, s, D, g.stg.set (p.q + 1) (s, D)⟩) none)⟩
  | _ => ⟨fun R ro n0 g k => onSome none k (dStep X R ro N ops n0 p g)⟩
def noC (X : Ctx) (N : Nat) (ops : Array Oper) (p : PInfo) : DC := match p.kind with
  | .pure => ⟨fun _ _ _ g k => k ⟨(dstC N p.o.dst).run undef g.T, g.recs.set p.i ⟨undef, restr g.T p.touch, none⟩, g.s, g.D, g.stg⟩⟩
  | .read => ⟨fun _ _ _ g k => k ⟨(dstC N p.o.dst).run undef g.T, g.recs.set p.i ⟨undef, restr g.T p.touch, none⟩, g.s, g.D, g.stg⟩⟩
  | .eff => ⟨fun _ _ n0 g k => k ⟨(dstC N p.o.dst).run undef g.T, g.recs.set p.i ⟨undef, restr g.T p.touch, none⟩, (seeC p.vis).run n0 g.recs g.s, g.D, g.stg.set (p.q + 1) ((seeC p.vis).run n0 g.recs g.s, g.D)⟩⟩
  | _ => ⟨fun R ro n0 g k => onSome none k (dStep X R ro N ops n0 p g)⟩
def stepDC (A : Alu) (X : Ctx) (N : Nat) (ops : Array Oper) (p : PInfo) : DC := match p.o.guard with
  | none => yesC A X N ops p
  | some (j, want) => ⟨fun R ro n0 g k => onSome none (fun b => @Bool.rec (fun _ => CodeRes) ((noC X N ops p).run R ro n0 g k) ((yesC A X N ops p).run R ro n0 g k) b) ((guardC ops j want).run g.T)⟩
section
variable {X : Ctx} {N : Nat} {ops : Array Oper} {p : PInfo}
theorem yesC_ok (hp : p.touch = touchOf ops p.o) {R ro n0 g k res} (hw : wantedT ops g.T p.o = some true) (h : (yesC .real X N ops p).run R ro n0 g k = some res) : ∃ g', dStep X R ro N ops n0 p g = some g' ∧ k g' = some res := by
  unfold yesC at h
  split at h
  · rename_i hk
    obtain ⟨v, h1, h2⟩ := onSome_some (show onSome none _ _ = some res from h)
    refine ⟨_, ?_, h2⟩
    simp only [dStep, hp, wantedT_restr, hw, hk]
    rw [cop_restr]
    rcases compP_ok X p.o h1 with ⟨y, hc⟩ | hc
    · rw [hc]; simp only [and_self, if_true]; rw [dstC_eq]; rfl
    · rw [hc]; simp only; rw [dstC_eq]; rfl
  · rename_i hk
    obtain ⟨v, h1, h2⟩ := onSome_some (show onSome none _ _ = some res from h)
    refine ⟨_, ?_, h2⟩
    simp only [dStep, hp, wantedT_restr, hw, hk]
    rw [cop_restr]
    rw [seeC_eq] at h1
    obtain ⟨s1, hc⟩ := compRd_ok X p.o h1
    rw [hc]; simp only; rw [dstC_eq]; rfl
  · rename_i hk
    obtain ⟨v, D, s, h1, h2⟩ := compO_ok X p.o (show (compO .real X p.o).run R ro g.T g.D _ _ = some res from h)
    obtain ⟨h3, h4⟩ := cond_k h2
    refine ⟨_, ?_, h4⟩
    simp only [dStep, hp, wantedT_restr, hw, hk]
    rw [stepO_restr, ← seeC_eq, h1]
    simp only
    rw [if_pos (Nat.le_of_ble_eq_true h3), dstC_eq]
    rfl
  · obtain ⟨g', h1, h2⟩ := onSome_some (show onSome none _ _ = some res from h)
    exact ⟨g', h1, h2⟩
theorem noC_ok (hp : p.touch = touchOf ops p.o) {R ro n0 g k res} (hw : wantedT ops g.T p.o = some false) (h : (noC X N ops p).run R ro n0 g k = some res) : ∃ g', dStep X R ro N ops n0 p g = some g' ∧ k g' = some res := by
  unfold noC at h
  split at h
  · rename_i hk
    refine ⟨_, ?_, h⟩
    simp only [dStep, hp, wantedT_restr, hw, hk]
    rw [dstC_eq]; rfl
  · rename_i hk
    refine ⟨_, ?_, h⟩
    simp only [dStep, hp, wantedT_restr, hw, hk]
    rw [dstC_eq]; rfl
  · rename_i hk
    refine ⟨_, ?_, h⟩
    simp only [dStep, hp, wantedT_restr, hw, hk]
    rw [dstC_eq, seeC_eq]; rfl
  · obtain ⟨g', h1, h2⟩ := onSome_some (show onSome none _ _ = some res from h)
    exact ⟨g', h1, h2⟩
theorem stepDC_ok (hp : p.touch = touchOf ops p.o) {R ro n0 g k res} (h : (stepDC .real X N ops p).run R ro n0 g k = some res) : ∃ g', dStep X R ro N ops n0 p g = some g' ∧ k g' = some res := by
  unfold stepDC at h
  split at h
  · rename_i hg
    exact yesC_ok hp (by simp [wantedT, hg]) h
  · rename_i j want hg
    obtain ⟨b, h1, h2⟩ := onSome_some (show onSome none _ _ = some res from h)
    have hw := guardC_ok hg h1
    cases b with
    | true => exact yesC_ok hp hw h2
    | false => exact noC_ok hp hw h2
end
def runDC (A : Alu) (X : Ctx) (N : Nat) (ops : Array Oper) : List PInfo → DC
  | [] => ⟨fun _ _ _ g k => k g⟩
  | p :: l => ⟨fun R ro n0 g k => (stepDC A X N ops p).run R ro n0 g (fun g => (runDC A X N ops l).run R ro n0 g k)⟩
theorem runDC_ok {X : Ctx} {N : Nat} {ops : Array Oper} : ∀ {l : List PInfo}, (∀ p ∈ l, p.touch = touchOf ops p.o) → ∀ {R ro n0 g k res}, (runDC .real X N ops l).run R ro n0 g k = some res → ∃ g', dRun X R ro N ops n0 l g = some g' ∧ k g' = some res
  | [], _, R, ro, n0, g, k, res, h => ⟨g, rfl, h⟩
  | p :: l, hl, R, ro, n0, g, k, res, h => by
    obtain ⟨g1, h1, h2⟩ := stepDC_ok (hl p (by simp)) (show (stepDC .real X N ops p).run R ro n0 g (fun g => (runDC .real X N ops l).run R ro n0 g k) = some res from h)
    obtain ⟨g2, h3, h4⟩ := runDC_ok (l := l) (fun q hq => hl q (by simp [hq])) h2
    exact ⟨g2, by simp only [dRun, h1, h3], h4⟩
/-- Those whose value is looked at again. -/
def winsOf (l : List PInfo) : List PInfo := l.filter fun p => !p.wins.isEmpty
theorem winsOf_ok {X : Ctx} {ops : Array Oper} {n0 : Nat} {recs : PM ORec} {stg : PM (CS × List DItem)} : ∀ {l : List PInfo}, dChk X ops n0 recs stg (winsOf l) = true → dChk X ops n0 recs stg l = true
  | [], _ => rfl
  | p :: l, h => by
    simp only [winsOf, List.filter_cons] at h
    cases hp : p.wins with
    | nil =>
      rw [hp] at h
      have h1 : dChk1 X ops n0 recs stg p = true := by simp [dChk1, hp]
      simp only [dChk, h1, if_true]
      exact winsOf_ok (by simpa [winsOf] using h)
    | cons x xs =>
      rw [hp] at h
      simp only [List.isEmpty_cons, Bool.not_false, if_true, dChk] at h
      split at h
      · rename_i h1
        simp only [dChk, h1, if_true]
        exact winsOf_ok h
      · cases h
structure KC where
  run : Nat → DSt → Bool
/-- A value looked at again. -/
structure WinC where
  run : Nat → PM ORec → PM (CS × List DItem) → PM Value → Value → Bool
def onSomeB {α : Type} (f : α → Bool) (o : Option α) : Bool := @Option.rec α (fun _ => Bool) false f o
theorem onSomeB_true {α : Type} {f : α → Bool} {o : Option α} (h : onSomeB f o = true) : ∃ a, o = some a ∧ f a = true := by
  cases o with
  | none => cases h
  | some a => exact ⟨a, rfl, h⟩
def winC (c : VC) : List (Nat × List (Nat × Nat)) → WinC
  | [] => ⟨fun _ _ _ _ _ => true⟩
  | (k, vis) :: l => ⟨fun n0 recs stg T v => onSomeB (fun q => @Prod.rec CS (List DItem) (fun _ => Bool) (fun s _ => onSomeB (fun v' => cond (veqF v' v) ((winC c l).run n0 recs stg T v) false) (c.run T ((seeC vis).run n0 recs s))) q) ((gC (path k)).run stg)⟩
theorem winC_ok {X : Ctx} {o : Oper} {n0 : Nat} {recs : PM ORec} {stg : PM (CS × List DItem)} {T : PM Value} {v : Value} : ∀ {l : List (Nat × List (Nat × Nat))}, (winC (compRd .real X o) l).run n0 recs stg T v = true → dWins X n0 recs stg T v o l = true
  | [], _ => rfl
  | (k, vis) :: l, h => by
    obtain ⟨⟨s, D⟩, h1, h2⟩ := onSomeB_true (show onSomeB _ ((gC (path k)).run stg) = true from h)
    obtain ⟨v', h3, h4⟩ := onSomeB_true h2
    rw [gC_get] at h1
    rw [seeC_eq] at h3
    obtain ⟨s1, hc⟩ := compRd_ok X o h3
    simp only [dWins, h1, hc]
    cases hv : veqF v' v with
    | false => rw [hv] at h4; cases h4
    | true =>
      rw [hv] at h4
      rw [if_pos rfl]
      exact winC_ok h4
def chk1C (A : Alu) (X : Ctx) (ops : Array Oper) (p : PInfo) : KC := match p.o.guard with
  | none => ⟨fun n0 g => onSomeB (fun rec => @ORec.rec (fun _ => Bool) (fun v T _ => (winC (compRd A X p.o) p.wins).run n0 g.recs g.stg T v) rec) ((gC (path p.i)).run g.recs)⟩
  | some (j, want) => ⟨fun n0 g => onSomeB (fun rec => @ORec.rec (fun _ => Bool) (fun v T _ => onSomeB (fun b => @Bool.rec (fun _ => Bool) true ((winC (compRd A X p.o) p.wins).run n0 g.recs g.stg T v) b) ((guardC ops j want).run T)) rec) ((gC (path p.i)).run g.recs)⟩
theorem chk1C_ok {X : Ctx} {ops : Array Oper} {p : PInfo} {n0 : Nat} {g : DSt} (h : (chk1C .real X ops p).run n0 g = true) : dChk1 X ops n0 g.recs g.stg p = true := by
  unfold chk1C at h
  unfold dChk1
  cases hw : p.wins with
  | nil => rfl
  | cons x xs =>
    simp only
    split at h
    · rename_i hg
      obtain ⟨⟨v, T, lw⟩, h1, h2⟩ := onSomeB_true (show onSomeB _ ((gC (path p.i)).run g.recs) = true from h)
      rw [gC_get] at h1
      have hwt : wantedT ops T p.o = some true := by simp [wantedT, hg]
      simp only [h1, hwt]
      rw [← hw]
      exact winC_ok h2
    · rename_i j want hg
      obtain ⟨⟨v, T, lw⟩, h1, h2⟩ := onSomeB_true (show onSomeB _ ((gC (path p.i)).run g.recs) = true from h)
      rw [gC_get] at h1
      obtain ⟨b, h3, h4⟩ := onSomeB_true h2
      have hwt := guardC_ok hg h3
      simp only [h1, hwt]
      cases b with
      | false => rfl
      | true =>
        simp only
        rw [← hw]
        exact winC_ok h4
def chkL (A : Alu) (X : Ctx) (ops : Array Oper) : List PInfo → KC
  | [] => ⟨fun _ _ => true⟩
  | p :: l => ⟨fun n0 g => cond ((chk1C A X ops p).run n0 g) ((chkL A X ops l).run n0 g) false⟩
theorem chkL_ok {X : Ctx} {ops : Array Oper} {n0 : Nat} {g : DSt} : ∀ {l : List PInfo}, (chkL .real X ops l).run n0 g = true → dChk X ops n0 g.recs g.stg l = true
  | [], _ => rfl
  | p :: l, h => by
    have h : cond ((chk1C .real X ops p).run n0 g) ((chkL .real X ops l).run n0 g) false = true := h
    cases hc : (chk1C .real X ops p).run n0 g with
    | false => rw [hc] at h; cases h
    | true =>
      rw [hc] at h
      simp only [dChk]
      rw [if_pos (chk1C_ok hc)]
      exact chkL_ok h
def chkC (A : Alu) (X : Ctx) (ops : Array Oper) (l : List PInfo) : KC := chkL A X ops (winsOf l)
theorem chkC_ok {X : Ctx} {ops : Array Oper} {l : List PInfo} {n0 : Nat} {g : DSt} (h : (chkC .real X ops l).run n0 g = true) : dChk X ops n0 g.recs g.stg l = true := winsOf_ok (chkL_ok h)
/-- A drawn region, closed. -/
def drawC (A : Alu) (X : Ctx) (N : Nat) (ops : Array Oper) : CC := match mkPlan (fun f => (X.pf f).isSome) ops with
  | none => ⟨fun _ _ _ _ _ _ => none⟩
  | some pl => ⟨fun R ro T D s k => @CS.rec (fun _ => CodeRes) (fun h _ up => cond (Nat.ble (Nat.succ (Nat.add up ops.size)) bigU)
      ((runDC A X N ops pl.infos).run R ro up ⟨T, .nil, ⟨h, Nat.add up ops.size, Nat.succ (Nat.add up ops.size)⟩, D, PM.nil.set 0 (⟨h, Nat.add up ops.size, Nat.succ (Nat.add up ops.size)⟩, D)⟩
        (fun g => cond ((chkC A X ops pl.infos).run up g) (k g.T g.D ((seeC pl.fin).run up g.recs g.s)) none)) none) s⟩
theorem drawC_ok {X : Ctx} {N : Nat} {ops : Array Oper} {R : Rec} {ro : Option Nat} {T : PM Value} {D : List DItem} {s : CS} {k : KN} {res : Exit × PM Value × List DItem × CS} (h : (drawC .real X N ops).run R ro T D s k = some res) :
    ∃ T' D' s', drawR X R ro N ops T D s = some (T', D', s') ∧ k T' D' s' = some res := by
  unfold drawC at h
  split at h
  · cases h
  · rename_i pl hpl
    obtain ⟨hh, nx, up⟩ := s
    obtain ⟨h1, h⟩ := cond_k (show cond _ _ none = some res from h)
    have h1 : up + ops.size + 1 ≤ bigU := Nat.le_of_ble_eq_true h1
    have htouch : ∀ p ∈ pl.infos, p.touch = touchOf ops p.o := by
      unfold mkPlan at hpl
      dsimp only at hpl
      split at hpl
      · simp only [Option.some.injEq] at hpl
        subst hpl
        intro p hp
        obtain ⟨i, _, rfl⟩ := List.mem_map.1 hp
        rfl
      · cases hpl
    obtain ⟨g, h2, h3⟩ := runDC_ok htouch h
    obtain ⟨h4, h5⟩ := cond_k h3
    refine ⟨_, _, _, ?_, h5⟩
    have h2 : dRun X R ro N ops up pl.infos ⟨T, .nil, ⟨hh, up + ops.size, up + ops.size + 1⟩, D, PM.nil.set 0 (⟨hh, up + ops.size, up + ops.size + 1⟩, D)⟩ = some g := h2
    simp only [drawR, hpl]
    rw [if_pos h1, h2]
    simp only
    rw [if_pos (chkC_ok h4), seeC_eq]
end
end Go.Cl

/- Closed code, closed functions; the evaluator in its second form, and its soundness. -/
namespace Go.Cl
noncomputable section
variable {P : Program}

def kn0 : KN := fun T D s => some (.normal, T, D, s)
def onExit {β : Type} (n : β) (ex : Nat → β) (o : β) (g : β) (e : Exit) : β := match e with
  | .normal => n
  | .exit id => ex id
  | .goto _ => g
  | _ => o
/-- What a piece of code has come to is taken apart. -/
def onRes (r : CodeRes) (f : Exit → PM Value → List DItem → CS → CodeRes) : CodeRes := onSome none (fun q => @Prod.rec Exit (PM Value × List DItem × CS) (fun _ => CodeRes) (fun e q => @Prod.rec (PM Value) (List DItem × CS) (fun _ => CodeRes) (fun T q => @Prod.rec (List DItem) CS (fun _ => CodeRes) (fun D s => f e T D s) q) q) q) r
theorem onRes_some {r : CodeRes} {f : Exit → PM Value → List DItem → CS → CodeRes} {res : Exit × PM Value × List DItem × CS} (h : onRes r f = some res) : ∃ e T D s, r = some (e, T, D, s) ∧ f e T D s = some res := by
  obtain ⟨⟨e, T, D, s⟩, h1, h2⟩ := onSome_some h
  exact ⟨e, T, D, s, h1, h2⟩
def blockK (id : Nat) (r : CodeRes) (k : KN) : CodeRes := onRes r fun e T D s => onExit (k T D s) (fun id' => cond (Nat.beq id' id) (k T D s) (some (e, T, D, s))) (some (e, T, D, s)) (some (e, T, D, s)) e
def scopeK (r : CodeRes) (k : KN) : CodeRes := onRes r fun e T D s => onExit (k T D s) (fun _ => some (e, T, D, s)) (some (e, T, D, s)) none e
def seqK (r : CodeRes) (k : KN) : CodeRes := onRes r fun e T D s => onExit (k T D s) (fun _ => some (e, T, D, s)) (some (e, T, D, s)) (some (e, T, D, s)) e
def loopK (b : CC) (R : Rec) (ro : Option Nat) (m : Nat) : KN := @Nat.rec (fun _ => KN) (fun _ _ _ => none) (fun _ ih T D s => b.run R ro T D s ih) m
def rfRun (X : Ctx) (N : Nat) (g : Operand) (ps : Array Tmp) (as bd : Code) (R : Rec) (ro : Option Nat) (T : PM Value) (D : List DItem) (s : CS) (k : KN) : CodeRes :=
  match ev X T g with
  | some (.func (.func f) fi ca) => (match X.fn f with
    | some _ =>
      (match rfBase ro D s with
      | some (d, D', s1) =>
        (match R.F f (fi.toList ++ [.func (.yield s1.nx) #[] #[]] ++ ca.toList) ⟨s1.h.set s1.nx (.loop .ready none T N ps.toList as bd d), s1.up, s1.up + 1⟩ with
        | some (_, s2) => (match s2.h.get s1.nx with
          | some (.loop st pend T0 N0 ps0 as0 bd0 d0) => (match st with
            | .busy => none
            | _ => (match pend with
              | none => k T D' ⟨s2.h.set s1.nx (.loop .exhausted pend T0 N0 ps0 as0 bd0 d0), s2.nx, s2.up⟩
              | some c => seqK (R.C ro N c T D' ⟨s2.h.set s1.nx (.loop .exhausted pend T0 N0 ps0 as0 bd0 d0), s2.nx, s2.up⟩) k))
          | _ => none)
        | none => none)
      | none => none)
    | none => none)
  | _ => none
def condC (X : Ctx) (c : Operand) (a b : CC) : CC := ⟨fun R ro T D s k => onSome none (fun v => onBool none (fun t => @Bool.rec (fun _ => CodeRes) (b.run R ro T D s k) (a.run R ro T D s k) t) v) ((evC X c).run T)⟩
/-- Code, closed. 'm': the rounds that a loop may take. -/
def compC (A : Alu) (X : Ctx) (m N : Nat) : Code → CC
  | .skip => ⟨fun _ _ T D s k => k T D s⟩
  | .label _ => ⟨fun _ _ T D s k => k T D s⟩
  | .exit id => ⟨fun _ _ T D s _ => some (.exit id, T, D, s)⟩
  | .goto l => ⟨fun _ _ T D s _ => some (.goto l, T, D, s)⟩
  | .ret => ⟨fun _ _ T D s _ => some (.ret, T, D, s)⟩
  | .seq a b => ⟨fun R ro T D s k => (compC A X m N a).run R ro T D s (fun T D s => (compC A X m N b).run R ro T D s k)⟩
  | .cond c a b => condC X c (compC A X m N a) (compC A X m N b)
  | .block id b => ⟨fun R ro T D s k => blockK id ((compC A X m N b).run R ro T D s kn0) k⟩
  | .loop b => ⟨fun R ro T D s _ => loopK (compC A X m N b) R ro m T D s⟩
  | .scope b => ⟨fun R ro T D s k => @Option.rec Nat (fun _ => CodeRes) (scopeK ((compC A X m N b).run R ro T D s kn0) k) (fun _ => none) ro⟩
  | .region _ ops draw => if draw then drawC A X N ops else compS A X N ops ops.toList
  | .rangeFunc g ps as bd => ⟨fun R ro T D s k => rfRun X N g ps as bd R ro T D s k⟩
  | .refuse _ => ⟨fun _ _ _ _ _ _ => none⟩

/-- Code ends so, wherever it is run. -/
def Ends (P : Program) (N : Nat) (c : Code) (ro : Option Nat) (T : PM Value) (D : List DItem) (s : CS) (e : Exit) (T' : PM Value) (D' : List DItem) (s' : CS) : Prop :=
  ∀ {r w ob a}, RO r ro ob → R P r s w → TR r T N a.tmps → DR r D a.defers → c.wpIn (fe ob) 0 P (CPost P r s w N e T' D' s') a w
def CCOk (P : Program) (E : Rec) (N : Nat) (c : Code) (cc : CC) : Prop := ∀ {ro T D s k res}, cc.run E ro T D s k = some res →
  (∃ T' D' s', Ends P N c ro T D s .normal T' D' s' ∧ k T' D' s' = some res) ∨ (res.1 ≠ .normal ∧ Ends P N c ro T D s res.1 res.2.1 res.2.2.1 res.2.2.2)
theorem seqK_some {r : CodeRes} {k : KN} {res : Exit × PM Value × List DItem × CS} (h : seqK r k = some res) : (∃ T D s, r = some (.normal, T, D, s) ∧ k T D s = some res) ∨ (res.1 ≠ .normal ∧ r = some res) := by
  obtain ⟨e, T, D, s, h1, h2⟩ := onRes_some h
  cases e <;> first
    | exact .inl ⟨T, D, s, h1, h2⟩
    | (have h3 : some _ = some res := h2
       cases Option.some.inj h3
       exact .inr ⟨by simp, h1⟩)
theorem scopeK_some {r : CodeRes} {k : KN} {res : Exit × PM Value × List DItem × CS} (h : scopeK r k = some res) : (∃ T D s, r = some (.normal, T, D, s) ∧ k T D s = some res) ∨ (res.1 ≠ .normal ∧ (∀ l, res.1 ≠ .goto l) ∧ r = some res) := by
  obtain ⟨e, T, D, s, h1, h2⟩ := onRes_some h
  cases e <;> first
    | exact .inl ⟨T, D, s, h1, h2⟩
    | (have h3 : some _ = some res := h2
       cases Option.some.inj h3
       exact .inr ⟨by simp, by simp, h1⟩)
    | (have h3 : none = some res := h2; cases h3)
theorem blockK_some {id : Nat} {r : CodeRes} {k : KN} {res : Exit × PM Value × List DItem × CS} (h : blockK id r k = some res) : (∃ T D s, (r = some (.normal, T, D, s) ∨ r = some (.exit id, T, D, s)) ∧ k T D s = some res) ∨ (res.1 ≠ .normal ∧ res.1 ≠ .exit id ∧ r = some res) := by
  obtain ⟨e, T, D, s, h1, h2⟩ := onRes_some h
  cases e with
  | normal => exact .inl ⟨T, D, s, .inl h1, h2⟩
  | exit id' =>
    have h2 : cond (Nat.beq id' id) (k T D s) (some (Exit.exit id', T, D, s)) = some res := h2
    cases hb : Nat.beq id' id with
    | true =>
      rw [hb] at h2
      cases Nat.eq_of_beq_eq_true hb
      exact .inl ⟨T, D, s, .inr h1, h2⟩
    | false =>
      rw [hb] at h2
      cases Option.some.inj (show some _ = some res from h2)
      refine .inr ⟨by simp, fun e => ?_, h1⟩
      cases e
      rw [Nat.beq_refl] at hb; cases hb
  | _ =>
    cases Option.some.inj (show some _ = some res from h2)
    exact .inr ⟨by simp, by simp, h1⟩

section
variable {X : Ctx} {m : Nat} {E : Rec}
theorem loop_rounds {N : Nat} {b : Code} {cb : CC} (hb : CCOk P E N b cb) {ro : Option Nat} : ∀ (n : Nat) {T D s res}, loopK cb E ro n T D s = some res →
    res.1 ≠ .normal ∧ ∀ {r w ob a}, RO r ro ob → R P r s w → TR r T N a.tmps → DR r D a.defers → Code.roundsIn (fe ob) 0 P b (CPost P r s w N res.1 res.2.1 res.2.2.1 res.2.2.2) n a w
  | 0, T, D, s, res, h => by cases h
  | n + 1, T, D, s, res, h => by
    have h : cb.run E ro T D s (loopK cb E ro n) = some res := h
    rcases hb h with ⟨T1, D1, s1, q1, q2⟩ | ⟨q0, q1⟩
    · obtain ⟨h0, ih⟩ := loop_rounds hb n q2
      refine ⟨h0, fun {r w ob a} hro hR hT hD => ?_⟩
      rw [roundsIn_succ]
      refine wpIn_mono (q1 hro hR hT hD) ?_
      rintro e2 a1 w1 ⟨rfl, r1, hR1, hT1, hD1, hS1⟩
      exact roundsIn_imp (fun _ _ _ q => q.trans hR hS1) n (ih (hro.mono hS1.mono) hR1 hT1 hD1)
    · refine ⟨q0, fun {r w ob a} hro hR hT hD => ?_⟩
      rw [roundsIn_succ]
      refine wpIn_mono (q1 hro hR hT hD) ?_
      intro e2 a1 w1 q
      have := q.1
      subst this
      exact exit_then (fun he => absurd he q0) (fun _ => q)
theorem compC_ok (hX : COk P X) (hE : RecOk P m E) (N : Nat) : ∀ c : Code, CCOk P E N c (compC .real X m N c) := by
  have here : ∀ {ro T D s} {e : Exit} {r w ob a}, RO r ro ob → R P r s w → TR r T N a.tmps → DR r D a.defers → CPost P r s w N e T D s e a w := fun hro hR hT hD => ⟨rfl, _, hR, hT, hD, Step.refl _ _ _⟩
  intro c
  induction c with
  | skip => intro ro T D s k res h; exact .inl ⟨T, D, s, fun hro hR hT hD => wpIn_skip (here hro hR hT hD), h⟩
  | label l => intro ro T D s k res h; exact .inl ⟨T, D, s, fun hro hR hT hD => wpIn_label (here hro hR hT hD), h⟩
  | exit id =>
    intro ro T D s k res h
    cases Option.some.inj (show some (Exit.exit id, T, D, s) = some res from h)
    exact .inr ⟨by simp, fun hro hR hT hD => wpIn_exit (here hro hR hT hD)⟩
  | goto l =>
    intro ro T D s k res h
    cases Option.some.inj (show some (Exit.goto l, T, D, s) = some res from h)
    exact .inr ⟨by simp, fun hro hR hT hD => wpIn_goto (here hro hR hT hD)⟩
  | ret =>
    intro ro T D s k res h
    cases Option.some.inj (show some (Exit.ret, T, D, s) = some res from h)
    exact .inr ⟨by simp, fun hro hR hT hD => wpIn_ret (here hro hR hT hD)⟩
  | refuse w => intro ro T D s k res h; cases h
  | seq a b iha ihb =>
    intro ro T D s k res h
    rcases iha (show (compC .real X m N a).run E ro T D s (fun T D s => (compC .real X m N b).run E ro T D s k) = some res from h) with ⟨T1, D1, s1, q1, q2⟩ | ⟨q0, q1⟩
    · have comb : ∀ {e T' D' s'}, Ends P N b ro T1 D1 s1 e T' D' s' → Ends P N (.seq a b) ro T D s e T' D' s' := by
        intro e T' D' s' q3 r w ob act hro hR hT hD
        refine wpIn_seq (wpIn_mono (q1 hro hR hT hD) ?_)
        rintro e1 a1 w1 ⟨rfl, r1, hR1, hT1, hD1, hS1⟩
        exact wpIn_mono (q3 (hro.mono hS1.mono) hR1 hT1 hD1) fun _ _ _ q => q.trans hR hS1
      rcases ihb q2 with ⟨T2, D2, s2, q3, q4⟩ | ⟨q0, q3⟩
      · exact .inl ⟨T2, D2, s2, comb q3, q4⟩
      · exact .inr ⟨q0, comb q3⟩
    · refine .inr ⟨q0, fun {r w ob act} hro hR hT hD => ?_⟩
      refine wpIn_seq (wpIn_mono (q1 hro hR hT hD) ?_)
      intro e2 a1 w1 q
      have := q.1
      subst this
      exact exit_then (fun he => absurd he q0) (fun _ => q)
  | cond c a b iha ihb =>
    intro ro T D s k res h
    obtain ⟨v, h1, h⟩ := onSome_some (show onSome none _ _ = some res from h)
    obtain ⟨t, rfl, h⟩ := onBool_some h
    rw [evC_eq] at h1
    cases t with
    | true =>
      have comb : ∀ {e T' D' s'}, Ends P N a ro T D s e T' D' s' → Ends P N (.cond c a b) ro T D s e T' D' s' := by
        intro e T' D' s' q3 r w ob act hro hR hT hD
        have := ev_ok hX hR hT h1
        exact wpIn_cond_true (by cases hv : act.eval c <;> rw [hv] at this <;> cases this; rfl) (q3 hro hR hT hD)
      rcases iha (show (compC .real X m N a).run E ro T D s k = some res from h) with ⟨T2, D2, s2, q3, q4⟩ | ⟨q0, q3⟩
      · exact .inl ⟨T2, D2, s2, comb q3, q4⟩
      · exact .inr ⟨q0, comb q3⟩
    | false =>
      have comb : ∀ {e T' D' s'}, Ends P N b ro T D s e T' D' s' → Ends P N (.cond c a b) ro T D s e T' D' s' := by
        intro e T' D' s' q3 r w ob act hro hR hT hD
        have := ev_ok hX hR hT h1
        exact wpIn_cond_false (by cases hv : act.eval c <;> rw [hv] at this <;> cases this; rfl) (q3 hro hR hT hD)
      rcases ihb (show (compC .real X m N b).run E ro T D s k = some res from h) with ⟨T2, D2, s2, q3, q4⟩ | ⟨q0, q3⟩
      · exact .inl ⟨T2, D2, s2, comb q3, q4⟩
      · exact .inr ⟨q0, comb q3⟩
  | block id b ih =>
    intro ro T D s k res h
    -- what the body comes to, whichever way
    have body : ∀ {res}, (compC .real X m N b).run E ro T D s kn0 = some res → Ends P N b ro T D s res.1 res.2.1 res.2.2.1 res.2.2.2 := by
      intro res h
      rcases ih h with ⟨T1, D1, s1, q1, q2⟩ | ⟨q0, q1⟩
      · cases Option.some.inj (show some (Exit.normal, T1, D1, s1) = some res from q2)
        exact q1
      · exact q1
    rcases blockK_some (show blockK id _ k = some res from h) with ⟨T1, D1, s1, h1, h2⟩ | ⟨h0, h1, h2⟩
    · refine .inl ⟨T1, D1, s1, fun {r w ob act} hro hR hT hD => ?_, h2⟩
      rcases h1 with h1 | h1
      · refine wpIn_block (wpIn_mono (body h1 hro hR hT hD) ?_)
        rintro e2 a1 w1 ⟨rfl, r1, hR1, hT1, hD1, hS1⟩
        exact ⟨rfl, r1, hR1, hT1, hD1, hS1⟩
      · refine wpIn_block (wpIn_mono (body h1 hro hR hT hD) ?_)
        rintro e2 a1 w1 ⟨rfl, r1, hR1, hT1, hD1, hS1⟩
        simp only [Exit.inBlock]
        exact ⟨rfl, r1, hR1, hT1, hD1, hS1⟩
    · refine .inr ⟨h0, fun {r w ob act} hro hR hT hD => ?_⟩
      refine wpIn_block (wpIn_mono (body h2 hro hR hT hD) ?_)
      intro e2 a1 w1 q
      have := q.1
      subst this
      obtain ⟨e, T1, D1, s1⟩ := res
      cases e <;> first
        | exact q
        | (simp only [Exit.inBlock]
           rw [if_neg (fun hh => h1 (by rw [hh]))]
           exact q)
  | loop b ih =>
    intro ro T D s k res h
    obtain ⟨h0, h1⟩ := loop_rounds ih m (show loopK _ E ro m T D s = some res from h)
    exact .inr ⟨h0, fun hro hR hT hD => wpIn_loop_rounds m (h1 hro hR hT hD)⟩
  | scope b ih =>
    intro ro T D s k res h
    cases ro with
    | some l => cases h
    | none =>
      have body : ∀ {res}, (compC .real X m N b).run E none T D s kn0 = some res → Ends P N b none T D s res.1 res.2.1 res.2.2.1 res.2.2.2 := by
        intro res h
        rcases ih h with ⟨T1, D1, s1, q1, q2⟩ | ⟨q0, q1⟩
        · cases Option.some.inj (show some (Exit.normal, T1, D1, s1) = some res from q2)
          exact q1
        · exact q1
      have comb : ∀ {e T' D' s'}, (∀ l, e ≠ .goto l) → Ends P N b none T D s e T' D' s' → Ends P N (.scope b) none T D s e T' D' s' := by
        intro e T' D' s' hg q r w ob act hro hR hT hD
        cases ob with
        | some b => exact hro.elim
        | none =>
          refine (wpIn_wide (n := 0)).2 (wp_scope_straight ((wpIn_wide (n := 0)).1 ?_))
          refine wpIn_mono (q (ob := none) hro hR hT hD) ?_
          rintro e2 a1 w1 ⟨rfl, r1, hR1, hT1, hD1, hS1⟩
          cases e2 <;> simp only [Exit.noGoto] <;> first | exact absurd rfl (hg _) | exact ⟨rfl, r1, hR1, hT1, hD1, hS1⟩
      rcases scopeK_some (show scopeK _ k = some res from h) with ⟨T1, D1, s1, h1, h2⟩ | ⟨h0, h1, h2⟩
      · exact .inl ⟨T1, D1, s1, comb (by simp) (body h1), h2⟩
      · exact .inr ⟨h0, comb h1 (body h2)⟩
  | region id ops draw =>
    intro ro T D s k res h
    simp only [compC] at h
    split at h
    · rename_i hd
      obtain ⟨T1, D1, s1, h1, h2⟩ := drawC_ok h
      refine .inl ⟨T1, D1, s1, fun hro hR hT hD => ?_, h2⟩
      rw [show draw = true from hd]
      exact drawR_ok hX hE h1 id hro hR hT hD
    · rename_i hd
      obtain ⟨T1, D1, s1, h1, h2⟩ := compS_ok X N ops _ h
      refine .inl ⟨T1, D1, s1, fun hro hR hT hD => ?_, h2⟩
      rw [show draw = false by simpa using hd]
      exact wpIn_region_list (stepS_ok hX hE _ h1 hro hR hT hD fun r' a' w' q1 q2 q3 q4 => ⟨rfl, r', q1, q2, q3, q4⟩)
  | rangeFunc g ps as bd _ _ =>
    intro ro T D s k res h
    -- by the first form's word on it
    have key : ∀ {res}, stepC X (drawR X) E ro N (.rangeFunc g ps as bd) T D s = some res → Ends P N (.rangeFunc g ps as bd) ro T D s res.1 res.2.1 res.2.2.1 res.2.2.2 := fun {res} h {r w ob a} hro hR hT hD => stepC_ok hX (drawR_ok hX) hE (e := res.1) (T' := res.2.1) (D' := res.2.2.1) (s' := res.2.2.2) h hro hR hT hD
    have h : rfRun X N g ps as bd E ro T D s k = some res := h
    unfold rfRun at h
    split at h
    case h_2 => cases h
    rename_i f fi ca hg
    split at h
    case h_2 => cases h
    rename_i fn hfn
    split at h
    case h_2 => cases h
    rename_i d D1 s1 hq
    split at h
    case h_2 => cases h
    rename_i v s2 hF
    split at h
    case h_2 => cases h
    rename_i st pend T0 N0 ps0 as0 bd0 d0 hl
    have fin : ∀ {x : CodeRes}, stepC X (drawR X) E ro N (.rangeFunc g ps as bd) T D s = x → ∀ {k : KN} {res}, seqK x k = some res → (∃ T' D' s', Ends P N (.rangeFunc g ps as bd) ro T D s .normal T' D' s' ∧ k T' D' s' = some res) ∨ (res.1 ≠ .normal ∧ Ends P N (.rangeFunc g ps as bd) ro T D s res.1 res.2.1 res.2.2.1 res.2.2.2) := by
      intro x hx k res h
      rcases seqK_some h with ⟨T2, D2, s2, h1, h2⟩ | ⟨h0, h1⟩
      · exact .inl ⟨T2, D2, s2, key (res := (.normal, T2, D2, s2)) (hx.trans h1), h2⟩
      · exact .inr ⟨h0, key (hx.trans h1)⟩
    split at h
    · cases h
    · rename_i hst
      cases pend with
      | none =>
        refine fin (x := some (.normal, T, D1, ⟨s2.h.set s1.nx (.loop .exhausted none T0 N0 ps0 as0 bd0 d0), s2.nx, s2.up⟩)) ?_ h
        simp only [stepC, hg, hfn, hq, hF, hl]
      | some c =>
        refine fin (x := E.C ro N c T D1 ⟨s2.h.set s1.nx (.loop .exhausted (some c) T0 N0 ps0 as0 bd0 d0), s2.nx, s2.up⟩) ?_ h
        simp only [stepC, hg, hfn, hq, hF, hl]
end

/-- The evaluator, second form. 'm': the rounds that a loop may take; 'n': the depth of calls. -/
def engC (A : Alu) (X : Ctx) (m : Nat) (E : Rec) : Option Nat → Nat → Code → PM Value → List DItem → CS → CodeRes := fun ro N c T D s => (compC A X m N c).run E ro T D s kn0
def engS (A : Alu) (X : Ctx) (H : Hooks) (m : Nat) (E : Rec) : Rec := ⟨stepF X H ⟨E.F, engC A X m E⟩, engC A X m E⟩
def eng (A : Alu) (X : Ctx) (H : Hooks) (m : Nat) (n : Nat) : Rec := @Nat.rec (fun _ => Rec) ⟨fun _ _ _ => none, fun _ _ _ _ _ _ => none⟩ (fun _ E => engS A X H m E) n
theorem engC_ok {X : Ctx} (hX : COk P X) {m : Nat} {E : Rec} (hE : RecOk P m E) : RecOk P m ⟨E.F, engC .real X m E⟩ where
  F := hE.F
  C := by
    intro ro N c T D s e T' D' s' h r w ob a hro hR hT hD
    rcases compC_ok hX hE N c (show (compC .real X m N c).run E ro T D s kn0 = some _ from h) with ⟨T1, D1, s1, q1, q2⟩ | ⟨q0, q1⟩
    · cases Option.some.inj (show some (Exit.normal, T1, D1, s1) = some (e, T', D', s') from q2)
      exact q1 hro hR hT hD
    · exact q1 hro hR hT hD
  L := by
    intro ro N c T D s e T' D' s' h r w ob a hro hR hT hD
    obtain ⟨_, h1⟩ := loop_rounds (compC_ok hX hE N c) m (show loopK (compC .real X m N c) E ro m T D s = some (e, T', D', s') from h)
    exact h1 hro hR hT hD
theorem eng_ok {X : Ctx} (hX : COk P X) {H : Hooks} (hH : HookOk P H) (m : Nat) : ∀ n, RecOk P m (eng .real X H m n)
  | 0 => by
    constructor
    · intro f args s v s' h; cases h
    · intro ro N c T D s e T' D' s' h; cases h
    · intro ro N c T D s e T' D' s' h; cases h
  | n + 1 => by
    have ih := engC_ok hX (eng_ok hX hH m n)
    constructor
    · intro f args s v s' h r w args' hR ha
      exact stepF_ok hX hH ih h hR ha
    · exact ih.C
    · exact ih.L
end
end Go.Cl

/- A function that is run over an empty memory leaves every memory alone. -/
namespace Go.Cl
noncomputable section
variable {P : Program}

/-- Values without an address, tuples of them too. -/
def plainT : Value → Bool
  | .tuple cs => cs.toList.all sca
  | v => plain v
theorem VR.eq_of_plainT {r : Ren} {v v' : Value} (h : plainT v = true) (hv : VR r v v') : v' = v := by
  unfold plainT at h
  split at h
  · obtain ⟨cs', rfl, k⟩ := VR.tuple_iff.1 hv
    rw [Array.toList_inj.1 (VL.eq_of_sca h k)]
  · exact VR.eq_of_plain h hv
theorem VR.of_plainT {r : Ren} {v : Value} (h : plainT v = true) : VR r v v := by
  unfold plainT at h
  split at h
  · refine VR.tuple_iff.2 ⟨_, rfl, VL.of_cst (List.all_eq_true.2 fun x hx => ?_)⟩
    have := List.all_eq_true.1 h x hx
    cases x <;> simp [sca] at this <;> simp [cst, sca]
  · exact .of_plain h
theorem VL.eq_of_plain {r : Ren} : ∀ {l l' : List Value}, l.all plain = true → VL r l l' → l' = l
  | [], [], _, _ => rfl
  | x :: l, y :: l', h, k => by simp only [List.all_cons, Bool.and_eq_true] at h; rw [VR.eq_of_plain h.1 k.1, VL.eq_of_plain h.2 k.2]
  | [], _ :: _, _, h => h.elim
  | _ :: _, [], _, h => h.elim
theorem VL.of_plain {r : Ren} : ∀ {l : List Value}, l.all plain = true → VL r l l
  | [], _ => trivial
  | x :: l, h => by simp only [List.all_cons, Bool.and_eq_true] at h; exact ⟨.of_plain h.1, VL.of_plain h.2⟩

/-- The globals alone. -/
def Ren.only (r : Ren) (G : Nat) : Ren := fun id => if id < G then r id else none
theorem R.globals {r : Ren} {s : CS} {w : World} (h : R P r s w) {k : Nat} (hk : P.globals.size ≤ k) : R P (r.only P.globals.size) ⟨.nil, k, k + 1⟩ w := by
  have hr : ∀ {id l}, r.only P.globals.size id = some l → id < P.globals.size ∧ r id = some l := fun {id l} hl => by
    unfold Ren.only at hl
    split at hl
    · exact ⟨by assumption, hl⟩
    · cases hl
  refine ⟨fun id o l ho => ?_, fun i j oi oj li lj hi => ?_, fun id l hl => ?_, fun id o ho => ?_, Nat.lt_succ_self k, fun g hg => ?_⟩
  · rw [PM.get_nil] at ho; cases ho
  · rw [PM.get_nil] at hi; cases hi
  · obtain ⟨h1, h2⟩ := hr hl
    exact ⟨⟨by simp only; omega, by simp only; omega⟩, (h.dom _ _ h2).2⟩
  · rw [PM.get_nil] at ho; cases ho
  · obtain ⟨l, h1, h2, h3⟩ := h.glob g hg
    exact ⟨l, by unfold Ren.only; rw [if_pos hg]; exact h1, h2, h3⟩
/-- Old blocks are as they were: so is the relation. -/
theorem R.kept {r : Ren} {s : CS} {w w' : World} (h : R P r s w) (hsz : w.heap.size ≤ w'.heap.size) (hb : ∀ b, b < w.heap.size → w'.heap[b]? = w.heap[b]?) (hrest : w'.os = w.os ∧ w'.output = w.output ∧ w'.tape = w.tape) : R P r s w' ∧ Step r s w r s w' :=
  ⟨⟨fun id o l ho hr => OR.mono (fun _ _ h => h) (hb _ (h.dom _ _ hr).2) (h.obj id o l ho hr), h.excl, fun id l hl => ⟨(h.dom id l hl).1, Nat.lt_of_lt_of_le (h.dom id l hl).2 hsz⟩, h.nx, h.lt, h.glob⟩,
    ⟨fun _ _ h => h, ⟨.inl rfl, Nat.le_refl _⟩, hsz, fun b hlt _ => hb b hlt, fun _ _ h => .inl h, fun _ o _ h => ⟨o, h, rfl⟩, hrest⟩⟩
/-- A run over a memory in which nothing may be written leaves every memory alone. -/
theorem callsIn_kept {m : Nat} {E : Rec} (hE : RecOk P m E) {f : FuncId} {args : List Value} {v : Value} {s1 s1' : CS} (hrun : E.F f args s1 = some (v, s1')) (hv : plainT v = true) {r r1 : Ren} {s : CS} {w : World} {args' : List Value}
    (hR : R P r s w) (hR1 : R P r1 s1 w) (hro : ∀ id o, s1.h.get id = some o → o.ro = true) (ha : VL r1 args args') :
    CallsIn Fence.wide 0 P f args'.toArray w (FPost P r s w v s) := by
  refine CallsIn.imp (hE.F hrun hR1 ha) ?_
  rintro e w' ⟨v', r', rfl, h1, h2, h3⟩
  rw [VR.eq_of_plainT hv h1]
  obtain ⟨q1, q2⟩ := hR.kept (w' := w') h3.size (fun b hb => h3.frame b hb fun id o l ho _ _ => hro id o ho) h3.rest
  exact ⟨v, r, rfl, .of_plainT hv, q1, q2⟩
theorem callsIn_pure {m : Nat} {E : Rec} (hE : RecOk P m E) {f : FuncId} {args : List Value} {v : Value} {k : Nat} {s' : CS} (hk : P.globals.size ≤ k) (hrun : E.F f args ⟨.nil, k, k + 1⟩ = some (v, s')) (ha : args.all plain = true) (hv : plainT v = true)
    {r : Ren} {s : CS} {w : World} {args' : List Value} (hR : R P r s w) (h : VL r args args') : CallsIn Fence.wide 0 P f args'.toArray w (FPost P r s w v s) := by
  rw [VL.eq_of_plain ha h]
  exact callsIn_kept hE hrun hv hR (hR.globals hk) (fun id o ho => by rw [PM.get_nil] at ho; cases ho) (.of_plain ha)

/-- Two arguments. -/
def on2 {β : Type} (z : β) (f : Value → Value → β) (l : List Value) : β := @List.rec Value (fun _ => β) z (fun a l _ => @List.rec Value (fun _ => β) z (fun b l _ => @List.rec Value (fun _ => β) (f a b) (fun _ _ _ => z) l) l) l
theorem on2_some {β : Type} {f : Value → Value → Option β} {l : List Value} {x : β} (h : on2 none f l = some x) : ∃ a b, l = [a, b] ∧ f a b = some x := by
  match l, h with
  | [a, b], h => exact ⟨a, b, rfl, h⟩
  | [], h => cases h
  | [_], h => cases h
  | _ :: _ :: _ :: _, h => cases h
end
end Go.Cl

/- The two compressions, as functions of numbers. -/
namespace Go.Cl
noncomputable section

/-- The parts in which two texts of a compression differ. -/
structure Shape where
  word : Nat → Nat → Nat → Nat → Nat
  s0 : Nat → Nat
  s1 : Nat → Nat
  e0 : Nat → Nat
  e1 : Nat → Nat
  ch : Nat → Nat → Nat → Nat
def words (Z : Shape) : List Nat → List Nat
  | a :: b :: c :: d :: l => Z.word a b c d :: words Z l
  | _ => []
def sched (A : Alu) (Z : Shape) : Nat → Nat → Nat → Nat → Nat → Nat → Nat → Nat → Nat → Nat → Nat → Nat → Nat → Nat → Nat → Nat → Nat → List Nat
  | 0, _, _, _, _, _, _, _, _, _, _, _, _, _, _, _, _ => []
  | n + 1, a, b, c, d, e, f, g, h, i, j, k, l, m, o, p, q => a :: sched A Z n b c d e f g h i j k l m o p q (A.add (A.add (A.add a (Z.s0 b)) j) (Z.s1 p))
def schedL (A : Alu) (Z : Shape) : List Nat → List Nat
  | [a, b, c, d, e, f, g, h, i, j, k, l, m, o, p, q] => sched A Z 64 a b c d e f g h i j k l m o p q
  | _ => []
def rounds (A : Alu) (Z : Shape) : List Nat → List Nat → Nat → Nat → Nat → Nat → Nat → Nat → Nat → Nat → List Nat
  | k :: ks, w :: ws, a, b, c, d, e, f, g, h =>
    rounds A Z ks ws (A.add (A.add (A.add (A.add (A.add h (Z.e1 e)) (Z.ch e f g)) k) w) (A.add (Z.e0 a) (A.xor (A.xor (A.and a b) (A.and a c)) (A.and b c)))) a b c
      (A.add d (A.add (A.add (A.add (A.add h (Z.e1 e)) (Z.ch e f g)) k) w)) e f g
  | _, _, a, b, c, d, e, f, g, h => [a, b, c, d, e, f, g, h]
def turnA (A : Alu) (x n : Nat) : Nat := A.or (A.shl x (Nat.sub 32 n)) (A.shr x n)
def rightA (A : Alu) (x n : Nat) : Nat := A.add (A.shr x n) (A.shl x (Nat.sub 32 n))
def shapeP (A : Alu) : Shape where
  word a b c d := A.or (A.or (A.or (A.shl (A.ofB a) 24) (A.shl (A.ofB b) 16)) (A.shl (A.ofB c) 8)) (A.ofB d)
  s0 x := A.xor (A.xor (turnA A x 7) (turnA A x 18)) (A.shr x 3)
  s1 x := A.xor (A.xor (turnA A x 17) (turnA A x 19)) (A.shr x 10)
  e0 x := A.xor (A.xor (turnA A x 2) (turnA A x 13)) (turnA A x 22)
  e1 x := A.xor (A.xor (turnA A x 6) (turnA A x 11)) (turnA A x 25)
  ch e f g := A.xor (A.and e f) (A.and (A.xor 4294967295 e) g)
def shapeR (A : Alu) : Shape where
  word a b c d := A.add (A.add (A.add (A.mul (A.ofB a) 16777216) (A.mul (A.ofB b) 65536)) (A.mul (A.ofB c) 256)) (A.ofB d)
  s0 x := A.xor (A.xor (rightA A x 7) (rightA A x 18)) (A.quo x 8)
  s1 x := A.xor (A.xor (rightA A x 17) (rightA A x 19)) (A.quo x 1024)
  e0 x := A.xor (A.xor (rightA A x 2) (rightA A x 13)) (rightA A x 22)
  e1 x := A.xor (A.xor (rightA A x 6) (rightA A x 11)) (rightA A x 25)
  ch e f g := A.xor (A.and e f) (A.and (A.sub 4294967295 e) g)
def zipA (f : Nat → Nat → Nat) : List Nat → List Nat → List Nat
  | a :: l, b :: m => f a b :: zipA f l m
  | _, _ => []
def startL (A : Alu) (Z : Shape) (K B : List Nat) : List Nat → List Nat
  | [a, b, c, d, e, f, g, h] => rounds A Z K (schedL A Z (words Z B)) a b c d e f g h
  | _ => []
/-- The program's. -/
def pressP (A : Alu) (K S B : List Nat) : List Nat := zipA A.add S (startL A (shapeP A) K B S)
/-- The reference's. -/
def pressR (A : Alu) (K S B : List Nat) : List Nat := zipA A.add (startL A (shapeR A) K B S) S
def v32 (n : Nat) : Value := .int .u32 (.ofNat n)
def v8 (n : Nat) : Value := .int .u8 (.ofNat n)
def natl (K : Nat → Nat) (n : Nat) : List Nat := (List.range n).map K
end
end Go.Cl

/- From closed runs to contracts. -/
namespace Go.Cl
noncomputable section
variable {P : Program}

def valS (o : Option (Value × CS)) : Option Value := onSome none (fun p => @Prod.rec Value CS (fun _ => Option Value) (fun v _ => some v) p) o
theorem valS_some {o : Option (Value × CS)} {v : Value} (h : valS o = some v) : ∃ s, o = some (v, s) := by
  obtain ⟨⟨u, s⟩, h1, h2⟩ := onSome_some (show onSome none _ o = some v from h)
  cases Option.some.inj (show some u = some v from h2)
  exact ⟨s, h1⟩
/-- A run over an empty memory comes to a value. -/
def RunTo (E : Rec) (f : FuncId) (args : List Value) (k : Nat) (v : Value) : Prop := valS (E.F f args ⟨.nil, k, k + 1⟩) = some v
def RunAt (E : Rec) (f : FuncId) (args : List Value) (s : CS) (v : Value) : Prop := valS (E.F f args s) = some v
theorem pureOk_of_val {m : Nat} {E : Rec} (hE : RecOk P m E) {f : FuncId} {h : List Value → Option Value} {k : Nat} (hk : P.globals.size ≤ k)
    (H : ∀ args v, h args = some v → args.all plain = true ∧ plainT v = true ∧ RunTo E f args k v) : PureOk P f h := by
  intro args v hv r s w args' hR ha
  obtain ⟨h1, h2, h3⟩ := H args v hv
  obtain ⟨s', h4⟩ := valS_some (show valS (E.F f args ⟨.nil, k, k + 1⟩) = some v from h3)
  exact callsIn_pure hE hk h4 h1 h2 hR ha

/-- A list of numbers by its places. -/
theorem natl_getD (l : List Nat) (n : Nat) (h : l.length = n) : natl (fun i => l.getD i 0) n = l := by
  subst h
  apply List.ext_getElem?
  intro i
  simp only [natl, List.getElem?_map]
  by_cases hi : i < l.length
  · simp [hi, List.getD]
  · simp only [Nat.not_lt] at hi
    rw [List.getElem?_eq_none hi]
    simp [hi]
def natOf (v : Value) : Option Nat := onNat none (fun _ n => some n) v
/-- Numbers of one kind. -/
def numsOf (k : IntKind) (l : List Value) : Option (List Nat) := @List.rec Value (fun _ => Option (List Nat)) (some []) (fun v _ ih => onInt none (fun k' n => @Int.rec (fun _ => Option (List Nat)) (fun n => onSome none (fun _ => onSome none (fun r => some (n :: r)) ih) (only k k' (some undef))) (fun _ => none) n) v) l
theorem numsOf_some {k : IntKind} : ∀ {l : List Value} {r : List Nat}, numsOf k l = some r → l = r.map fun n => Value.int k (.ofNat n)
  | [], r, h => by cases Option.some.inj (show some [] = some r from h); rfl
  | v :: l, r, h => by
    obtain ⟨k', n, rfl, h⟩ := onInt_some (show onInt none _ v = some r from h)
    cases n with
    | negSucc n => cases h
    | ofNat n =>
      obtain ⟨u, h1, h2⟩ := onSome_some (show onSome none _ (only k k' (some undef)) = some r from h)
      obtain ⟨q, h3, h4⟩ := onSome_some h2
      obtain ⟨rfl, _⟩ := only_some h1
      rw [← Option.some.inj h4, numsOf_some h3]
      rfl
def lenIs {α : Type} (n : Nat) (l : List α) : Bool := @Nat.rec (fun _ => List α → Bool) (fun l => @List.rec α (fun _ => Bool) true (fun _ _ _ => false) l) (fun _ ih l => @List.rec α (fun _ => Bool) false (fun _ t _ => ih t) l) n l
theorem lenIs_true {α : Type} : ∀ {n : Nat} {l : List α}, lenIs n l = true → l.length = n
  | 0, [], _ => rfl
  | 0, _ :: _, h => by cases h
  | _ + 1, [], h => by cases h
  | n + 1, _ :: l, h => by rw [List.length_cons, lenIs_true (show lenIs n l = true from h)]

/-- The globals and one more. -/
def Ren.onlyAnd (r : Ren) (G k : Nat) (l : Loc) : Ren := fun id => if id < G then r id else if id = k then some l else none
/-- A row of plain cells, seen as an object of its own that is only read. -/
theorem R.view {r : Ren} {s : CS} {w : World} (h : R P r s w) {k : Nat} (hk : P.globals.size ≤ k) {a off n : Nat} {l : Loc} {c : List Value} {m : CMode} {sz : Nat} (ho : s.h.get a = some (.cells c m sz)) (hr : r a = some l) (hn : off + n ≤ c.length)
    (hs : ((c.drop off).take n).all sca = true) : R P (r.onlyAnd P.globals.size k ⟨l.b, l.o + off, l.e, l.sz⟩) ⟨PM.nil.set k (.cells ((c.drop off).take n) .ro sz), k + 1, k + 2⟩ w := by
  have hg : ∀ {id o}, (PM.nil.set k (CObj.cells ((c.drop off).take n) .ro sz)).get id = some o → id = k ∧ o = .cells ((c.drop off).take n) .ro sz := fun {id o} ho => by
    rw [PM.get_set] at ho
    split at ho
    · exact ⟨by assumption, (Option.some.inj ho).symm⟩
    · rw [PM.get_nil] at ho; cases ho
  have hkr : r.onlyAnd P.globals.size k ⟨l.b, l.o + off, l.e, l.sz⟩ k = some ⟨l.b, l.o + off, l.e, l.sz⟩ := by
    unfold Ren.onlyAnd
    rw [if_neg (by omega), if_pos rfl]
  obtain ⟨cs, t, fr, hb, g1, g2, g3, g4, g5, g6⟩ := h.obj _ _ _ ho hr
  refine ⟨fun id o l' ho' hl' => ?_, fun i j oi oj li lj hi hj hli hlj hij _ => ?_, fun id l' hl' => ?_, fun id o ho' => ?_, by simp, fun g hgg => ?_⟩
  · obtain ⟨rfl, rfl⟩ := hg ho'
    rw [hkr] at hl'
    cases hl'
    have hlen : ((c.drop off).take n).length = n := by simp; omega
    refine ⟨cs, t, fr, hb, by simp only [hlen]; omega, g2, ?_, fun hh => absurd rfl hh, fun hh => by (cases hh), g6⟩
    rw [hlen]
    have h1 : VL r ((c.drop off).take n) ((((cs.toList.drop l.o).take c.length).drop off).take n) := (g3.drop off).take n
    have h2 : (((cs.toList.drop l.o).take c.length).drop off).take n = (cs.toList.drop (l.o + off)).take n := by
      rw [List.drop_take, List.take_take, List.drop_drop]
      congr 1
      omega
    rw [h2] at h1
    rw [VL.eq_of_sca hs h1]
    refine VL.of_cst (List.all_eq_true.2 fun x hx => ?_)
    have := List.all_eq_true.1 hs x hx
    cases x <;> simp [sca] at this <;> simp [cst, sca]
  · obtain ⟨rfl, rfl⟩ := hg hi
    obtain ⟨rfl, rfl⟩ := hg hj
    exact absurd rfl hij
  · unfold Ren.onlyAnd at hl'
    split at hl'
    · rename_i hid
      exact ⟨⟨by simp only; omega, by simp only; omega⟩, (h.dom _ _ hl').2⟩
    · split at hl'
      · rename_i hid
        cases hl'
        subst hid
        exact ⟨⟨by simp only; omega, by simp only; omega⟩, (h.dom _ _ hr).2⟩
      · cases hl'
  · obtain ⟨rfl, _⟩ := hg ho'
    exact ⟨by simp only; omega, by simp only; omega⟩
  · obtain ⟨l', h1, h2, h3⟩ := h.glob g hgg
    exact ⟨l', by unfold Ren.onlyAnd; rw [if_pos hgg]; exact h1, h2, h3⟩
/-- A call with plain arguments and, last, a slice of plain cells: by a run over those cells alone. -/
theorem callsIn_slice {mm : Nat} {E : Rec} (hE : RecOk P mm E) {f : FuncId} {pre : List Value} {v : Value} {k : Nat} (hk : P.globals.size ≤ k) {a off n cap : Nat} {c : List Value} {m : CMode} {sz : Nat} {s : CS}
    (hpre : pre.all plain = true) (hv : plainT v = true) (ho : s.h.get a = some (.cells c m sz)) (hn : off + n ≤ c.length) (hs : ((c.drop off).take n).all sca = true)
    (hrun : RunAt E f (pre ++ [.slice (some ⟨k, 0, none⟩) n cap]) ⟨PM.nil.set k (.cells ((c.drop off).take n) .ro sz), k + 1, k + 2⟩ v)
    {r : Ren} {w : World} {args' : List Value} (hR : R P r s w) (ha : VL r (pre ++ [.slice (some ⟨a, off, none⟩) n cap]) args') : CallsIn Fence.wide 0 P f args'.toArray w (FPost P r s w v s) := by
  have key : ∃ l, r a = some l ∧ VL (r.onlyAnd P.globals.size k ⟨l.b, l.o + off, l.e, l.sz⟩) (pre ++ [.slice (some ⟨k, 0, none⟩) n cap]) args' := by
    have hsplit : ∀ {pre args' : List Value} {x : Value}, VL r (pre ++ [x]) args' → ∃ p' x', args' = p' ++ [x'] ∧ VL r pre p' ∧ VR r x x' := by
      intro pre
      induction pre with
      | nil =>
        intro args' x h
        match args', h with
        | [y], h => exact ⟨[], y, rfl, trivial, h.1⟩
        | [], h => exact h.elim
        | _ :: _ :: _, h => exact h.2.elim
      | cons p pre ih =>
        intro args' x h
        match args', h with
        | y :: ys, h =>
          obtain ⟨p', x', rfl, h1, h2⟩ := ih h.2
          exact ⟨y :: p', x', rfl, ⟨h.1, h1⟩, h2⟩
        | [], h => exact h.elim
    obtain ⟨p', x', rfl, h1, h2⟩ := hsplit ha
    have hp' := VL.eq_of_plain hpre h1
    subst hp'
    have hkr : ∀ l : Loc, r.onlyAnd P.globals.size k ⟨l.b, l.o + off, l.e, l.sz⟩ k = some ⟨l.b, l.o + off, l.e, l.sz⟩ := fun l => by
      unfold Ren.onlyAnd
      rw [if_neg (by omega), if_pos rfl]
    cases h2 with
    | @slice _ l _ _ _ p hr hp hl hc =>
      refine ⟨l, hr, VL.append (.of_plain hpre) ⟨.slice 0 n cap p (hkr l) (fun h0 => by rw [hp h0]; simp) hl hc, trivial⟩⟩
    | @sliceU _ l _ _ cap' p hr hp he hl hz =>
      refine ⟨l, hr, VL.append (.of_plain hpre) ⟨.sliceU 0 n cap' p (hkr l) (fun h0 => by rw [hp h0]; simp) (by simpa using he) hl hz, trivial⟩⟩
  obtain ⟨l, hr, hv1⟩ := key
  obtain ⟨s', hrun⟩ := valS_some (show valS _ = some v from hrun)
  refine callsIn_kept hE hrun hv hR (hR.view hk ho hr hn hs) (fun id o ho' => ?_) hv1
  rw [PM.get_set] at ho'
  split at ho'
  · cases Option.some.inj ho'; rfl
  · rw [PM.get_nil] at ho'; cases ho'
end
end Go.Cl

