/- tables; entries. -/
import Derived.Test.YtodagfkndlpdpaaGreatDoorMf
/- The tables of a program, read by recursors. -/
namespace Go.Cl
noncomputable section
variable {P : Program}

def infoF (P : Program) (t : TypeId) : Option TypeInfo := nth t P.types.toList
theorem infoF_some {t : TypeId} {i : TypeInfo} (h : infoF P t = some i) : P.info? t = some i := by
  unfold infoF at h
  rw [nth_eq, Array.getElem?_toList] at h
  have hlt : t < P.types.size := (Array.getElem?_eq_some_iff.1 h).1
  unfold Tables.info?
  rw [if_pos hlt]; exact h
def undF (P : Program) (t : TypeId) : Option TypeDesc := onSome none (fun i => match i.desc with
  | .named _ u => onSome none (fun j => some j.desc) (infoF P u)
  | d => some d) (infoF P t)
theorem undF_some {t : TypeId} {d : TypeDesc} (h : undF P t = some d) : P.underlying t = some d := by
  obtain ⟨i, h1, h2⟩ := onSome_some (show onSome none _ (infoF P t) = some d from h)
  have h1 := infoF_some h1
  obtain ⟨desc, str, size, bytes, hp, al, fal, zero, cmp, ms⟩ := i
  unfold Program.underlying
  simp only [h1]
  cases desc <;> first | exact h2 | skip
  obtain ⟨j, h3, h4⟩ := onSome_some (show onSome none _ (infoF P _) = some d from h2)
  simp only [infoF_some h3, Option.map_some]
  exact h4
def cstF (v : Value) : Bool := @Value.rec (fun _ => Bool) (fun _ => PUnit) (fun _ => PUnit) (fun _ => true) (fun _ _ => true) (fun _ _ => true) (fun _ _ _ => false) (fun _ => true) (fun a => @Option.rec Addr (fun _ => Bool) true (fun _ => false) a) (fun a l c => @Option.rec Addr (fun _ => Bool) (cond (Nat.beq l 0) (Nat.beq c 0) false) (fun _ => false) a) (fun a => @Option.rec Nat (fun _ => Bool) true (fun _ => false) a) (fun _ => false) (fun _ _ _ _ _ => false) true (fun _ _ _ => false) true (fun _ _ => false) (fun _ _ => false) (fun _ _ => ⟨⟩) ⟨⟩ (fun _ _ _ _ => ⟨⟩) v
theorem cstF_true {v : Value} (h : cstF v = true) : cst v = true ∧ v.oneCell' = true := by
  cases v <;> first | exact ⟨rfl, rfl⟩ | (cases h; done) | skip
  · rename_i a
    cases a <;> first | exact ⟨rfl, rfl⟩ | cases h
  · rename_i a l c
    cases a with
    | none =>
      obtain ⟨h1, h2⟩ := both_true (show both (Nat.beq l 0) (Nat.beq c 0) = true from h)
      cases Nat.eq_of_beq_eq_true h1
      cases Nat.eq_of_beq_eq_true h2
      exact ⟨rfl, rfl⟩
    | some _ => cases h
  · rename_i a
    cases a <;> first | exact ⟨rfl, rfl⟩ | cases h
def cstL (n : Nat) (l : List Value) : Bool := @Nat.rec (fun _ => List Value → Bool) (fun l => @List.rec Value (fun _ => Bool) true (fun _ _ _ => false) l) (fun _ ih l => @List.rec Value (fun _ => Bool) false (fun x t _ => cond (cstF x) (ih t) false) l) n l
theorem cstL_true : ∀ {n : Nat} {l : List Value}, cstL n l = true → l.length = n ∧ ∀ x ∈ l, cst x = true ∧ x.oneCell' = true
  | 0, [], _ => ⟨rfl, fun _ h => by cases h⟩
  | 0, _ :: _, h => by cases h
  | _ + 1, [], h => by cases h
  | n + 1, x :: l, h => by
    have h' : cond (cstF x) (cstL n l) false = true := h
    cases hc : cstF x with
    | false => rw [hc] at h'; cases h'
    | true =>
      rw [hc] at h'
      obtain ⟨h1, h2⟩ := cstL_true (show cstL n l = true from h')
      refine ⟨by rw [List.length_cons, h1], fun y hy => ?_⟩
      rcases List.mem_cons.1 hy with hy | hy
      · rw [hy]; exact cstF_true hc
      · exact h2 y hy
def zeroF (z : Value) (n : Nat) : Bool := onAgg0 (zeroOk z n) (fun a => onArr (fun l => cstL n l) a) z
theorem zeroF_true {z : Value} {n : Nat} (h : zeroF z n = true) : zeroOk z n = true := by
  cases z <;> first | exact h | skip
  rename_i a
  obtain ⟨l⟩ := a
  obtain ⟨h1, h2⟩ := cstL_true (show cstL n l = true from h)
  simp only [zeroOk, constOk, Value.cells, Bool.and_eq_true, List.all_eq_true, beq_iff_eq]
  exact ⟨⟨fun x hx => (h2 x hx).1, h1⟩, fun x hx => ⟨(h2 x hx).2, (h2 x hx).1⟩⟩
def aggF (u : TypeDesc) : Bool := match u with
  | .struct _ => true
  | .array _ _ => true
  | _ => false
def mkTIF (P : Program) (t : TypeId) : Option TI := match infoF P t, undF P t with
  | some j, some u => some { u := u, size := j.size, bytes := j.bytes, zero := onSome none (fun z => cond (zeroF z j.size) (some z) none) j.zero, agg := aggF u, eq := okEq P 8 t }
  | _, _ => none
theorem mkTIF_ok (hd : 8 ≤ P.depth) {t : TypeId} {i : TI} (h : mkTIF P t = some i) : TOk P t i := by
  unfold mkTIF at h
  split at h
  · rename_i j u hj hu
    cases Option.some.inj h
    have hj := infoF_some hj
    have hu := undF_some hu
    have hz : ∀ z, onSome none (fun z => cond (zeroF z j.size) (some z) none) j.zero = some z → j.zero = some z ∧ zeroF z j.size = true := fun z hz => by
      obtain ⟨z', h1, h2⟩ := onSome_some hz
      obtain ⟨h3, h4⟩ := cond_k h2
      cases Option.some.inj h4
      exact ⟨h1, h3⟩
    refine ⟨hu, ⟨j, hj, rfl, rfl, fun z hzz => (hz z hzz).1⟩, ?_, fun l hl => ⟨8, by omega, hd, hl⟩, fun z hzz => zeroF_true (hz z hzz).2⟩
    simp only [isAggB, hu, aggF]
    cases u <;> rfl
  · cases h
def fnF (P : Program) (f : FuncId) : Option Func := onSome none (fun x => @Option.rec Code (fun _ => Option Func) none (fun _ => some x) x.body) (nth f P.funcs.toList)
theorem fnF_ok (hn : P.funcs.toList.all (fun f => f.name != "runtime.NumGoroutine") = true) {f : FuncId} {x : Func} (h : fnF P f = some x) : P.funcs[f]? = some x ∧ x.body.isSome = true ∧ x.name ≠ "runtime.NumGoroutine" := by
  obtain ⟨y, h1, h2⟩ := onSome_some (show onSome none _ (nth f P.funcs.toList) = some x from h)
  rw [nth_eq, Array.getElem?_toList] at h1
  cases hb : y.body with
  | none => rw [hb] at h2; cases h2
  | some c =>
    rw [hb] at h2
    cases Option.some.inj (show some y = some x from h2)
    refine ⟨h1, by rw [hb]; rfl, ?_⟩
    have hm : x ∈ P.funcs.toList := by
      rw [← Array.getElem?_toList] at h1
      exact List.mem_of_getElem? h1
    have := List.all_eq_true.1 hn x hm
    simpa using this
end
end Go.Cl

/- Closed runs over a part of memory, kept as entries: a call that meets an entry is answered by it. -/
namespace Go.Cl
noncomputable section
variable {P : Program}

/-! ### Objects alike -/
def listEq (a b : List Value) : Bool := @List.rec Value (fun _ => List Value → Bool) (fun l => @List.rec Value (fun _ => Bool) true (fun _ _ _ => false) l) (fun x _ ih l => @List.rec Value (fun _ => Bool) false (fun y t _ => cond (veqF x y) (ih t) false) l) a b
theorem listEq_eq : ∀ {a b : List Value}, listEq a b = true → a = b
  | [], [], _ => rfl
  | [], _ :: _, h => by cases h
  | _ :: _, [], h => by cases h
  | x :: a, y :: b, h => by
    have h : cond (veqF x y) (listEq a b) false = true := h
    cases hv : veqF x y with
    | false => rw [hv] at h; cases h
    | true => rw [hv] at h; rw [veqF_eq x y hv, listEq_eq h]
def mIx (m : CMode) : Nat := @CMode.rec (fun _ => Nat) 0 1 2 m
theorem mIx_inj {a b : CMode} (h : Nat.beq (mIx a) (mIx b) = true) : a = b := by
  have := Nat.eq_of_beq_eq_true h
  cases a <;> cases b <;> first | rfl | (exact absurd this (by decide))
def entEq (a b : MapEntry) : Bool := @MapEntry.rec (fun _ => Bool) (fun k v n => @MapEntry.rec (fun _ => Bool) (fun k' v' n' => both (veqF k k') (both (veqF v v') (Nat.beq n n'))) b) a
def entsEq (a b : List MapEntry) : Bool := @List.rec MapEntry (fun _ => List MapEntry → Bool) (fun l => @List.rec MapEntry (fun _ => Bool) true (fun _ _ _ => false) l) (fun x _ ih l => @List.rec MapEntry (fun _ => Bool) false (fun y t _ => cond (entEq x y) (ih t) false) l) a b
theorem entEq_eq {a b : MapEntry} (h : entEq a b = true) : a = b := by
  obtain ⟨k, v, n⟩ := a
  obtain ⟨k', v', n'⟩ := b
  obtain ⟨h1, h2⟩ := both_true h
  obtain ⟨h2, h3⟩ := both_true h2
  rw [veqF_eq _ _ h1, veqF_eq _ _ h2, Nat.eq_of_beq_eq_true h3]
theorem entsEq_eq : ∀ {a b : List MapEntry}, entsEq a b = true → a = b
  | [], [], _ => rfl
  | [], _ :: _, h => by cases h
  | _ :: _, [], h => by cases h
  | x :: a, y :: b, h => by
    have h : cond (entEq x y) (entsEq a b) false = true := h
    cases hv : entEq x y with
    | false => rw [hv] at h; cases h
    | true => rw [hv] at h; rw [entEq_eq hv, entsEq_eq h]
/-- Rows and maps that are the same; of other objects nothing is said. -/
def objEq (a b : CObj) : Bool := @CObj.rec (fun _ => Bool)
  (fun c m sz => @CObj.rec (fun _ => Bool) (fun c' m' sz' => both (listEq c c') (both (Nat.beq (mIx m) (mIx m')) (Nat.beq sz sz'))) (fun _ _ _ => false) (fun _ _ _ _ => false) (fun _ _ _ _ _ _ _ _ => false) (fun _ => false) b)
  (fun es n t => @CObj.rec (fun _ => Bool) (fun _ _ _ => false) (fun es' n' t' => both (entsEq es es') (both (Nat.beq n n') (Nat.beq t t'))) (fun _ _ _ _ => false) (fun _ _ _ _ _ _ _ _ => false) (fun _ => false) b)
  (fun _ _ _ _ => false) (fun _ _ _ _ _ _ _ _ => false) (fun _ => false) a
theorem objEq_eq {a b : CObj} (h : objEq a b = true) : a = b := by
  cases a <;> first | (cases h; done) | skip
  · cases b <;> first | (cases h; done) | skip
    obtain ⟨h1, h2⟩ := both_true h
    obtain ⟨h2, h3⟩ := both_true h2
    rw [listEq_eq h1, mIx_inj h2, Nat.eq_of_beq_eq_true h3]
  · cases b <;> first | (cases h; done) | skip
    obtain ⟨h1, h2⟩ := both_true h
    obtain ⟨h2, h3⟩ := both_true h2
    rw [entsEq_eq h1, Nat.eq_of_beq_eq_true h2, Nat.eq_of_beq_eq_true h3]

/-! ### Lists of objects -/
abbrev Objs := List (Nat × CObj)
def hasAll (l : Objs) (h : PM CObj) : Bool := @List.rec (Nat × CObj) (fun _ => Bool) true (fun x _ ih => @Prod.rec Nat CObj (fun _ => Bool) (fun id o => onSomeB (fun o' => cond (objEq o o') ih false) ((gC (path id)).run h)) x) l
def putAll (l : Objs) (h : PM CObj) : PM CObj := @List.rec (Nat × CObj) (fun _ => PM CObj → PM CObj) (fun h => h) (fun x _ ih h => @Prod.rec Nat CObj (fun _ => PM CObj) (fun id o => ih ((uC (path id)).run o h)) x) l h
def delAll (l : Objs) (h : PM CObj) : PM CObj := @List.rec (Nat × CObj) (fun _ => PM CObj → PM CObj) (fun h => h) (fun x _ ih h => @Prod.rec Nat CObj (fun _ => PM CObj) (fun id _ => ih (h.del id)) x) l h
theorem hasAll_true : ∀ {l : Objs} {h : PM CObj}, hasAll l h = true → ∀ id o, (id, o) ∈ l → h.get id = some o
  | [], _, _, _, _, hm => by cases hm
  | (i, x) :: l, h, ha, id, o, hm => by
    obtain ⟨o', h1, h2⟩ := onSomeB_true (show onSomeB _ ((gC (path i)).run h) = true from ha)
    rw [gC_get] at h1
    cases ho : objEq x o' with
    | false => rw [ho] at h2; cases h2
    | true =>
      rw [ho] at h2
      rcases List.mem_cons.1 hm with hm | hm
      · cases hm; rw [h1, objEq_eq ho]
      · exact hasAll_true (show hasAll l h = true from h2) id o hm
theorem putAll_get : ∀ {l : Objs} {h : PM CObj} {id : Nat} {o : CObj}, (putAll l h).get id = some o → (id, o) ∈ l ∨ h.get id = some o
  | [], _, _, _, hg => .inr hg
  | (i, x) :: l, h, id, o, hg => by
    rcases putAll_get (l := l) (show (putAll l ((uC (path i)).run x h)).get id = some o from hg) with h1 | h1
    · exact .inl (List.mem_cons_of_mem _ h1)
    · rw [uC_set, PM.get_set] at h1
      split at h1
      · rename_i hid
        cases Option.some.inj h1
        rw [hid]; exact .inl List.mem_cons_self
      · exact .inr h1
theorem delAll_get : ∀ {l : Objs} {h : PM CObj} {id : Nat} {o : CObj}, (delAll l h).get id = some o → (∀ x, (id, x) ∉ l) ∧ h.get id = some o
  | [], _, _, _, hg => ⟨fun _ hm => (by cases hm), hg⟩
  | (i, x) :: l, h, id, o, hg => by
    obtain ⟨h1, h2⟩ := delAll_get (l := l) (show (delAll l (h.del i)).get id = some o from hg)
    rw [PM.get_del] at h2
    split at h2
    · cases h2
    · rename_i hid
      refine ⟨fun y hm => ?_, h2⟩
      rcases List.mem_cons.1 hm with hm | hm
      · cases hm; exact hid rfl
      · exact h1 y hm

/-- A closed run: the function, its arguments, the part of memory that it needs ('keep': what is as it was behind it; 'turn': what is not), what it yields, what is new or turned. -/
structure Entry where
  f : FuncId
  args : List Value
  nx : Nat
  up : Nat
  keep : Objs
  turn : Objs
  v : Value
  out : Objs
  nx' : Nat
  up' : Nat
def Entry.st (e : Entry) : CS := ⟨putAll e.turn (putAll e.keep .nil), e.nx, e.up⟩
def goodRes (e : Entry) (o : Option (Value × CS)) : Bool := onSomeB (fun p => @Prod.rec Value CS (fun _ => Bool) (fun v s => @CS.rec (fun _ => Bool) (fun h nx up => cond (veqF v e.v) (cond (Nat.beq nx e.nx') (cond (Nat.beq up e.up') (cond (hasAll e.keep h) (hasAll e.out h) false) false) false) false) s) p) o
/-- The entry says what the run does. -/
def Good (E : Rec) (e : Entry) : Prop := goodRes e (E.F e.f e.args e.st) = true
theorem cond_b {a b : Bool} (h : cond a b false = true) : a = true ∧ b = true := by
  cases a with
  | true => exact ⟨rfl, h⟩
  | false => cases h
theorem good_run {E : Rec} {e : Entry} (h : Good E e) : ∃ s', E.F e.f e.args e.st = some (e.v, s') ∧ s'.nx = e.nx' ∧ s'.up = e.up' ∧ hasAll e.keep s'.h = true ∧ hasAll e.out s'.h = true := by
  obtain ⟨⟨v, ⟨h, nx, up⟩⟩, h1, h2⟩ := onSomeB_true (show onSomeB _ (E.F e.f e.args e.st) = true from h)
  obtain ⟨h3, h4⟩ := cond_b h2
  obtain ⟨h5, h6⟩ := cond_b h4
  obtain ⟨h7, h8⟩ := cond_b h6
  obtain ⟨h9, h10⟩ := cond_b h8
  refine ⟨_, by rw [h1, veqF_eq _ _ h3], Nat.eq_of_beq_eq_true h5, Nat.eq_of_beq_eq_true h7, h9, h10⟩
/-- A call is answered by an entry. -/
def memo (e : Entry) (args : List Value) (s : CS) : Option (Value × CS) := @CS.rec (fun _ => Option (Value × CS)) (fun h nx up => cond (Nat.beq nx e.nx) (cond (Nat.beq up e.up) (cond (listEq e.args args) (cond (hasAll e.keep h) (cond (hasAll e.turn h)
  (some (e.v, ⟨putAll e.out (delAll e.turn h), e.nx', e.up'⟩)) none) none) none) none) none) s
theorem memo_ok {m : Nat} {E : Rec} (hE : RecOk P m E) {e : Entry} (hg : Good E e) {args : List Value} {s s' : CS} {v : Value} (h : memo e args s = some (v, s')) {r : Ren} {w : World} {args' : List Value} (hR : R P r s w) (ha : VL r args args') :
    CallsIn Fence.wide 0 P e.f args'.toArray w (FPost P r s w v s') := by
  obtain ⟨hh, nx, up⟩ := s
  obtain ⟨h1, k1⟩ := cond_k (show cond (Nat.beq nx e.nx) _ none = some (v, s') from h)
  obtain ⟨h2, k2⟩ := cond_k k1
  obtain ⟨h3, k3⟩ := cond_k k2
  obtain ⟨h4, k4⟩ := cond_k k3
  obtain ⟨h5, k5⟩ := cond_k k4
  have e1 := Nat.eq_of_beq_eq_true h1
  have e2 := Nat.eq_of_beq_eq_true h2
  have e3 := listEq_eq h3
  subst e1 e2 e3
  obtain ⟨s1', g1, g2, g3, g4, g5⟩ := good_run hg
  have g4 := hasAll_true g4
  have g5 := hasAll_true g5
  have h4 := hasAll_true h4
  have h5 := hasAll_true h5
  have hin : ∀ {id o}, e.st.h.get id = some o → (id, o) ∈ e.turn ∨ (id, o) ∈ e.keep := fun {id o} ho => by
    rcases putAll_get (show (putAll e.turn (putAll e.keep .nil)).get id = some o from ho) with h | h
    · exact .inl h
    · rcases putAll_get h with h | h
      · exact .inr h
      · rw [PM.get_nil] at h; cases h
  have hsub : ∀ id o, e.st.h.get id = some o → hh.get id = some o := fun id o ho => by
    rcases hin ho with h | h
    · exact h5 id o h
    · exact h4 id o h
  have hR1 : R P r e.st w := R.sub hR hsub (fun id l hl => (hR.dom id l hl).1) (fun id o ho => hR.nx id o (hsub id o ho)) hR.lt
  refine CallsIn.imp (hE.F g1 hR1 ha) ?_
  rintro en w' ⟨v', r', rfl, q1, q2, q3⟩
  cases Option.some.inj k5
  have hnx := q3.nx
  rw [g2, g3] at hnx
  have hnx : (e.nx' = e.nx ∨ e.up ≤ e.nx') ∧ e.up ≤ e.up' := hnx
  have hlt : e.nx < e.up := hR.lt
  have := R.frame (s' := ⟨putAll e.out (delAll e.turn hh), e.nx', e.up'⟩) (fun id l hl => (hR.dom id l hl).1) (Step.refl r ⟨hh, e.nx, e.up⟩ w) hR hsub (fun id l hl => (hR.dom id l hl).1) q2 q3
    (fun id hid => ⟨by
      cases hx : hh.get id with
      | none => rfl
      | some o =>
        have h6 := hR.nx id o hx
        have hid : id = e.nx ∨ e.up ≤ id := hid
        simp only at h6
        omega, hid⟩)
    (fun id o ho => by
      rcases putAll_get ho with ho | ho
      · exact .inl (g5 id o ho)
      · obtain ⟨h6, h7⟩ := delAll_get ho
        cases hx : e.st.h.get id with
        | none => exact .inr ⟨h7, rfl⟩
        | some o' =>
          rcases hin hx with hm | hm
          · exact absurd hm (h6 o')
          · have h8 := h4 id o' hm
            have h7 : hh.get id = some o := h7
            rw [h7] at h8
            cases Option.some.inj h8
            exact .inl (g4 id o hm))
    (fun id l hl => by have h6 := (q2.dom id l hl).1; rw [g2, g3] at h6; exact h6)
    (fun id o ho => by
      rcases putAll_get ho with ho | ho
      · have h6 := q2.nx id o (g5 id o ho)
        rw [g2, g3] at h6; exact h6
      · obtain ⟨_, h7⟩ := delAll_get ho
        have h6 := hR.nx id o h7
        simp only at h6 ⊢
        omega)
    (by have h6 := q2.lt; rw [g2, g3] at h6; exact h6)
    hnx
  exact ⟨v', r', rfl, q1, this.1, this.2⟩

/-- Calls of one function are answered by entries; else by a hook or a run behind them. -/
def memos (l : List Entry) (k : List Value → CS → Option (Value × CS)) : List Value → CS → Option (Value × CS) := fun args s => @List.rec Entry (fun _ => Option (Value × CS)) (k args s) (fun e _ ih => alt2 (memo e args s) ih) l
theorem memos_ok {f : FuncId} {k : List Value → CS → Option (Value × CS)} (hk : ∀ {args s v s'}, k args s = some (v, s') → ∀ {r w args'}, R P r s w → VL r args args' → CallsIn Fence.wide 0 P f args'.toArray w (FPost P r s w v s')) : ∀ {l : List Entry},
    (∀ e ∈ l, e.f = f ∧ ∃ m E, RecOk P m E ∧ Good E e) → ∀ {args s v s'}, memos l k args s = some (v, s') → ∀ {r w args'}, R P r s w → VL r args args' → CallsIn Fence.wide 0 P f args'.toArray w (FPost P r s w v s')
  | [], _, _, _, _, _, h, _, _, _, hR, ha => hk h hR ha
  | e :: l, hl, args, s, v, s', h, r, w, args', hR, ha => by
    rcases alt2_some (show alt2 (memo e args s) (memos l k args s) = some (v, s') from h) with h | h
    · obtain ⟨hf, m, E, hE, hg⟩ := hl e List.mem_cons_self
      rw [← hf]
      exact memo_ok hE hg h hR ha
    · exact memos_ok hk (fun e he => hl e (List.mem_cons_of_mem _ he)) h hR ha
end
end Go.Cl

/- Short words for the values of entries. -/
namespace Go.Cl
noncomputable section

/-- So many bytes of a number, the least first; a row behind them. -/
def bs (n N : Nat) (rest : List Value) : List Value := @Nat.rec (fun _ => Nat → List Value) (fun _ => rest) (fun _ ih N => v8 (Nat.mod N 256) :: ih (Nat.div N 256)) n N
def I (n : Nat) : Value := .int .i64 (.ofNat n)
def J (n : Nat) : Value := .int .i64 (.negSucc n)
def U (n : Nat) : Value := .int .u64 (.ofNat n)
def bT : Value := .bool true
def bF : Value := .bool false
def pN : Value := .pointer none
def pP (a o : Nat) : Value := .pointer (some ⟨a, o, none⟩)
def sN : Value := .slice none 0 0
def sS (a o l c : Nat) : Value := .slice (some ⟨a, o, none⟩) l c
def sB (a o l : Nat) : Value := .slice (some ⟨a, o, none⟩) l big
def mN : Value := .map none
def mM (a : Nat) : Value := .map (some a)
end
end Go.Cl

