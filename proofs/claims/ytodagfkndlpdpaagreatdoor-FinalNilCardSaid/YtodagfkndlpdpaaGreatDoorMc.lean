/- the evaluator and its soundness; drawn regions. -/
import Derived.Test.YtodagfkndlpdpaaGreatDoorMb
import Derived.RangeFuncLeaves
import Derived.LoopNIn
import Derived.Scope
import Derived.Test.YtodagfkndlpdpaaGreatDoorMa
import Derived.OrdersIn
/- The clean machine: code, functions, ranges over functions, by one recursion on fuel. -/
namespace Go.Cl
noncomputable section

/-- A deferred call; the mark of a range over a function. -/
inductive DItem where
  | call (f : FuncId) (args cap : Array Value)
  | mark (id : Nat)

abbrev CodeRes := Option (Exit × PM Value × List DItem × CS)
structure Rec where
  F : FuncId → List Value → CS → Option (Value × CS)
  C : Option Nat → Nat → Code → PM Value → List DItem → CS → CodeRes
/-- What stands for a function by a contract of its own. -/
abbrev Hooks := FuncId → Option (List Value → CS → Option (Value × CS))

def putT (T : PM Value) (N : Nat) (d : Option Tmp) (v : Value) : PM Value := match d with
  | some t => if t < N then T.set t v else T
  | none => T
def setAll (T : PM Value) (N : Nat) : List Tmp → List Value → PM Value
  | t :: ts, v :: vs => setAll (putT T N (some t) v) N ts vs
  | _, _ => T
def jumpOf : Exit → Option Code
  | .ret => some .ret
  | .exit id => some (.exit id)
  | .goto l => some (.goto l)
  | _ => none

/-- One round of a range over a function. -/
def stepY (R : Rec) (l : Nat) (args : List Value) (s : CS) : Option (Value × CS) :=
  match s.h.get l with
  | some (.loop .ready _ T N ps as bd _) => if args.length = ps.length then
      match R.C (some l) N as (setAll T N ps args) [] s with
      | some (.normal, T1, D1, s1) => (match s1.h.get l with
        | some (.loop .ready pend T0 N0 ps0 as0 bd0 d) => (match R.C (some l) N bd T1 D1 ⟨s1.h.set l (.loop .busy pend T0 N0 ps0 as0 bd0 d), s1.nx, s1.up⟩ with
          | some (e, _, _, s2) => (match s2.h.get l with
            | some (.loop _ _ T0 N0 ps0 as0 bd d) => (match e with
              | .normal => some (.bool true, ⟨s2.h.set l (.loop .ready none T0 N0 ps0 as0 bd d), s2.nx, s2.up⟩)
              | .ret => some (.bool false, ⟨s2.h.set l (.loop .done (some .ret) T0 N0 ps0 as0 bd d), s2.nx, s2.up⟩)
              | .exit id => some (.bool false, ⟨s2.h.set l (.loop .done (some (.exit id)) T0 N0 ps0 as0 bd d), s2.nx, s2.up⟩)
              | .goto t => some (.bool false, ⟨s2.h.set l (.loop .done (some (.goto t)) T0 N0 ps0 as0 bd d), s2.nx, s2.up⟩)
              | _ => none)
            | _ => none)
          | none => none)
        | _ => none)
      | _ => none
    else none
  | _ => none

variable (X : Ctx)

/-- One operation. -/
def stepO (R : Rec) (ro : Option Nat) (o : Oper) (T : PM Value) (D : List DItem) (s : CS) : Option (Value × List DItem × CS) :=
  match cop X T s o with
  | some (.val v s') => some (v, D, s')
  | some (.call f args) => (match R.F f args s with
    | some (v, s') => some (v, D, s')
    | none => none)
  | some (.yield l args) => (match stepY R l args s with
    | some (v, s') => some (v, D, s')
    | none => none)
  | some (.dfr f args cap) => if ro = none then some (undef, .call f args cap :: D, s) else none
  | some (.pcall v) => some (v, D, s)
  | _ => none
/-- Is an operation wanted? -/
def wantedT (ops : Array Oper) (T : PM Value) (o : Oper) : Option Bool :=
  match o.guard with
  | none => some true
  | some (j, want) => match (ops[j]?).bind (·.dst) with
    | some t => match T.get t with
      | some (.bool b) => some (b == want)
      | some (.tuple _) => some false
      | _ => none
    | none => none
/-- Operations, one behind the other. -/
def stepS (R : Rec) (ro : Option Nat) (N : Nat) (ops : Array Oper) : List Oper → PM Value → List DItem → CS → Option (PM Value × List DItem × CS)
  | [], T, D, s => some (T, D, s)
  | o :: l, T, D, s => match wantedT ops T o with
    | some true => (match stepO X R ro o T D s with
      | some (v, D', s') => stepS R ro N ops l (putT T N o.dst v) D' s'
      | none => none)
    | some false => stepS R ro N ops l (putT T N o.dst undef) D s
    | none => none

/-- Where a range over a function keeps its deferred calls. -/
def rfBase (ro : Option Nat) (D : List DItem) (s : CS) : Option (Nat × List DItem × CS) := match ro with
  | none => some (s.nx, .mark s.nx :: D, ⟨s.h.set s.nx (.deferred false), s.up, s.up + 1⟩)
  | some l => (match s.h.get l with
    | some (.loop _ _ _ _ _ _ _ d) => some (d, D, s)
    | _ => none)
/-- Code. 'dr': operations whose order is drawn. -/
def stepC (dr : Rec → Option Nat → Nat → Array Oper → PM Value → List DItem → CS → Option (PM Value × List DItem × CS)) (R : Rec) (ro : Option Nat) (N : Nat) (c : Code) (T : PM Value) (D : List DItem) (s : CS) : CodeRes :=
  match c with
  | .skip | .label _ => some (.normal, T, D, s)
  | .exit id => some (.exit id, T, D, s)
  | .goto l => some (.goto l, T, D, s)
  | .ret => some (.ret, T, D, s)
  | .seq a b => (match R.C ro N a T D s with
    | some (.normal, T', D', s') => R.C ro N b T' D' s'
    | x => x)
  | .cond c a b => (match ev X T c with
    | some (.bool true) => R.C ro N a T D s
    | some (.bool false) => R.C ro N b T D s
    | _ => none)
  | .block id b => (match R.C ro N b T D s with
    | some (.exit id', T', D', s') => some (if id' = id then .normal else .exit id', T', D', s')
    | x => x)
  | .loop b => (match R.C ro N b T D s with
    | some (.normal, T', D', s') => R.C ro N (.loop b) T' D' s'
    | x => x)
  | .scope b => if ro = none then (match R.C ro N b T D s with
    | some (.goto _, _, _, _) => none
    | x => x) else none
  | .region _ ops draw => (match (if draw then dr R ro N ops T D s else stepS X R ro N ops ops.toList T D s) with
    | some (T', D', s') => some (.normal, T', D', s')
    | none => none)
  | .rangeFunc g ps as bd => (match ev X T g with
    | some (.func (.func f) fi ca) => (match X.fn f with
      | some _ =>
        (match rfBase ro D s with
        | some (d, D', s1) =>
          (match R.F f (fi.toList ++ [.func (.yield s1.nx) #[] #[]] ++ ca.toList) ⟨s1.h.set s1.nx (.loop .ready none T N ps.toList as bd d), s1.up, s1.up + 1⟩ with
          | some (_, s2) => (match s2.h.get s1.nx with
            | some (.loop st pend T0 N0 ps0 as0 bd0 d0) => (match st with
              | .busy => none
              | _ =>
                let s3 : CS := ⟨s2.h.set s1.nx (.loop .exhausted pend T0 N0 ps0 as0 bd0 d0), s2.nx, s2.up⟩
                (match pend with
                | none => some (.normal, T, D', s3)
                | some c => R.C ro N c T D' s3))
            | _ => none)
          | none => none)
        | none => none)
      | none => none)
    | _ => none)
  | .refuse _ => none

def setArgs (T : PM Value) : Nat → List Value → PM Value
  | _, [] => T
  | i, v :: vs => setArgs (T.set i v) (i + 1) vs
/-- What the result variables hold. -/
def cResults (T : PM Value) (s : CS) : List ResultVar → Option (List Value)
  | [] => some []
  | .tmp t :: l => (match T.get t, cResults T s l with
    | some v, some vs => some (v :: vs)
    | _, _ => none)
  | .cell a t :: l => (match T.get a, X.tt t with
    | some p, some i => (match ld s i p, cResults T s l with
      | some v, some vs => some (v :: vs)
      | _, _ => none)
    | _, _ => none)
def retV : List Value → Value
  | [v] => v
  | vs => .tuple vs.toArray
/-- The deferred calls of a frame that leaves. -/
def stepD (R : Rec) : List DItem → CS → Option CS
  | [], s => some s
  | .mark id :: l, s => (match s.h.get id with
    | some (.deferred false) => stepD R l ⟨s.h.set id (.deferred true), s.nx, s.up⟩
    | _ => none)
  | .call f args cap :: l, s => (match X.fn f with
    | some fn => (match fn.body with
      | some c => if args.size + cap.size ≤ fn.ntmps then (match R.C none fn.ntmps c (setArgs .nil 0 (args.toList ++ cap.toList)) [] s with
          | some (e, T, [], s1) => (match e with
            | .normal | .ret => (match cResults X T s1 fn.results.toList with
              | some _ => stepD R l s1
              | none => none)
            | _ => none)
          | _ => none)
        else none
      | none => none)
    | none => none)
/-- A function. -/
def stepF (H : Hooks) (R : Rec) (f : FuncId) (args : List Value) (s : CS) : Option (Value × CS) :=
  match H f with
  | some h => h args s
  | none => match X.fn f with
    | some fn => match fn.body with
      | some c => if args.length ≤ fn.ntmps then match R.C none fn.ntmps c (setArgs .nil 0 args) [] s with
          | some (e, T, D, s1) => (match e with
            | .normal | .ret => (match stepD X R D s1 with
              | some s2 => (match cResults X T s2 fn.results.toList with
                | some vs => some (retV vs, s2)
                | none => none)
              | none => none)
            | _ => none)
          | none => none
        else none
      | none => none
    | none => none

def cev (H : Hooks) (dr : Rec → Option Nat → Nat → Array Oper → PM Value → List DItem → CS → Option (PM Value × List DItem × CS)) : Nat → Rec
  | 0 => ⟨fun _ _ _ => none, fun _ _ _ _ _ _ => none⟩
  | n + 1 => ⟨stepF X H (cev H dr n), stepC X dr (cev H dr n)⟩

end
end Go.Cl

/- Soundness of the clean machine's evaluator, first part: operations, rounds. -/
namespace Go.Cl
noncomputable section
variable {P : Program}

/-- The fence of a frame: of a function's own, or of a round. -/
def fe : Option Nat → Fence
  | none => Fence.wide
  | some b => Fence.wide.inRound b
def RO (r : Ren) : Option Nat → Option Nat → Prop
  | none, none => True
  | some l, some b => ∃ k, r l = some k ∧ k.b = b
  | _, _ => False
theorem RO.mono {r r' : Ren} (hm : ∀ a l, r a = some l → r' a = some l) {x y : Option Nat} (h : RO r x y) : RO r' x y := by
  cases x <;> cases y <;> first | exact h | (obtain ⟨k, h1, h2⟩ := h; exact ⟨k, hm _ _ h1, h2⟩)
theorem fe_fn (x : Option Nat) (f : FuncId) : (fe x).fn f := by cases x <;> trivial
theorem fe_depth (x : Option Nat) (n : Nat) : (fe x).depth.isSome = true → 1 ≤ n := by cases x <;> (intro h; cases h)
theorem fe_round (x : Option Nat) : (fe x).round = x := by cases x <;> rfl
theorem fe_in (x : Option Nat) (l : Nat) : (fe x).inRound l = fe (some l) := by cases x <;> rfl
theorem fe_calls {x : Option Nat} {n : Nat} {f : FuncId} {args : Array Value} {w : World} {Q : Ending → World → Prop} (h : CallsIn Fence.wide n P f args w Q) : CallsIn (fe x) n P f args w Q := by
  cases x
  · exact h
  · exact h

def DI (r : Ren) : DItem → Deferred → Prop
  | .call f args cap, d => ∃ args' cap', d = { target := .fn (.func f) cap', args := args' } ∧ VL r args.toList args'.toList ∧ VL r cap.toList cap'.toList
  | .mark id, d => ∃ k, r id = some k ∧ d = { target := .collected k.b, args := #[] }
def DR (r : Ren) : List DItem → List Deferred → Prop
  | [], [] => True
  | x :: xs, y :: ys => DI r x y ∧ DR r xs ys
  | _, _ => False
theorem DI.mono {r r' : Ren} (hm : ∀ a l, r a = some l → r' a = some l) {x : DItem} {y : Deferred} (h : DI r x y) : DI r' x y := by
  cases x with
  | call f args cap => obtain ⟨a, c, h1, h2, h3⟩ := h; exact ⟨a, c, h1, h2.mono hm, h3.mono hm⟩
  | mark id => obtain ⟨k, h1, h2⟩ := h; exact ⟨k, hm _ _ h1, h2⟩
theorem DR.mono {r r' : Ren} (hm : ∀ a l, r a = some l → r' a = some l) : ∀ {x : List DItem} {y : List Deferred}, DR r x y → DR r' x y
  | [], [], _ => trivial
  | _ :: _, _ :: _, h => ⟨h.1.mono hm, DR.mono hm h.2⟩
  | [], _ :: _, h => h.elim
  | _ :: _, [], h => h.elim

/-- How code ends. -/
def CPost (P : Program) (r : Ren) (s : CS) (w : World) (N : Nat) (e : Exit) (T' : PM Value) (D' : List DItem) (s' : CS) : Exit → Act → World → Prop :=
  fun e' a' w' => e' = e ∧ ∃ r', R P r' s' w' ∧ TR r' T' N a'.tmps ∧ DR r' D' a'.defers ∧ Step r s w r' s' w'
/-- How a function ends. -/
def FPost (P : Program) (r : Ren) (s : CS) (w : World) (v : Value) (s' : CS) : Ending → World → Prop :=
  fun e w' => ∃ v' r', e = .returned v' ∧ VR r' v v' ∧ R P r' s' w' ∧ Step r s w r' s' w'
theorem CPost.trans {r r1 : Ren} {s s1 : CS} {w w1 : World} (hR : R P r s w) (h : Step r s w r1 s1 w1) {N : Nat} {e : Exit} {T' : PM Value} {D' : List DItem} {s' : CS} {e' : Exit} {a' : Act} {w' : World}
    (k : CPost P r1 s1 w1 N e T' D' s' e' a' w') : CPost P r s w N e T' D' s' e' a' w' := by
  obtain ⟨h1, r', h2, h3, h4, h5⟩ := k
  exact ⟨h1, r', h2, h3, h4, h.trans (fun _ _ h => (hR.dom _ _ h).1) h5⟩
theorem FPost.trans {r r1 : Ren} {s s1 : CS} {w w1 : World} (hR : R P r s w) (h : Step r s w r1 s1 w1) {v : Value} {s' : CS} {e' : Ending} {w' : World}
    (k : FPost P r1 s1 w1 v s' e' w') : FPost P r s w v s' e' w' := by
  obtain ⟨v', r', h1, h2, h3, h4⟩ := k
  exact ⟨v', r', h1, h2, h3, h.trans (fun _ _ h => (hR.dom _ _ h).1) h4⟩

/-- A level of the evaluator is sound. -/
structure RecOk (P : Program) (n : Nat) (E : Rec) : Prop where
  F : ∀ {f args s v s'}, E.F f args s = some (v, s') → ∀ {r w args'}, R P r s w → VL r args args' → CallsIn Fence.wide 0 P f args'.toArray w (FPost P r s w v s')
  C : ∀ {ro N c T D s e T' D' s'}, E.C ro N c T D s = some (e, T', D', s') → ∀ {r w ob a}, RO r ro ob → R P r s w → TR r T N a.tmps → DR r D a.defers → c.wpIn (fe ob) 0 P (CPost P r s w N e T' D' s') a w
  L : ∀ {ro N c T D s e T' D' s'}, E.C ro N (.loop c) T D s = some (e, T', D', s') → ∀ {r w ob a}, RO r ro ob → R P r s w → TR r T N a.tmps → DR r D a.defers → Code.roundsIn (fe ob) 0 P c (CPost P r s w N e T' D' s') n a w

theorem CallsIn.imp {F : Fence} {n : Nat} {f : FuncId} {args : Array Value} {w : World} {Q Q' : Ending → World → Prop} (h : CallsIn F n P f args w Q) (hq : ∀ e w', Q e w' → Q' e w') : CallsIn F n P f args w Q' :=
  ⟨h.1, fun cs hr => let ⟨e, w', fr, q, x⟩ := h.2 cs hr; ⟨e, w', fr, hq _ _ q, x⟩⟩

theorem TR.put {r : Ren} {T : PM Value} {N : Nat} {a : Act} (h : TR r T N a.tmps) {d : Option Tmp} {v v' : Value} (hv : VR r v v') : TR r (putT T N d v) N (a.put d v').tmps := by
  cases d with
  | none => exact h
  | some t =>
    simp only [putT, Act.put]
    split
    · rename_i ht
      refine ⟨by simpa using h.1, fun i x hi => ?_⟩
      rw [PM.get_set] at hi
      split at hi
      · rename_i hit
        simp only [Option.some.injEq] at hi
        subst hit; subst hi
        exact ⟨v', by rw [Array.getElem?_setIfInBounds]; simp [h.1, ht], hv⟩
      · rename_i hit
        obtain ⟨y, h1, h2⟩ := h.2 i x hi
        exact ⟨y, by rw [Array.getElem?_setIfInBounds]; simp [Ne.symm hit, h1], h2⟩
    · rename_i ht
      rw [Array.setIfInBounds_eq_of_size_le (by rw [h.1]; exact Nat.le_of_not_lt ht)]
      exact h
theorem TR.setAll {r : Ren} {N : Nat} : ∀ (ts : List Tmp) {T : PM Value} {a : Array Value} {vs vs' : List Value}, TR r T N a → VL r vs vs' →
    TR r (setAll T N ts vs) N ((ts.zip vs').foldl (fun tmps (t, v) => tmps.setIfInBounds t v) a)
  | [], T, a, vs, vs', h, _ => by simpa [Cl.setAll] using h
  | t :: ts, T, a, [], [], h, _ => by simpa [Cl.setAll] using h
  | t :: ts, T, a, v :: vs, v' :: vs', h, hv => by
    simp only [Cl.setAll, List.zip_cons_cons, List.foldl_cons]
    exact TR.setAll ts (TR.put (a := { tmps := a, defers := [] }) (d := some t) h hv.1) hv.2
  | _ :: _, _, _, [], _ :: _, _, h => h.elim
  | _ :: _, _, _, _ :: _, [], _, h => h.elim

theorem Act.put_defers (a : Act) (d : Option Tmp) (v : Value) : (a.put d v).defers = a.defers := by cases d <;> rfl

theorem wantedT_ok {r : Ren} {ops : Array Oper} {T : PM Value} {N : Nat} {t : Array Value} {o : Oper} {b : Bool} (hT : TR r T N t) (h : wantedT ops T o = some b) : Region.wanted o (yielded ops t) = b := by
  unfold wantedT at h
  unfold Region.wanted
  split at h
  · rename_i hg; simp only [Option.some.injEq] at h; simp [hg, h]
  · rename_i j want hg
    simp only [hg]
    split at h
    · rename_i d hd
      split at h
      · rename_i x hx
        obtain ⟨v', h1, h2⟩ := hT.2 _ _ hx
        cases h2
        simp only [Option.some.injEq] at h
        simp [yielded, hd, h1, ← h]
      · rename_i x hx
        obtain ⟨v', h1, h2⟩ := hT.2 _ _ hx
        obtain ⟨cs, rfl, _⟩ := VR.tuple_iff.1 h2
        simp only [Option.some.injEq] at h
        simp [yielded, hd, h1, ← h]
      · cases h
    · cases h

theorem cop_defer {X : Ctx} {T : PM Value} {s : CS} {o : Oper} {c : Call} {x : CRes} (ho : o.op = .defer c) (h : cop X T s o = some x) : ∃ f args cap, x = .dfr f args cap := by
  simp only [cop, ho, oDefer] at h
  split at h
  · split at h
    · split at h
      · simp only [Option.some.injEq] at h; exact ⟨_, _, _, h.symm⟩
      · cases h
    · cases h
  · cases h

theorem run_getLoop {l : Nat} {rec : Loop} {w : World} (h : w.heap[l]? = some (.loop rec)) : (Instr.getLoop l).run P w = .ok rec w := by
  simp [Instr.getLoop, run_getObj h (by simp)]

/-- A round. -/
theorem stepY_ok {n : Nat} {E : Rec} (hE : RecOk P n E) {l : Nat} {args : List Value} {s s' : CS} {v : Value} (h : stepY E l args s = some (v, s')) {r : Ren} {w : World} {args' : List Value} {k : Loc} (hR : R P r s w) (hr : r l = some k)
    (ha : VL r args args') (ob : Option Nat) : ∃ fn tmps as bd, (Instr.yield k.b args'.toArray).run P w = .ok (.round k.b fn tmps as bd) w ∧ RoundIn (fe ob) 0 P k.b fn tmps as bd w (FPost P r s w v s') := by
  unfold stepY at h
  split at h
  · rename_i pend T N ps as bd d hl
    split at h
    · rename_i hlen
      obtain ⟨fn, tmps, d', dl, hb, hT, hd, hd'⟩ := hR.obj _ _ _ hl hr
      refine ⟨fn, (ps.zip args').foldl (fun tmps (t, v) => tmps.setIfInBounds t v) tmps, as, bd, ?_, ?_⟩
      · have hlen' : ps.toArray.size = args'.toArray.size := by simp [ha.length, hlen]
        simp only [Instr.yield, Sem.run_bind, run_getLoop hb, Result.andThen_ok]
        simp only [hlen', ne_eq, not_true_eq_false, if_false, Sem.run_pure]
        simp
      split at h
      · rename_i T1 D1 s1 hA
        refine roundIn_of_wpIn (fe_fn ob fn) ?_
        rw [fe_in]
        refine wpIn_mono (hE.C hA (ob := some k.b) ⟨k, hr, rfl⟩ hR (hT.setAll ps ha) trivial) ?_
        rintro e a1 w1 ⟨rfl, r1, hR1, hT1, hD1, hS1⟩
        simp only [Exit.then]
        have hk1 := hS1.mono _ _ hr
        split at h
        · rename_i pend0 T0 N0 ps0 as0 bd0 d0 hl1
          obtain ⟨fn0, tmps0, d0', dl0, hb0, hT0, hd0, hd0'⟩ := hR1.obj _ _ _ hl1 hk1
          have hbegin : (Instr.beginRound k.b).run P w1 = .ok () { w1 with heap := w1.heap.setIfInBounds k.b (.loop { state := .busy, pending := pend0, fn := fn0, tmps := tmps0, params := ps0.toArray, assign := as0, body := bd0, defers := d0' }) } := by
            simp only [Instr.beginRound, Sem.run_bind, run_getLoop hb0, Result.andThen_ok, run_setObj hb0 (by simp), Sem.run_pure]
          obtain ⟨h2a, hR2, hS2⟩ := setobj_ok (P := P) hR1 (o' := .loop .busy pend0 T0 N0 ps0 as0 bd0 d0) (ob' := (.loop { state := .busy, pending := pend0, fn := fn0, tmps := tmps0, params := ps0.toArray, assign := as0, body := bd0, defers := d0' })) hl1 hk1 rfl rfl hb0 (by simp)
            ⟨fn0, tmps0, d0', dl0, by simp [(hR1.dom _ _ hk1).2], hT0, hd0, hd0'⟩
          refine ⟨_, hbegin, ?_⟩
          split at h
          · rename_i e2 T2 D2 s2 hB
            refine wpIn_mono (hE.C hB (ob := some k.b) ⟨k, hk1, rfl⟩ hR2 hT1 hD1) ?_
            rintro e a3 w3 ⟨rfl, r3, hR3, _, _, hS3⟩
            have hk3 := hS3.mono _ _ hk1
            split at h
            · rename_i st3 pend3 T3 N3 ps3 as3 bd3 d3 hl3
              have hl3' : ∃ o, s2.h.get l = some o := ⟨_, hl3⟩
              have hend : ∀ (j : Option Code) (s4 : CS), s4 = ⟨s2.h.set l (.loop (if j.isNone then .ready else .done) j T3 N3 ps3 as3 bd3 d3), s2.nx, s2.up⟩ →
                  ∃ v' w', (Instr.endRound k.b j).run P w3 = .ok v' w' ∧ FPost P r s w (.bool j.isNone) s4 (.returned v') w' := by
                intro j s4 hs4
                obtain ⟨fn4, tmps4, d4', dl4, hb4, hT4, hd4, hd4'⟩ := hR3.obj _ _ _ hl3 hk3
                obtain ⟨h4a, hR4, hS4⟩ := setobj_ok (P := P) hR3 (o' := .loop (if j.isNone then .ready else .done) j T3 N3 ps3 as3 bd3 d3) (ob' := (.loop { state := (if j.isNone then .ready else .done), pending := j, fn := fn4, tmps := tmps4, params := ps3.toArray, assign := as3, body := bd3, defers := d4' })) hl3 hk3 rfl rfl hb4 (by simp)
                  ⟨fn4, tmps4, d4', dl4, by simp [(hR3.dom _ _ hk3).2], hT4, hd4, hd4'⟩
                subst hs4
                refine ⟨.bool j.isNone, _, ?_, .bool j.isNone, r3, rfl, .bool _, hR4, ?_⟩
                · simp only [Instr.endRound, Sem.run_bind, run_getLoop hb4, Result.andThen_ok, run_setObj hb4 (by simp), Sem.run_pure]
                · exact ((hS1.trans (fun _ _ h => (hR.dom _ _ h).1) hS2).trans (fun _ _ h => (hR.dom _ _ h).1) hS3).trans (fun _ _ h => (hR.dom _ _ h).1) hS4
              split at h
              · simp only [Option.some.injEq, Prod.mk.injEq] at h
                obtain ⟨rfl, h⟩ := h
                obtain ⟨v', w', q1, q2⟩ := hend none s' h.symm
                exact ⟨v', w', q1, q2⟩
              · simp only [Option.some.injEq, Prod.mk.injEq] at h
                obtain ⟨rfl, h⟩ := h
                obtain ⟨v', w', q1, q2⟩ := hend (some .ret) s' h.symm
                exact ⟨v', w', q1, q2⟩
              · simp only [Option.some.injEq, Prod.mk.injEq] at h
                obtain ⟨rfl, h⟩ := h
                obtain ⟨v', w', q1, q2⟩ := hend (some (.exit _)) s' h.symm
                exact ⟨v', w', q1, q2⟩
              · simp only [Option.some.injEq, Prod.mk.injEq] at h
                obtain ⟨rfl, h⟩ := h
                obtain ⟨v', w', q1, q2⟩ := hend (some (.goto _)) s' h.symm
                exact ⟨v', w', q1, q2⟩
              · cases h
            · cases h
          · cases h
        · cases h
      · cases h
    · cases h
  · cases h

/-- One operation. -/
theorem stepO_ok {X : Ctx} (hX : COk P X) {n : Nat} {E : Rec} (hE : RecOk P n E) {ro ob : Option Nat} {o : Oper} {T : PM Value} {N : Nat} {D D' : List DItem} {s s' : CS} {v : Value} (h : stepO X E ro o T D s = some (v, D', s'))
    {r : Ren} {w : World} {a : Act} (hro : RO r ro ob) (hR : R P r s w) (hT : TR r T N a.tmps) (hD : DR r D a.defers) {next : Act → World → Prop} {Q : Exit → Act → World → Prop}
    (hn : ∀ v' ds' r' w', VR r' v v' → R P r' s' w' → DR r' D' ds' → Step r s w r' s' w' → next ({ a with defers := ds' }.put o.dst v') w') : o.wpIn (fe ob) 0 P a w next Q := by
  refine ⟨fun f _ => fe_fn ob f, ?_⟩
  rw [fe_round]
  unfold stepO at h
  by_cases hdf : ∃ c, o.op = .defer c
  · obtain ⟨c, hc⟩ := hdf
    split at h
    · rename_i hx; obtain ⟨_, _, _, hy⟩ := cop_defer hc hx; cases hy
    · rename_i hx; obtain ⟨_, _, _, hy⟩ := cop_defer hc hx; cases hy
    · rename_i hx; obtain ⟨_, _, _, hy⟩ := cop_defer hc hx; cases hy
    · rename_i f args cap hx
      split at h
      · rename_i hnone
        subst hnone
        simp only [Option.some.injEq, Prod.mk.injEq] at h
        obtain ⟨rfl, rfl, rfl⟩ := h
        cases ob with
        | some b => exact hro.elim
        | none =>
          obtain ⟨args', cap', h1, h2, h3⟩ := cop_ok hX hR hT hx
          rw [Oper.semAt_none, h1]
          simp only [Oper.uponIn_defer]
          exact hn undef _ r w undef_vr hR ⟨⟨args', cap', rfl, h2, h3⟩, hD⟩ (Step.refl _ _ _)
      · cases h
    · rename_i hx; obtain ⟨_, _, _, hy⟩ := cop_defer hc hx; cases hy
    · cases h
  · have hsem := Oper.semAt_eq ob a.eval o (fun c hc => hdf ⟨c, hc⟩)
    rw [hsem]
    split at h
    · rename_i hx
      simp only [Option.some.injEq, Prod.mk.injEq] at h
      obtain ⟨rfl, rfl, rfl⟩ := h
      obtain ⟨nx, v', r', w', h1, h2, h3, h4, h5⟩ := cop_ok hX hR hT hx
      rw [h1]
      have := hn v' a.defers r' w' h3 h4 (hD.mono h5.mono) h5
      rcases h2 with rfl | ⟨rfl, rfl⟩
      · rw [Oper.uponIn_value]; exact this
      · rw [Oper.uponIn_skip]; exact this
    · rename_i f args hx
      obtain ⟨args', h1, h2⟩ := cop_ok hX hR hT hx
      split at h
      · rename_i hF
        simp only [Option.some.injEq, Prod.mk.injEq] at h
        obtain ⟨rfl, rfl, rfl⟩ := h
        rw [h1, Oper.uponIn_enter]
        refine ⟨fe_depth ob 0, fe_calls (CallsIn.imp (hE.F hF hR h2) ?_)⟩
        rintro e w' ⟨v', r', rfl, h3, h4, h5⟩
        exact hn v' a.defers r' w' h3 h4 (hD.mono h5.mono) h5
      · cases h
    · rename_i l args hx
      obtain ⟨k, args', h1, h2, h3⟩ := cop_ok hX hR hT hx
      split at h
      · rename_i hY
        simp only [Option.some.injEq, Prod.mk.injEq] at h
        obtain ⟨rfl, rfl, rfl⟩ := h
        obtain ⟨fn, tmps, as, bd, h4, h5⟩ := stepY_ok hE hY hR h1 h3 ob
        rw [h2, h4, Oper.uponIn_round]
        refine ⟨fe_depth ob 0, h5.mono ?_⟩
        rintro e w' ⟨v', r', rfl, h6, h7, h8⟩
        exact hn v' a.defers r' w' h6 h7 (hD.mono h8.mono) h8
      · cases h
    · rename_i f args cap hx
      obtain ⟨args', cap', h1, h2, h3⟩ := cop_ok hX hR hT hx
      split at h
      · rename_i hnone
        simp only [Option.some.injEq, Prod.mk.injEq] at h
        obtain ⟨rfl, rfl, rfl⟩ := h
        rw [h1]
        simp only [Oper.uponIn_defer]
        exact hn undef _ r w undef_vr hR ⟨⟨args', cap', rfl, h2, h3⟩, hD⟩ (Step.refl _ _ _)
      · cases h
    · rename_i v0 hx
      obtain ⟨f, args', h1, h2⟩ := cop_ok hX hR hT hx
      simp only [Option.some.injEq, Prod.mk.injEq] at h
      obtain ⟨rfl, rfl, rfl⟩ := h
      rw [h1, Oper.uponIn_enter]
      refine ⟨fe_depth ob 0, fe_calls (CallsIn.imp h2 ?_)⟩
      rintro e w' ⟨v', r', rfl, h3, h4, h5⟩
      exact hn v' a.defers r' w' h3 h4 (hD.mono h5.mono) h5
    · cases h

/-- Operations, one behind the other. -/
theorem stepS_ok {X : Ctx} (hX : COk P X) {n : Nat} {E : Rec} (hE : RecOk P n E) {ro ob : Option Nat} {N : Nat} {ops : Array Oper} {Q : Exit → Act → World → Prop} : ∀ (l : List Oper) {T T' : PM Value} {D D' : List DItem} {s s' : CS} (_ : stepS X E ro N ops l T D s = some (T', D', s'))
    {r : Ren} {w : World} {a : Act} (_ : RO r ro ob) (_ : R P r s w) (_ : TR r T N a.tmps) (_ : DR r D a.defers)
    (_ : ∀ r' a' w', R P r' s' w' → TR r' T' N a'.tmps → DR r' D' a'.defers → Step r s w r' s' w' → Q .normal a' w'), wpListIn (fe ob) 0 P ops Q l a w
  | [], T, T', D, D', s, s', h, r, w, a, hro, hR, hT, hD, hQ => by
    simp only [stepS, Option.some.injEq, Prod.mk.injEq] at h
    obtain ⟨rfl, rfl, rfl⟩ := h
    exact hQ r a w hR hT hD (Step.refl _ _ _)
  | o :: l, T, T', D, D', s, s', h, r, w, a, hro, hR, hT, hD, hQ => by
    simp only [stepS] at h
    simp only [wpListIn]
    split at h
    · rename_i hw
      rw [wantedT_ok hT hw, if_pos rfl]
      split at h
      · rename_i v D1 s1 hO
        refine stepO_ok hX hE hO hro hR hT hD ?_
        intro v' ds' r1 w1 hv hR1 hD1 hS1
        refine stepS_ok hX hE l h (hro.mono hS1.mono) hR1 (TR.put (a := { a with defers := ds' }) (hT.mono hS1.mono) hv) (by rw [Act.put_defers]; exact hD1) ?_
        intro r' a' w' q1 q2 q3 q4
        exact hQ r' a' w' q1 q2 q3 (hS1.trans (fun _ _ h => (hR.dom _ _ h).1) q4)
      · cases h
    · rename_i hw
      rw [wantedT_ok hT hw, if_neg (by simp)]
      exact ⟨fun f _ => fe_fn ob f, stepS_ok hX hE l h hro hR (TR.put hT undef_vr) (by rw [Act.put_defers]; exact hD) hQ⟩
    · cases h
end
end Go.Cl

/- Soundness of the clean machine's evaluator, second part: code, functions. -/
namespace Go.Cl
noncomputable section
variable {P : Program}

def HookOk (P : Program) (H : Hooks) : Prop := ∀ {f h}, H f = some h → ∀ {args s v s'}, h args s = some (v, s') → ∀ {r w args'}, R P r s w → VL r args args' → CallsIn Fence.wide 0 P f args'.toArray w (FPost P r s w v s')
abbrev Draws := Rec → Option Nat → Nat → Array Oper → PM Value → List DItem → CS → Option (PM Value × List DItem × CS)
def DrawOk (P : Program) (dr : Draws) : Prop := ∀ {n E}, RecOk P n E → ∀ {ro N ops T D s T' D' s'}, dr E ro N ops T D s = some (T', D', s') → ∀ (id : Nat) {r w ob a}, RO r ro ob → R P r s w → TR r T N a.tmps → DR r D a.defers →
  (Code.region id ops true).wpIn (fe ob) 0 P (CPost P r s w N .normal T' D' s') a w

theorem run_newObj (o : Obj) (w : World) : (newObj o).run P w = .ok w.heap.size { w with heap := w.heap.push o } := by simp [newObj, Sem.run]

/-- A new object that is no row of cells. -/
theorem newob_ok {r : Ren} {s : CS} {w : World} (hR : R P r s w) (o : CObj) (ob : Obj) (hnew : OR P (r.put s.nx ⟨w.heap.size, 0, 0, 0⟩) { w with heap := w.heap.push ob } ⟨w.heap.size, 0, 0, 0⟩ o) :
    R P (r.put s.nx ⟨w.heap.size, 0, 0, 0⟩) ⟨s.h.set s.nx o, s.up, s.up + 1⟩ { w with heap := w.heap.push ob } ∧ Step r s w (r.put s.nx ⟨w.heap.size, 0, 0, 0⟩) ⟨s.h.set s.nx o, s.up, s.up + 1⟩ { w with heap := w.heap.push ob } :=
  R.alloc hR (l := ⟨w.heap.size, 0, 0, 0⟩) (by simp) (fun k hk => by simp [Array.getElem?_push, Nat.ne_of_lt hk]) (Nat.le_refl _) (by simp) hnew ⟨rfl, rfl, rfl⟩

theorem run_endLoop {l : Nat} {rec : Loop} {w : World} (h : w.heap[l]? = some (.loop rec)) (hs : rec.state ≠ .busy) :
    (Instr.endLoop l).run P w = .ok rec.pending { w with heap := w.heap.setIfInBounds l (.loop { rec with state := .exhausted }) } := by
  have hb : (rec.state == .busy) = false := by cases hr : rec.state <;> first | rfl | exact absurd hr hs
  simp only [Instr.endLoop, Sem.run_bind, run_getLoop h, Result.andThen_ok, hb, Bool.false_eq_true, if_false, run_setObj h (by simp), Sem.run_pure]
  try rfl

/-- How a frame enters a range over a function. -/
theorem enter_ok {ro ob : Option Nat} {r : Ren} {s : CS} {w : World} {a : Act} {T : PM Value} {N : Nat} {D : List DItem} (hro : RO r ro ob) (hR : R P r s w) (hT : TR r T N a.tmps) (hD : DR r D a.defers)
    {d : Nat} {D' : List DItem} {s1 : CS} {ps : Array Tmp} {as bd : Code}
    (hq : rfBase ro D s = some (d, D', s1)) (fn : FuncId) :
    ∃ (l : Nat) (mark : List Deferred) (w2 : World) (r2 : Ren) (k : Loc), (Instr.enterLoop fn a.tmps ps as bd ob).run P w = .ok (l, mark) w2 ∧ r2 s1.nx = some k ∧ k.b = l ∧
      R P r2 ⟨s1.h.set s1.nx (.loop .ready none T N ps.toList as bd d), s1.up, s1.up + 1⟩ w2 ∧ DR r2 D' (mark ++ a.defers) ∧ Step r s w r2 ⟨s1.h.set s1.nx (.loop .ready none T N ps.toList as bd d), s1.up, s1.up + 1⟩ w2 := by
  have hdom : ∀ id l, r id = some l → id ≠ s.nx ∧ id < s.up := fun _ _ h => (hR.dom _ _ h).1
  unfold rfBase at hq
  cases ro with
  | none =>
    cases ob with
    | some b => exact hro.elim
    | none =>
      simp only [Option.some.injEq, Prod.mk.injEq] at hq
      obtain ⟨rfl, rfl, rfl⟩ := hq
      obtain ⟨hR1, hS1⟩ := newob_ok hR (.deferred false) (.deferred (some [])) (show _ = _ by simp)
      obtain ⟨hR2, hS2⟩ := newob_ok hR1 (.loop .ready none T N ps.toList as bd s.nx) (.loop { state := .ready, pending := none, fn := fn, tmps := a.tmps, params := ps, assign := as, body := bd, defers := w.heap.size })
        ⟨fn, a.tmps, w.heap.size, ⟨w.heap.size, 0, 0, 0⟩, Array.getElem?_push_size, hT.mono (fun i l h => by
          have := hS1.mono _ _ h
          exact hR1.put_mono _ _ _ this), by
          exact hR1.put_mono _ _ _ (Ren.put_same _ _ _), rfl⟩
      have hS := hS1.trans hdom hS2
      refine ⟨_, [{ target := .collected w.heap.size, args := #[] }], _, _, _, ?_, Ren.put_same _ _ _, rfl, hR2, ⟨⟨_, hR1.put_mono _ _ _ (Ren.put_same _ _ _), rfl⟩, hD.mono hS.mono⟩, hS⟩
      simp only [Instr.enterLoop, Sem.run_bind, run_newObj, Result.andThen_ok, Sem.run_pure]
  | some l =>
    cases ob with
    | none => exact hro.elim
    | some b =>
      obtain ⟨k, hk, rfl⟩ := hro
      simp only at hq
      split at hq
      · rename_i st0 pend0 T0 N0 ps0 as0 bd0 d0 hl
        simp only [Option.some.injEq, Prod.mk.injEq] at hq
        obtain ⟨rfl, rfl, rfl⟩ := hq
        obtain ⟨fn0, tmps0, d', dl, hb, hT0, hd, hd'⟩ := hR.obj _ _ _ hl hk
        obtain ⟨hR2, hS2⟩ := newob_ok hR (.loop .ready none T N ps.toList as bd d0) (.loop { state := .ready, pending := none, fn := fn, tmps := a.tmps, params := ps, assign := as, body := bd, defers := d' })
          ⟨fn, a.tmps, d', dl, by simp, hT.mono (fun i l h => hR.put_mono _ _ _ h), hR.put_mono _ _ _ hd, hd'⟩
        refine ⟨_, [], _, _, _, ?_, Ren.put_same _ _ _, rfl, hR2, hD.mono hS2.mono, hS2⟩
        simp only [Instr.enterLoop, Sem.run_bind, run_newObj, Result.andThen_ok, Sem.run_pure, run_getLoop hb]
      · cases hq

theorem resolve_ok {X : Ctx} (hX : COk P X) {f : FuncId} {fn : Func} (hf : X.fn f = some fn) {ρ : Operand → Value} {g : Operand} {fi ca : Array Value} (hg : ρ g = .func (.func f) fi ca) (hρ : ∀ v, ρ (.const v) = v) (l : Nat) (w : World) :
    (resolve ρ (rangeCall g l) 0).run P w = .ok { target := .fn (.func f) ca, args := fi ++ #[.func (.yield l) #[] #[]] } w ∧
    (invoke (.fn (.func f) ca) (fi ++ #[.func (.yield l) #[] #[]])).run P w = .ok (.enter f (fi ++ #[.func (.yield l) #[] #[]] ++ ca)) w := by
  refine ⟨?_, ?_⟩
  · simp [resolve, hg, Deferred.ofValue, hρ]
  · simp only [invoke]; exact callFunc_enter hX hf _

theorem cResults_ok {X : Ctx} (hX : COk P X) {r : Ren} {s : CS} {w : World} (hR : R P r s w) {T : PM Value} {N : Nat} {t : Array Value} (hT : TR r T N t) : ∀ {l : List ResultVar} {vs : List Value}, cResults X T s l = some vs →
    ∃ vs', (l.mapM (m := Sem) fun | .tmp i => pure (t.getD i undef) | .cell a ty => do loadVar ty (← asAddr (t.getD a undef))).run P w = .ok vs' w ∧ VL r vs vs'
  | [], vs, h => by simp [cResults] at h; subst h; exact ⟨[], by simp, trivial⟩
  | .tmp i :: l, vs, h => by
    simp only [cResults] at h
    split at h
    · rename_i v vs0 h1 h2
      simp only [Option.some.injEq] at h; subst h
      obtain ⟨v', q1, q2⟩ := hT.2 _ _ h1
      obtain ⟨vs', p1, p2⟩ := cResults_ok hX hR hT h2
      refine ⟨v' :: vs', ?_, q2, p2⟩
      rw [List.mapM_cons]
      simp only [Sem.run_bind, Sem.run_pure, Result.andThen_ok, p1]
      simp [Array.getD_eq_getD_getElem?, q1]
    · cases h
  | .cell a ty :: l, vs, h => by
    simp only [cResults] at h
    split at h
    · rename_i p i h1 h2
      split at h
      · rename_i v vs0 h3 h4
        simp only [Option.some.injEq] at h; subst h
        obtain ⟨p', q1, q2⟩ := hT.2 _ _ h1
        obtain ⟨v', q3, q4⟩ := ld_ok hR (hX.tt _ _ h2) q2 h3
        obtain ⟨vs', p1, p2⟩ := cResults_ok hX hR hT h4
        refine ⟨v' :: vs', ?_, q4, p2⟩
        have q1' : t.getD a undef = p' := by rw [Array.getD_eq_getD_getElem?, q1]; rfl
        obtain ⟨b, off, c, m, sz, rfl, _, _⟩ := ld_inv h3
        cases q2
        rw [List.mapM_cons]
        simp only [Instr.loadAt, Instr.sureAddr, Sem.run_bind, Sem.run_pure, Result.andThen_ok] at q3
        have q5 : ∀ x, (asAddr (.pointer (some x))).run P w = .ok x w := fun x => rfl
        simp only [Sem.run_bind, Sem.run_pure, Result.andThen_ok, q1', q5, q3, p1]
      · cases h
    · cases h

theorem results_ok {X : Ctx} (hX : COk P X) {r : Ren} {s : CS} {w : World} (hR : R P r s w) {T : PM Value} {N : Nat} {t : Array Value} (hT : TR r T N t) {fn : Func} {vs : List Value} (h : cResults X T s fn.results.toList = some vs) :
    ∃ v', (results fn t).run P w = .ok v' w ∧ VR r (retV vs) v' := by
  obtain ⟨vs', h1, h2⟩ := cResults_ok hX hR hT h
  have h3 : (results fn t).run P w = .ok (if h : vs'.toArray.size = 1 then vs'.toArray[0] else .tuple vs'.toArray) w := by
    unfold results
    rw [Array.mapM_eq_mapM_toList]
    simp only [Sem.run_bind, Sem.run_pure, map_eq_pure_bind]
    erw [h1]
    rfl
  refine ⟨_, h3, ?_⟩
  match vs, vs', h2 with
  | [v], [v'], h2 => exact h2.1
  | [], [], h2 => exact VR.tuple_iff.2 ⟨_, rfl, trivial⟩
  | a :: b :: l, a' :: b' :: l', h2 =>
    rw [dif_neg (by simp)]
    show VR r (.tuple _) _
    exact VR.tuple_iff.2 ⟨_, rfl, by simpa using h2⟩
  | [v], _ :: _ :: _, h2 => exact h2.2.elim
  | _ :: _ :: _, [v], h2 => exact h2.2.elim

theorem setArgs_ok {r : Ren} : ∀ {vs vs' : List Value} {i : Nat} {T : PM Value} {t : Array Value}, VL r vs vs' → (∀ j v, T.get j = some v → j < i) → TR r T t.size t → i + vs.length ≤ t.size → (∀ k, k < vs.length → t[i + k]? = vs'[k]?) →
    TR r (setArgs T i vs) t.size t
  | [], _, i, T, t, _, _, hT, _, _ => hT
  | v :: vs, v' :: vs', i, T, t, hv, hj, hT, hl, hk => by
    simp only [setArgs]
    have h0 := hk 0 (by simp)
    refine setArgs_ok hv.2 ?_ ⟨rfl, fun j x hx => ?_⟩ (by simp at hl; omega) ?_
    · intro j x hx
      rw [PM.get_set] at hx
      split at hx
      · omega
      · have := hj _ _ hx; omega
    · rw [PM.get_set] at hx
      split at hx
      · rename_i hij
        simp only [Option.some.injEq] at hx
        subst hij; subst hx
        exact ⟨v', by simpa using h0, hv.1⟩
      · exact hT.2 _ _ hx
    · intro k hkl
      have := hk (k + 1) (by simp; omega)
      simpa [Nat.add_assoc, Nat.add_comm 1 k] using this
  | _ :: _, [], _, _, _, h, _, _, _, _ => h.elim
theorem PM.get_nil' {α : Type} (k : Nat) : (PM.nil : PM α).get k = none := PM.get_nil k
theorem args_ok {r : Ren} {vs vs' : List Value} {N : Nat} (hv : VL r vs vs') (hN : vs.length ≤ N) : TR r (setArgs .nil 0 vs) N (vs'.toArray ++ Array.replicate (N - vs'.toArray.size) undef) := by
  have hl := hv.length
  have hs : (vs'.toArray ++ Array.replicate (N - vs'.toArray.size) undef).size = N := by simp; omega
  have := setArgs_ok (r := r) (T := .nil) (i := 0) (t := vs'.toArray ++ Array.replicate (N - vs'.toArray.size) undef) hv (fun j v h => by rw [PM.get_nil'] at h; cases h) ⟨rfl, fun j v h => by rw [PM.get_nil'] at h; cases h⟩ (by omega) (fun k hk => by
    rw [Nat.zero_add, Array.getElem?_append_left (by simp; omega)]; simp)
  rwa [hs] at this
end
end Go.Cl

/- Soundness of the clean machine's evaluator, third part: the whole. -/
namespace Go.Cl
noncomputable section
variable {P : Program}

theorem stepD_ok {X : Ctx} (hX : COk P X) {n : Nat} {E : Rec} (hE : RecOk P n E) {fn : Func} {t : Array Value} {Q : Ending → World → Prop} : ∀ {D : List DItem} {ds : List Deferred} {s s' : CS} {r : Ren} {w : World}, stepD X E D s = some s' → R P r s w → DR r D ds →
    (∀ r' w', R P r' s' w' → Step r s w r' s' w' → ∃ v, (results fn t).run P w' = .ok v w' ∧ Q (.returned v) w') → LeavesInM Fence.wide 0 P fn t Q ds .returning w
  | [], [], s, s', r, w, h, hR, _, hQ => by
    simp only [stepD, Option.some.injEq] at h
    subst h
    exact hQ r w hR (Step.refl _ _ _)
  | .mark id :: D, d :: ds, s, s', r, w, h, hR, hD, hQ => by
    obtain ⟨⟨k, hk, rfl⟩, hD⟩ := hD
    simp only [stepD] at h
    split at h
    · rename_i hid
      have hb := hR.obj _ _ _ hid hk
      have hb' : w.heap[k.b]? = some (.deferred (some [])) := hb
      obtain ⟨q1, q2, q3⟩ := setobj_ok (P := P) hR (o' := .deferred true) (ob' := .deferred none) hid hk rfl rfl hb' (by simp) (show _ = _ by simp [(hR.dom _ _ hk).2])
      refine ⟨by simp, .inl ⟨k.b, _, rfl, ?_, stepD_ok hX hE h q2 (hD.mono q3.mono) ?_⟩⟩
      · simp only [Instr.takeDeferred, Sem.run_bind, run_getObj hb' (by simp), Result.andThen_ok, q1, Sem.run_pure]
      · intro r' w' h1 h2
        exact hQ r' w' h1 (q3.trans (fun _ _ h => (hR.dom _ _ h).1) h2)
    · cases h
  | .call f args cap :: D, d :: ds, s, s', r, w, h, hR, hD, hQ => by
    obtain ⟨⟨args', cap', rfl, ha, hc⟩, hD⟩ := hD
    simp only [stepD] at h
    split at h
    · rename_i g hg
      split at h
      · rename_i c hc'
        split at h
        · rename_i hle
          split at h
          · rename_i e T s1 hC
            obtain ⟨hf, _, _⟩ := hX.fn _ _ hg
            have hv := VL.append ha hc
            have hlen := hv.length
            have harr : args'.toList ++ cap'.toList = (args' ++ cap').toList := by simp
            have hT := args_ok hv (N := g.ntmps) (by simp; omega)
            have hrun : (e = .normal ∨ e = .ret) ∧ ∃ vs, cResults X T s1 g.results.toList = some vs ∧ stepD X E D s1 = some s' := by
              split at h
              · split at h
                · rename_i hv; exact ⟨.inl rfl, _, hv, h⟩
                · cases h
              · split at h
                · rename_i hv; exact ⟨.inr rfl, _, hv, h⟩
                · cases h
              · cases h
            obtain ⟨he, vs, hvs, hrest⟩ := hrun
            rw [harr] at hT
            refine ⟨by simp, .inr ⟨fe_depth none 0, .func f, cap', f, args' ++ cap', rfl, ?_, fun _ _ => trivial, ?_⟩⟩
            · simp only [invoke]; exact callFunc_enter hX hg _
            · refine CallsDIn.mono (callsDIn_of_wp (R := fun e1 w1 => ∃ v1, e1 = .returned v1 ∧ LeavesInM Fence.wide 0 P fn t Q ds .returning w1) hf hc' trivial ?_) ?_
              · refine wpIn_mono (hE.C hC (ob := none) trivial hR (by simpa only [Array.toArray_toList] using hT) trivial) ?_
                rintro e1 a1 w1 ⟨rfl, r1, hR1, hT1, hD1, hS1⟩
                obtain ⟨v', q1, q2⟩ := results_ok hX hR1 hT1 hvs
                have hd : a1.defers = [] := by cases hx : a1.defers with
                  | nil => rfl
                  | cons y ys => rw [hx] at hD1; exact hD1.elim
                have hfin := stepD_ok (fn := fn) (t := t) (Q := Q) hX hE hrest hR1 (hD.mono hS1.mono) (fun r' w' h1 h2 => hQ r' w' h1 (hS1.trans (fun _ _ h => (hR.dom _ _ h).1) h2))
                rcases he with rfl | rfl
                · exact ⟨hd, v', q1, v', rfl, hfin⟩
                · exact ⟨hd, v', q1, v', rfl, hfin⟩
              · rintro e1 u1 w1 ⟨rfl, v1, rfl, h1⟩
                exact h1
          · cases h
        · cases h
      · cases h
    · cases h
  | [], _ :: _, _, _, _, _, _, _, h, _ => h.elim
  | _ :: _, [], _, _, _, _, _, _, h, _ => h.elim

theorem stepF_ok {X : Ctx} (hX : COk P X) {H : Hooks} (hH : HookOk P H) {n : Nat} {E : Rec} (hE : RecOk P n E) {f : FuncId} {args : List Value} {s s' : CS} {v : Value} (h : stepF X H E f args s = some (v, s')) {r : Ren} {w : World} {args' : List Value} (hR : R P r s w) (ha : VL r args args') :
    CallsIn Fence.wide 0 P f args'.toArray w (FPost P r s w v s') := by
  unfold stepF at h
  split at h
  · rename_i hk hHf
    exact hH hHf h hR ha
  · split at h
    · rename_i fn hfn
      obtain ⟨hf, _, _⟩ := hX.fn _ _ hfn
      split at h
      · rename_i c hc
        split at h
        · rename_i hle
          split at h
          · rename_i e T D s1 hC
            have hrun : (e = .normal ∨ e = .ret) ∧ ∃ vs, stepD X E D s1 = some s' ∧ cResults X T s' fn.results.toList = some vs ∧ v = retV vs := by
              split at h
              · split at h
                · rename_i hd
                  split at h
                  · rename_i hv
                    simp only [Option.some.injEq, Prod.mk.injEq] at h; obtain ⟨rfl, rfl⟩ := h
                    exact ⟨.inl rfl, _, hd, hv, rfl⟩
                  · cases h
                · cases h
              · split at h
                · rename_i hd
                  split at h
                  · rename_i hv
                    simp only [Option.some.injEq, Prod.mk.injEq] at h; obtain ⟨rfl, rfl⟩ := h
                    exact ⟨.inr rfl, _, hd, hv, rfl⟩
                  · cases h
                · cases h
              · cases h
            obtain ⟨he, vs, hd, hv, rfl⟩ := hrun
            refine callsIn_of_wp_marks hf hc trivial ?_
            refine wpIn_mono (hE.C hC (ob := none) trivial hR (args_ok ha hle) trivial) ?_
            rintro e1 a1 w1 ⟨rfl, r1, hR1, hT1, hD1, hS1⟩
            have hfin : LeavesInM Fence.wide 0 P fn a1.tmps (FPost P r s w (retV vs) s') a1.defers .returning w1 := by
              refine stepD_ok hX hE hd hR1 hD1 ?_
              intro r' w' hR' hS'
              obtain ⟨v', q1, q2⟩ := results_ok hX hR' (hT1.mono hS'.mono) hv
              exact ⟨v', q1, v', r', rfl, q2, hR', hS1.trans (fun _ _ h => (hR.dom _ _ h).1) hS'⟩
            rcases he with rfl | rfl
            · exact hfin
            · exact hfin
          · cases h
        · cases h
      · cases h
    · cases h

theorem exit_then {K : Act → World → Prop} {Q : Exit → Act → World → Prop} {e : Exit} {a : Act} {w : World} (h1 : e = .normal → K a w) (h2 : e ≠ .normal → Q e a w) : Exit.then K Q e a w := by
  cases e <;> simp only [Exit.then] <;> first | exact h1 rfl | exact h2 (by simp)

theorem roundsIn_imp {F : Fence} {m : Nat} {c : Code} {Q Q' : Exit → Act → World → Prop} (hq : ∀ e a w, Q e a w → Q' e a w) : ∀ (n : Nat) {a : Act} {w : World}, Code.roundsIn F m P c Q n a w → Code.roundsIn F m P c Q' n a w
  | 0, _, _, h => h
  | n + 1, a, w, h => by
    rw [roundsIn_succ] at h ⊢
    refine wpIn_mono h ?_
    intro e a w h
    cases e <;> first | exact roundsIn_imp hq n h | exact hq _ _ _ h

theorem stepL_ok {n : Nat} {E : Rec} (hE : RecOk P n E) {ro ob : Option Nat} {N : Nat} {b : Code} {T T' : PM Value} {D D' : List DItem} {s s' : CS} {e : Exit} (h : (match E.C ro N b T D s with
    | some (.normal, T', D', s') => E.C ro N (.loop b) T' D' s'
    | x => x) = some (e, T', D', s'))
    {r : Ren} {w : World} {a : Act} (hro : RO r ro ob) (hR : R P r s w) (hT : TR r T N a.tmps) (hD : DR r D a.defers) :
    Code.roundsIn (fe ob) 0 P b (CPost P r s w N e T' D' s') (n + 1) a w := by
  rw [roundsIn_succ]
  cases hx : E.C ro N b T D s with
  | none => rw [hx] at h; cases h
  | some q =>
    obtain ⟨e1, T1, D1, s1⟩ := q
    rw [hx] at h
    refine wpIn_mono (hE.C hx hro hR hT hD) ?_
    intro e2 a1 w1 q
    obtain ⟨rfl, r1, hR1, hT1, hD1, hS1⟩ := q
    refine exit_then (fun he => ?_) (fun he => ?_)
    · subst he
      simp only at h
      exact roundsIn_imp (fun _ _ _ q => q.trans hR hS1) n (hE.L h (hro.mono hS1.mono) hR1 hT1 hD1)
    · cases e2 <;> first | exact absurd rfl he | (simp only [Option.some.injEq, Prod.mk.injEq] at h; obtain ⟨rfl, rfl, rfl, rfl⟩ := h; exact ⟨rfl, r1, hR1, hT1, hD1, hS1⟩)

theorem stepC_ok {X : Ctx} (hX : COk P X) {dr : Draws} (hdr : DrawOk P dr) {n : Nat} {E : Rec} (hE : RecOk P n E) {ro ob : Option Nat} {N : Nat} {c : Code} {T T' : PM Value} {D D' : List DItem} {s s' : CS} {e : Exit} (h : stepC X dr E ro N c T D s = some (e, T', D', s'))
    {r : Ren} {w : World} {a : Act} (hro : RO r ro ob) (hR : R P r s w) (hT : TR r T N a.tmps) (hD : DR r D a.defers) :
    c.wpIn (fe ob) 0 P (CPost P r s w N e T' D' s') a w := by
  have hdom : ∀ id l, r id = some l → id ≠ s.nx ∧ id < s.up := fun _ _ h => (hR.dom _ _ h).1
  have here : ∀ e, CPost P r s w N e T D s e a w := fun e => ⟨rfl, r, hR, hT, hD, Step.refl _ _ _⟩
  unfold stepC at h
  split at h
  · simp only [Option.some.injEq, Prod.mk.injEq] at h; obtain ⟨rfl, rfl, rfl, rfl⟩ := h
    exact wpIn_skip (here _)
  · simp only [Option.some.injEq, Prod.mk.injEq] at h; obtain ⟨rfl, rfl, rfl, rfl⟩ := h
    exact wpIn_label (here _)
  · simp only [Option.some.injEq, Prod.mk.injEq] at h; obtain ⟨rfl, rfl, rfl, rfl⟩ := h
    exact wpIn_exit (here _)
  · simp only [Option.some.injEq, Prod.mk.injEq] at h; obtain ⟨rfl, rfl, rfl, rfl⟩ := h
    exact wpIn_goto (here _)
  · simp only [Option.some.injEq, Prod.mk.injEq] at h; obtain ⟨rfl, rfl, rfl, rfl⟩ := h
    exact wpIn_ret (here _)
  · -- seq
    rename_i x y
    split at h
    · rename_i T1 D1 s1 hx
      refine wpIn_seq (wpIn_mono (hE.C hx hro hR hT hD) ?_)
      rintro e1 a1 w1 ⟨rfl, r1, hR1, hT1, hD1, hS1⟩
      exact wpIn_mono (hE.C h (hro.mono hS1.mono) hR1 hT1 hD1) fun _ _ _ q => q.trans hR hS1
    · rename_i hne
      cases hx : E.C ro N x T D s with
      | none => rw [hx] at h; cases h
      | some q =>
        obtain ⟨e1, T1, D1, s1⟩ := q
        rw [hx] at h
        simp only [Option.some.injEq, Prod.mk.injEq] at h; obtain ⟨rfl, rfl, rfl, rfl⟩ := h
        refine wpIn_seq (wpIn_mono (hE.C hx hro hR hT hD) ?_)
        intro e2 a1 w1 q
        have := q.1
        subst this
        exact exit_then (fun he => by subst he; exact absurd hx (hne _ _ _)) (fun _ => q)
  · -- cond
    rename_i c x y
    split at h
    · rename_i hc
      have := ev_ok hX hR hT hc
      exact wpIn_cond_true (by cases hv : a.eval c <;> rw [hv] at this <;> cases this; rfl) (hE.C h hro hR hT hD)
    · rename_i hc
      have := ev_ok hX hR hT hc
      exact wpIn_cond_false (by cases hv : a.eval c <;> rw [hv] at this <;> cases this; rfl) (hE.C h hro hR hT hD)
    · cases h
  · -- block
    rename_i id b
    cases hx : E.C ro N b T D s with
    | none => rw [hx] at h; cases h
    | some q =>
      obtain ⟨e1, T1, D1, s1⟩ := q
      rw [hx] at h
      refine wpIn_block (wpIn_mono (hE.C hx hro hR hT hD) ?_)
      rintro e2 a1 w1 ⟨rfl, r1, hR1, hT1, hD1, hS1⟩
      cases e2 with
      | exit id' =>
        simp only [Option.some.injEq, Prod.mk.injEq] at h; obtain ⟨rfl, rfl, rfl, rfl⟩ := h
        simp only [Exit.inBlock]
        split
        · exact ⟨rfl, r1, hR1, hT1, hD1, hS1⟩
        · exact ⟨rfl, r1, hR1, hT1, hD1, hS1⟩
      | _ =>
        simp only [Option.some.injEq, Prod.mk.injEq] at h; obtain ⟨rfl, rfl, rfl, rfl⟩ := h
        exact ⟨rfl, r1, hR1, hT1, hD1, hS1⟩
  · -- loop
    exact wpIn_loop_rounds (n + 1) (stepL_ok hE h hro hR hT hD)
  · -- scope
    rename_i b
    split at h
    · rename_i hnone
      subst hnone
      cases ob with
      | some b => exact hro.elim
      | none =>
        refine (wpIn_wide (n := 0)).2 (wp_scope_straight ((wpIn_wide (n := 0)).1 ?_))
        cases hx : E.C none N b T D s with
        | none => rw [hx] at h; cases h
        | some q =>
          obtain ⟨e1, T1, D1, s1⟩ := q
          rw [hx] at h
          refine wpIn_mono (hE.C hx hro hR hT hD) ?_
          rintro e2 a1 w1 ⟨rfl, r1, hR1, hT1, hD1, hS1⟩
          cases e2 <;> simp only [Exit.noGoto] <;> first | (cases h; done) | (simp only [Option.some.injEq, Prod.mk.injEq] at h; obtain ⟨rfl, rfl, rfl, rfl⟩ := h; exact ⟨rfl, r1, hR1, hT1, hD1, hS1⟩)
    · cases h
  · -- region
    rename_i id ops draw
    split at h
    · rename_i T1 D1 s1 hx
      simp only [Option.some.injEq, Prod.mk.injEq] at h; obtain ⟨rfl, rfl, rfl, rfl⟩ := h
      cases draw with
      | true => exact hdr hE hx id hro hR hT hD
      | false =>
        exact wpIn_region_list (stepS_ok hX hE _ hx hro hR hT hD fun r' a' w' q1 q2 q3 q4 => ⟨rfl, r', q1, q2, q3, q4⟩)
    · cases h
  · -- range over a function
    rename_i g ps as bd
    split at h
    · rename_i f fi ca hg
      split at h
      · rename_i fn hfn
        dsimp only at h
        split at h
        · rename_i d D1 s1 hq
          split at h
          · rename_i v s2 hF
            have hgv := ev_ok hX hR hT hg
            obtain ⟨fi', ca', hg', hfi, hca⟩ := VR.func_iff.1 hgv
            refine wpIn_rangeFunc (fun fn0 _ => ?_)
            rw [fe_round]
            obtain ⟨l, mark, w2, r2, k, h1, h2, h3, hR2, hD2, hS2⟩ := enter_ok hro hR hT hD (ps := ps) (as := as) (bd := bd) hq fn0
            obtain ⟨h4, h5⟩ := resolve_ok (P := P) hX hfn hg' (fun _ => rfl) l w2
            refine ⟨l, mark, w2, _, w2, f, _, w2, h1, h4, fun f' _ => fe_fn ob f', h5, fe_depth ob 0, fe_calls ?_⟩
            have hv : VL r2 (fi.toList ++ [.func (.yield s1.nx) #[] #[]] ++ ca.toList) (fi'.toList ++ [.func (.yield l) #[] #[]] ++ ca'.toList) := by
              refine VL.append (VL.append (hfi.mono hS2.mono) ⟨?_, trivial⟩) (hca.mono hS2.mono)
              rw [← h3]; exact .yield h2
            have harr : fi' ++ #[.func (.yield l) #[] #[]] ++ ca' = (fi'.toList ++ [Value.func (.yield l) #[] #[]] ++ ca'.toList).toArray := by simp
            rw [harr]
            refine CallsIn.imp (hE.F hF hR2 hv) ?_
            rintro e3 w3 ⟨v3, r3, rfl, hv3, hR3, hS3⟩
            have hk3 := hS3.mono _ _ h2
            split at h
            · rename_i st3 pend3 T3 N3 ps3 as3 bd3 d3 hl3
              obtain ⟨fn4, tmps4, d4', dl4, hb4, hT4, hd4, hd4'⟩ := hR3.obj _ _ _ hl3 hk3
              split at h
              · cases h
              · rename_i hst
                have hbusy : st3 ≠ .busy := fun hx => hst hx
                obtain ⟨h4a, hR4, hS4⟩ := setobj_ok (P := P) hR3 (o' := .loop .exhausted pend3 T3 N3 ps3 as3 bd3 d3) (ob' := (.loop { state := .exhausted, pending := pend3, fn := fn4, tmps := tmps4, params := ps3.toArray, assign := as3, body := bd3, defers := d4' })) hl3 hk3 rfl rfl hb4 (by simp)
                  ⟨fn4, tmps4, d4', dl4, by simp [(hR3.dom _ _ hk3).2], hT4, hd4, hd4'⟩
                have hend := run_endLoop (P := P) hb4 hbusy
                rw [h3] at hend
                have hS := (hS2.trans hdom hS3).trans hdom hS4
                refine ⟨_, _, hend, ?_⟩
                have hT5 := hT.mono hS.mono
                have hD5 := hD2.mono (fun i l q => hS4.mono _ _ (hS3.mono _ _ q))
                rw [h3] at hR4 hS4 hS
                cases pend3 with
                | none =>
                  simp only [Option.some.injEq, Prod.mk.injEq] at h; obtain ⟨rfl, rfl, rfl, rfl⟩ := h
                  exact ⟨rfl, r3, hR4, hT5, hD5, hS⟩
                | some c =>
                  simp only at h
                  exact wpIn_mono (hE.C h (hro.mono hS.mono) hR4 hT5 hD5) fun _ _ _ q => q.trans hR hS
            · cases h
          · cases h
        · cases h
      · cases h
    · cases h
  · cases h

theorem cev_ok {X : Ctx} (hX : COk P X) {H : Hooks} (hH : HookOk P H) {dr : Draws} (hdr : DrawOk P dr) : ∀ n, RecOk P n (cev X H dr n)
  | 0 => by
    constructor
    · intro f args s v s' h; cases h
    · intro ro N c T D s e T' D' s' h; cases h
    · intro ro N c T D s e T' D' s' h; cases h
  | n + 1 => by
    constructor
    · intro f args s v s' h r w args' hR ha
      exact stepF_ok hX hH (cev_ok hX hH hdr n) h hR ha
    · intro ro N c T D s e T' D' s' h r w ob a h1 h2 h3 h4
      exact stepC_ok hX hdr (cev_ok hX hH hdr n) h h1 h2 h3 h4
    · intro ro N c T D s e T' D' s' h r w ob a h1 h2 h3 h4
      exact stepL_ok (cev_ok hX hH hdr n) h h1 h2 h3 h4
end
end Go.Cl

/- A part of memory is run; the rest is put back. -/
namespace Go.Cl
noncomputable section
variable {P : Program} {r r' r0 : Ren} {s s' s1 s1' s0 : CS} {w w' w0 : World}

theorem R.sub (h : R P r s w) (hsub : ∀ id o, s1.h.get id = some o → s.h.get id = some o) (hd : ∀ id l, r id = some l → id ≠ s1.nx ∧ id < s1.up) (hn : ∀ id o, s1.h.get id = some o → id ≠ s1.nx ∧ id < s1.up) (hlt : s1.nx < s1.up) : R P r s1 w :=
  ⟨fun id o l ho hr => h.obj id o l (hsub _ _ ho) hr, fun i j oi oj li lj hi hj => h.excl i j oi oj li lj (hsub _ _ hi) (hsub _ _ hj), fun id l hl => ⟨hd id l hl, (h.dom id l hl).2⟩, hn, hlt, h.glob⟩

theorem R.frame (hd0 : ∀ id l, r0 id = some l → id ≠ s0.nx ∧ id < s0.up) (hS : Step r0 s0 w0 r s w) (hR : R P r s w) (hsub : ∀ id o, s1.h.get id = some o → s.h.get id = some o) (hd1 : ∀ id l, r id = some l → id ≠ s1.nx ∧ id < s1.up)
    (hR1 : R P r' s1' w') (hS1 : Step r s1 w r' s1' w') (hfresh : ∀ id, (id = s1.nx ∨ s1.up ≤ id) → s.h.get id = none ∧ (id = s0.nx ∨ s0.up ≤ id))
    (hG : ∀ id o, s'.h.get id = some o → s1'.h.get id = some o ∨ (s.h.get id = some o ∧ s1.h.get id = none))
    (hd' : ∀ id l, r' id = some l → id ≠ s'.nx ∧ id < s'.up) (hn' : ∀ id o, s'.h.get id = some o → id ≠ s'.nx ∧ id < s'.up) (hlt' : s'.nx < s'.up) (hnx : (s'.nx = s0.nx ∨ s0.up ≤ s'.nx) ∧ s0.up ≤ s'.up) :
    R P r' s' w' ∧ Step r0 s0 w0 r' s' w' := by
  have hold : ∀ {id o l}, s.h.get id = some o → r' id = some l → r id = some l := fun {id o l} ho hl => by
    rcases hS1.new _ _ hl with h | ⟨h, _⟩
    · exact h
    · rw [(hfresh _ h).1] at ho; cases ho
  have hout : ∀ {i j oi oj li lj}, s1'.h.get i = some oi → (s.h.get j = some oj ∧ s1.h.get j = none) → r' i = some li → r' j = some lj → li.b = lj.b → oi.ro = true ∧ oj.ro = true := by
    intro i j oi oj li lj hi hj hli hlj hb
    have hlj' := hold hj.1 hlj
    rcases hS1.new _ _ hli with h | ⟨_, _, h | ⟨i2, o2, k2, q1, q2, q3, q4⟩⟩
    · obtain ⟨o2, q1, q2⟩ := hS1.live i oi (hd1 _ _ h) hi
      have hij : i ≠ j := fun e => by subst e; rw [hj.2] at q1; cases q1
      have := hR.excl i j o2 oj li lj (hsub _ _ q1) hj.1 h hlj' hij hb
      exact ⟨q2 ▸ this.1, this.2⟩
    · have := (hR.dom _ _ hlj').2; omega
    · have hij : i2 ≠ j := fun e => by subst e; rw [hj.2] at q1; cases q1
      have := (hR.excl i2 j o2 oj k2 lj (hsub _ _ q1) hj.1 q2 hlj' hij (q4.trans hb)).1
      rw [q3] at this; cases this
  refine ⟨⟨fun id o l ho hl => ?_, fun i j oi oj li lj hi hj hli hlj hij hb => ?_, fun id l hl => ⟨hd' _ _ hl, (hR1.dom _ _ hl).2⟩, hn', hlt', hR1.glob⟩,
    ⟨fun id l h => hS1.mono _ _ (hS.mono _ _ h), hnx, Nat.le_trans hS.size hS1.size, fun b hb hall => ?_, fun id l hl => ?_, fun id o hid ho => ?_, ?_⟩⟩
  · rcases hG _ _ ho with h | ⟨h1, h2⟩
    · exact hR1.obj _ _ _ h hl
    · have hl' := hold h1 hl
      refine OR.mono hS1.mono (hS1.frame _ (hR.dom _ _ hl').2 fun id1 o1 l1 q1 q2 q3 => ?_) (hR.obj _ _ _ h1 hl')
      have hne : id1 ≠ id := fun e => by subst e; rw [h2] at q1; cases q1
      exact (hR.excl id1 id o1 o l1 l (hsub _ _ q1) h1 q2 hl' hne q3).1
  · rcases hG _ _ hi with h | h <;> rcases hG _ _ hj with k | k
    · exact hR1.excl _ _ _ _ _ _ h k hli hlj hij hb
    · exact hout h k hli hlj hb
    · exact (hout k h hlj hli hb.symm).symm
    · exact hR.excl _ _ _ _ _ _ h.1 k.1 (hold h.1 hli) (hold k.1 hlj) hij hb
  · have hb2 : ∀ id o l, s.h.get id = some o → r id = some l → l.b = b → o.ro = true := by
      intro id o l ho hl hlb
      rcases hS.new _ _ hl with h | ⟨_, _, h | ⟨i, o1, k1, h1, h2, h3, h4⟩⟩
      · obtain ⟨o0, h0, e⟩ := hS.live id o (hd0 _ _ h) ho
        rw [← e]; exact hall id o0 l h0 h hlb
      · omega
      · have := hall i o1 k1 h1 h2 (h4.trans hlb)
        rw [h3] at this; cases this
    rw [hS1.frame b (Nat.lt_of_lt_of_le hb hS.size) (fun id o l ho => hb2 id o l (hsub _ _ ho)), hS.frame b hb hall]
  · rcases hS1.new _ _ hl with h | ⟨h1, _, h3⟩
    · rcases hS.new _ _ h with h | ⟨g1, _, g3⟩
      · exact .inl h
      · exact .inr ⟨g1, (hd' _ _ hl).2, g3⟩
    · refine .inr ⟨(hfresh _ h1).2, (hd' _ _ hl).2, ?_⟩
      rcases h3 with h3 | ⟨i, o, k, q1, q2, q3, q4⟩
      · exact .inl (Nat.le_trans hS.size h3)
      · rcases hS.new _ _ q2 with h | ⟨_, _, g3⟩
        · obtain ⟨o0, h0, e⟩ := hS.live i o (hd0 _ _ h) (hsub _ _ q1)
          exact .inr ⟨i, o0, k, h0, h, e.trans q3, q4⟩
        · rcases g3 with g3 | ⟨j, oj, kj, p1, p2, p3, p4⟩
          · exact .inl (q4 ▸ g3)
          · exact .inr ⟨j, oj, kj, p1, p2, p3, p4.trans q4⟩
  · rcases hG _ _ ho with h | h
    · have hid1 : id ≠ s1.nx ∧ id < s1.up := by
        by_cases e : id = s1.nx
        · have := (hfresh id (.inl e)).2; omega
        · refine ⟨e, ?_⟩
          by_cases e2 : s1.up ≤ id
          · have := (hfresh id (.inr e2)).2; omega
          · omega
      obtain ⟨o1, q1, q2⟩ := hS1.live id o hid1 h
      obtain ⟨o0, p1, p2⟩ := hS.live id o1 hid (hsub _ _ q1)
      exact ⟨o0, p1, p2.trans q2⟩
    · obtain ⟨o0, p1, p2⟩ := hS.live id o hid h.1
      exact ⟨o0, p1, p2⟩
  · exact ⟨hS1.rest.1.trans hS.rest.1, hS1.rest.2.1.trans hS.rest.2.1, hS1.rest.2.2.trans hS.rest.2.2⟩
end
end Go.Cl

/- Values taken apart by recursors; values alike. -/
namespace Go.Cl
noncomputable section

def onInt {β : Type} (z : β) (f : IntKind → Int → β) (v : Value) : β := @Value.rec (fun _ => β) (fun _ => PUnit) (fun _ => PUnit) (fun _ => z) f (fun _ _ => z) (fun _ _ _ => z) (fun _ => z) (fun _ => z) (fun _ _ _ => z) (fun _ => z) (fun _ => z) (fun _ _ _ _ _ => z) z (fun _ _ _ => z) z (fun _ _ => z) (fun _ _ => z) (fun _ _ => ⟨⟩) ⟨⟩ (fun _ _ _ _ => ⟨⟩) v
def onBool {β : Type} (z : β) (f : Bool → β) (v : Value) : β := @Value.rec (fun _ => β) (fun _ => PUnit) (fun _ => PUnit) f (fun _ _ => z) (fun _ _ => z) (fun _ _ _ => z) (fun _ => z) (fun _ => z) (fun _ _ _ => z) (fun _ => z) (fun _ => z) (fun _ _ _ _ _ => z) z (fun _ _ _ => z) z (fun _ _ => z) (fun _ _ => z) (fun _ _ => ⟨⟩) ⟨⟩ (fun _ _ _ _ => ⟨⟩) v
def onString {β : Type} (z : β) (f : ByteArray → β) (v : Value) : β := @Value.rec (fun _ => β) (fun _ => PUnit) (fun _ => PUnit) (fun _ => z) (fun _ _ => z) (fun _ _ => z) (fun _ _ _ => z) f (fun _ => z) (fun _ _ _ => z) (fun _ => z) (fun _ => z) (fun _ _ _ _ _ => z) z (fun _ _ _ => z) z (fun _ _ => z) (fun _ _ => z) (fun _ _ => ⟨⟩) ⟨⟩ (fun _ _ _ _ => ⟨⟩) v
def onPtr0 {β : Type} (z : β) (f : Option Addr → β) (v : Value) : β := @Value.rec (fun _ => β) (fun _ => PUnit) (fun _ => PUnit) (fun _ => z) (fun _ _ => z) (fun _ _ => z) (fun _ _ _ => z) (fun _ => z) f (fun _ _ _ => z) (fun _ => z) (fun _ => z) (fun _ _ _ _ _ => z) z (fun _ _ _ => z) z (fun _ _ => z) (fun _ _ => z) (fun _ _ => ⟨⟩) ⟨⟩ (fun _ _ _ _ => ⟨⟩) v
def onSlice0 {β : Type} (z : β) (f : Option Addr → Nat → Nat → β) (v : Value) : β := @Value.rec (fun _ => β) (fun _ => PUnit) (fun _ => PUnit) (fun _ => z) (fun _ _ => z) (fun _ _ => z) (fun _ _ _ => z) (fun _ => z) (fun _ => z) f (fun _ => z) (fun _ => z) (fun _ _ _ _ _ => z) z (fun _ _ _ => z) z (fun _ _ => z) (fun _ _ => z) (fun _ _ => ⟨⟩) ⟨⟩ (fun _ _ _ _ => ⟨⟩) v
def onMap {β : Type} (z : β) (f : Option Nat → β) (v : Value) : β := @Value.rec (fun _ => β) (fun _ => PUnit) (fun _ => PUnit) (fun _ => z) (fun _ _ => z) (fun _ _ => z) (fun _ _ _ => z) (fun _ => z) (fun _ => z) (fun _ _ _ => z) f (fun _ => z) (fun _ _ _ _ _ => z) z (fun _ _ _ => z) z (fun _ _ => z) (fun _ _ => z) (fun _ _ => ⟨⟩) ⟨⟩ (fun _ _ _ _ => ⟨⟩) v
def onAgg0 {β : Type} (z : β) (f : Array Value → β) (v : Value) : β := @Value.rec (fun _ => β) (fun _ => PUnit) (fun _ => PUnit) (fun _ => z) (fun _ _ => z) (fun _ _ => z) (fun _ _ _ => z) (fun _ => z) (fun _ => z) (fun _ _ _ => z) (fun _ => z) (fun _ => z) (fun _ _ _ _ _ => z) z (fun _ _ _ => z) z (fun cs _ => f cs) (fun _ _ => z) (fun _ _ => ⟨⟩) ⟨⟩ (fun _ _ _ _ => ⟨⟩) v
def onTuple0 {β : Type} (z : β) (f : Array Value → β) (v : Value) : β := @Value.rec (fun _ => β) (fun _ => PUnit) (fun _ => PUnit) (fun _ => z) (fun _ _ => z) (fun _ _ => z) (fun _ _ _ => z) (fun _ => z) (fun _ => z) (fun _ _ _ => z) (fun _ => z) (fun _ => z) (fun _ _ _ _ _ => z) z (fun _ _ _ => z) z (fun _ _ => z) (fun cs _ => f cs) (fun _ _ => ⟨⟩) ⟨⟩ (fun _ _ _ _ => ⟨⟩) v
def onOne {β : Type} (z y : β) (v : Value) : β := @Value.rec (fun _ => β) (fun _ => PUnit) (fun _ => PUnit) (fun _ => y) (fun _ _ => y) (fun _ _ => y) (fun _ _ _ => y) (fun _ => y) (fun _ => y) (fun _ _ _ => y) (fun _ => y) (fun _ => y) (fun _ _ _ _ _ => y) y (fun _ _ _ => y) y (fun _ _ => z) (fun _ _ => z) (fun _ _ => ⟨⟩) ⟨⟩ (fun _ _ _ _ => ⟨⟩) v

def onAddr {β : Type} (z : β) (f : Nat → Nat → β) (a : Option Addr) : β := @Option.rec Addr (fun _ => β) z (fun a => @Addr.rec (fun _ => β) (fun b o sp => @Option.rec Nat (fun _ => β) (f b o) (fun _ => z) sp) a) a
/-- An address of a row of cells. -/
def onPtr {β : Type} (z : β) (f : Nat → Nat → β) (v : Value) : β := onPtr0 z (fun a => onAddr z f a) v
def onSlice {β : Type} (z : β) (f : Nat → Nat → Nat → Nat → β) (v : Value) : β := onSlice0 z (fun a l c => onAddr z (fun b o => f b o l c) a) v
def onArr {β : Type} (f : List Value → β) (a : Array Value) : β := @Array.rec Value (fun _ => β) f a
def onAgg {β : Type} (z : β) (f : List Value → β) (v : Value) : β := onAgg0 z (fun a => onArr f a) v
def onTuple {β : Type} (z : β) (f : List Value → β) (v : Value) : β := onTuple0 z (fun a => onArr f a) v
/-- A number that is not negative. -/
def onNat {β : Type} (z : β) (f : IntKind → Nat → β) (v : Value) : β := onInt z (fun k n => @Int.rec (fun _ => β) (fun n => f k n) (fun _ => z) n) v
def onSome {α β : Type} (z : β) (f : α → β) (o : Option α) : β := @Option.rec α (fun _ => β) z f o
def onCells {β : Type} (z : β) (f : List Value → CMode → Nat → β) (o : Option CObj) : β := @Option.rec CObj (fun _ => β) z (fun o => @CObj.rec (fun _ => β) f (fun _ _ _ => z) (fun _ _ _ _ => z) (fun _ _ _ _ _ _ _ _ => z) (fun _ => z) o) o
def onRw {β : Type} (z y : β) (m : CMode) : β := @CMode.rec (fun _ => β) y y z m

theorem onInt_some {β : Type} {f : IntKind → Int → Option β} {v : Value} {x : β} (h : onInt none f v = some x) : ∃ k n, v = .int k n ∧ f k n = some x := by cases v <;> first | exact ⟨_, _, rfl, h⟩ | cases h
theorem onBool_some {β : Type} {f : Bool → Option β} {v : Value} {x : β} (h : onBool none f v = some x) : ∃ b, v = .bool b ∧ f b = some x := by cases v <;> first | exact ⟨_, rfl, h⟩ | cases h
theorem onString_some {β : Type} {f : ByteArray → Option β} {v : Value} {x : β} (h : onString none f v = some x) : ∃ b, v = .string b ∧ f b = some x := by cases v <;> first | exact ⟨_, rfl, h⟩ | cases h
theorem onMap_some {β : Type} {f : Option Nat → Option β} {v : Value} {x : β} (h : onMap none f v = some x) : ∃ b, v = .map b ∧ f b = some x := by cases v <;> first | exact ⟨_, rfl, h⟩ | cases h
theorem onAddr_some {β : Type} {f : Nat → Nat → Option β} {a : Option Addr} {x : β} (h : onAddr none f a = some x) : ∃ b o, a = some ⟨b, o, none⟩ ∧ f b o = some x := by
  obtain _ | ⟨b, o, _ | sp⟩ := a
  · cases h
  · exact ⟨_, _, rfl, h⟩
  · cases h
theorem onPtr_some {β : Type} {f : Nat → Nat → Option β} {v : Value} {x : β} (h : onPtr none f v = some x) : ∃ a o, v = .pointer (some ⟨a, o, none⟩) ∧ f a o = some x := by
  cases v <;> first | (obtain ⟨b, o, rfl, h2⟩ := onAddr_some (show onAddr none f _ = some x from h); exact ⟨b, o, rfl, h2⟩) | cases h
theorem onSlice_some {β : Type} {f : Nat → Nat → Nat → Nat → Option β} {v : Value} {x : β} (h : onSlice none f v = some x) : ∃ a o l c, v = .slice (some ⟨a, o, none⟩) l c ∧ f a o l c = some x := by
  cases v <;> first | (obtain ⟨b, o, rfl, h2⟩ := onAddr_some (show onAddr none (fun b o => f b o _ _) _ = some x from h); exact ⟨b, o, _, _, rfl, h2⟩) | cases h
theorem onAgg_some {β : Type} {f : List Value → Option β} {v : Value} {x : β} (h : onAgg none f v = some x) : ∃ l, v = .agg ⟨l⟩ ∧ f l = some x := by
  cases v <;> first | (rename_i a; obtain ⟨l⟩ := a; exact ⟨l, rfl, h⟩) | cases h
theorem onTuple_some {β : Type} {f : List Value → Option β} {v : Value} {x : β} (h : onTuple none f v = some x) : ∃ l, v = .tuple ⟨l⟩ ∧ f l = some x := by
  cases v <;> first | (rename_i a; obtain ⟨l⟩ := a; exact ⟨l, rfl, h⟩) | cases h
theorem onNat_some {β : Type} {f : IntKind → Nat → Option β} {v : Value} {x : β} (h : onNat none f v = some x) : ∃ k n, v = .int k (Int.ofNat n) ∧ f k n = some x := by
  obtain ⟨k, n, rfl, h⟩ := onInt_some h
  cases n with
  | ofNat n => exact ⟨k, n, rfl, h⟩
  | negSucc n => cases h
theorem onSome_some {α β : Type} {f : α → Option β} {o : Option α} {x : β} (h : onSome none f o = some x) : ∃ a, o = some a ∧ f a = some x := by
  cases o with
  | none => cases h
  | some a => exact ⟨a, rfl, h⟩
theorem onCells_some {β : Type} {f : List Value → CMode → Nat → Option β} {o : Option CObj} {x : β} (h : onCells none f o = some x) : ∃ c m sz, o = some (.cells c m sz) ∧ f c m sz = some x := by
  cases o with
  | none => cases h
  | some o => cases o <;> first | exact ⟨_, _, _, rfl, h⟩ | cases h
theorem onRw_some {β : Type} {y : Option β} {m : CMode} {x : β} (h : onRw none y m = some x) : m ≠ .ro ∧ y = some x := by
  cases m <;> first | exact ⟨by simp, h⟩ | cases h
theorem onOne_some {β : Type} {y : Option β} {v : Value} {x : β} (h : onOne none y v = some x) : v.cells.toList = [v] ∧ v.oneCell' = true ∧ y = some x := by
  cases v <;> first | exact ⟨rfl, rfl, h⟩ | cases h


/-- Just the same. -/
def kIx (k : IntKind) : Nat := @IntKind.rec (fun _ => Nat) 0 1 2 3 4 5 6 7 k
def intEq (a b : Int) : Bool := @Int.rec (fun _ => Bool) (fun m => @Int.rec (fun _ => Bool) (fun n => Nat.beq m n) (fun _ => false) b) (fun m => @Int.rec (fun _ => Bool) (fun _ => false) (fun n => Nat.beq m n) b) a
def boolEq (a b : Bool) : Bool := @Bool.rec (fun _ => Bool) (not b) b a
def both (a b : Bool) : Bool := cond a b false
def optEq {α : Type} (e : α → α → Bool) (a b : Option α) : Bool := @Option.rec α (fun _ => Bool) (@Option.rec α (fun _ => Bool) true (fun _ => false) b) (fun x => @Option.rec α (fun _ => Bool) false (fun y => e x y) b) a
def addrEq (a b : Addr) : Bool := @Addr.rec (fun _ => Bool) (fun x o p => @Addr.rec (fun _ => Bool) (fun y q r => both (Nat.beq x y) (both (Nat.beq o q) (optEq Nat.beq p r))) b) a
def bytesEq (a b : List UInt8) : Bool := @List.rec UInt8 (fun _ => List UInt8 → Bool) (fun l => @List.rec UInt8 (fun _ => Bool) true (fun _ _ _ => false) l) (fun x _ ih l => @List.rec UInt8 (fun _ => Bool) false (fun y t _ => both (Nat.beq x.toNat y.toNat) (ih t)) l) a b
def strEq (a b : ByteArray) : Bool := bytesEq a.data.toList b.data.toList
def onIface {β : Type} (z : β) (f : TypeId → Value → β) (v : Value) : β := @Value.rec (fun _ => β) (fun _ => PUnit) (fun _ => PUnit) (fun _ => z) (fun _ _ => z) (fun _ _ => z) (fun _ _ _ => z) (fun _ => z) (fun _ => z) (fun _ _ _ => z) (fun _ => z) (fun _ => z) (fun _ _ _ _ _ => z) z (fun t v _ => f t v) z (fun _ _ => z) (fun _ _ => z) (fun _ _ => ⟨⟩) ⟨⟩ (fun _ _ _ _ => ⟨⟩) v
def isNilFunc (v : Value) : Bool := @Value.rec (fun _ => Bool) (fun _ => PUnit) (fun _ => PUnit) (fun _ => false) (fun _ _ => false) (fun _ _ => false) (fun _ _ _ => false) (fun _ => false) (fun _ => false) (fun _ _ _ => false) (fun _ => false) (fun _ => false) (fun _ _ _ _ _ => false) true (fun _ _ _ => false) false (fun _ _ => false) (fun _ _ => false) (fun _ _ => ⟨⟩) ⟨⟩ (fun _ _ _ _ => ⟨⟩) v
def isNilIface (v : Value) : Bool := @Value.rec (fun _ => Bool) (fun _ => PUnit) (fun _ => PUnit) (fun _ => false) (fun _ _ => false) (fun _ _ => false) (fun _ _ _ => false) (fun _ => false) (fun _ => false) (fun _ _ _ => false) (fun _ => false) (fun _ => false) (fun _ _ _ _ _ => false) false (fun _ _ _ => false) true (fun _ _ => false) (fun _ _ => false) (fun _ _ => ⟨⟩) ⟨⟩ (fun _ _ _ _ => ⟨⟩) v
def veqF (v : Value) : Value → Bool := @Value.rec (fun _ => Value → Bool) (fun _ => List Value → Bool) (fun _ => List Value → Bool)
  (fun x b => onBool false (fun y => boolEq x y) b) (fun k n b => onInt false (fun l m => both (Nat.beq (kIx k) (kIx l)) (intEq n m)) b) (fun _ _ _ => false) (fun _ _ _ _ => false) (fun s b => onString false (fun t => strEq s t) b)
  (fun p b => onPtr0 false (fun q => optEq addrEq p q) b) (fun p l c b => onSlice0 false (fun q m d => both (optEq addrEq p q) (both (Nat.beq l m) (Nat.beq c d))) b) (fun m b => onMap false (fun n => optEq Nat.beq m n) b) (fun _ _ => false) (fun _ _ _ _ _ _ => false)
  (fun b => isNilFunc b) (fun t _ ih b => onIface false (fun u w => both (Nat.beq t u) (ih w)) b) (fun b => isNilIface b) (fun _ ih b => onAgg false (fun l => ih l) b) (fun _ ih b => onTuple false (fun l => ih l) b)
  (fun _ ih l => ih l) (fun l => @List.rec Value (fun _ => Bool) true (fun _ _ _ => false) l) (fun _ _ ihx ihl l => @List.rec Value (fun _ => Bool) false (fun y t _ => both (ihx y) (ihl t)) l) v
theorem both_true {a b : Bool} (h : both a b = true) : a = true ∧ b = true := by
  cases a with
  | true => exact ⟨rfl, h⟩
  | false => cases h
theorem kIx_inj {a b : IntKind} (h : Nat.beq (kIx a) (kIx b) = true) : a = b := by
  have := Nat.eq_of_beq_eq_true h
  cases a <;> cases b <;> first | rfl | (exact absurd this (by decide))
theorem intEq_eq {a b : Int} (h : intEq a b = true) : a = b := by
  cases a <;> cases b <;> first | (cases h; done) | (rw [Nat.eq_of_beq_eq_true h])
theorem boolEq_eq {a b : Bool} (h : boolEq a b = true) : a = b := by cases a <;> cases b <;> first | rfl | cases h
theorem optEq_eq {α : Type} {e : α → α → Bool} (he : ∀ x y, e x y = true → x = y) {a b : Option α} (h : optEq e a b = true) : a = b := by
  cases a <;> cases b <;> first | rfl | (cases h; done) | (rw [he _ _ h])
theorem addrEq_eq (a b : Addr) (h : addrEq a b = true) : a = b := by
  obtain ⟨x, o, p⟩ := a
  obtain ⟨y, q, r⟩ := b
  obtain ⟨h1, h2⟩ := both_true h
  obtain ⟨h2, h3⟩ := both_true h2
  rw [Nat.eq_of_beq_eq_true h1, Nat.eq_of_beq_eq_true h2, optEq_eq (fun _ _ h => Nat.eq_of_beq_eq_true h) h3]
theorem bytesEq_eq : ∀ {a b : List UInt8}, bytesEq a b = true → a = b
  | [], [], _ => rfl
  | [], _ :: _, h => by cases h
  | _ :: _, [], h => by cases h
  | x :: a, y :: b, h => by
    obtain ⟨h1, h2⟩ := both_true (show both (Nat.beq x.toNat y.toNat) (bytesEq a b) = true from h)
    rw [UInt8.toNat_inj.1 (Nat.eq_of_beq_eq_true h1), bytesEq_eq h2]
theorem strEq_eq {a b : ByteArray} (h : strEq a b = true) : a = b := by
  obtain ⟨⟨a⟩⟩ := a
  obtain ⟨⟨b⟩⟩ := b
  rw [bytesEq_eq (show bytesEq a b = true from h)]
theorem veqF_eq : ∀ (v b : Value), veqF v b = true → v = b := by
  intro v
  refine @Value.rec (fun v => ∀ b, veqF v b = true → v = b) (fun a => ∀ l : List Value, @Value.rec_1 (fun _ => Value → Bool) (fun _ => List Value → Bool) (fun _ => List Value → Bool)
  (fun x b => onBool false (fun y => boolEq x y) b) (fun k n b => onInt false (fun l m => both (Nat.beq (kIx k) (kIx l)) (intEq n m)) b) (fun _ _ _ => false) (fun _ _ _ _ => false) (fun s b => onString false (fun t => strEq s t) b)
  (fun p b => onPtr0 false (fun q => optEq addrEq p q) b) (fun p l c b => onSlice0 false (fun q m d => both (optEq addrEq p q) (both (Nat.beq l m) (Nat.beq c d))) b) (fun m b => onMap false (fun n => optEq Nat.beq m n) b) (fun _ _ => false) (fun _ _ _ _ _ _ => false)
  (fun b => isNilFunc b) (fun t _ ih b => onIface false (fun u w => both (Nat.beq t u) (ih w)) b) (fun b => isNilIface b) (fun _ ih b => onAgg false (fun l => ih l) b) (fun _ ih b => onTuple false (fun l => ih l) b)
  (fun _ ih l => ih l) (fun l => @List.rec Value (fun _ => Bool) true (fun _ _ _ => false) l) (fun _ _ ihx ihl l => @List.rec Value (fun _ => Bool) false (fun y t _ => both (ihx y) (ihl t)) l) a l = true → a = ⟨l⟩) (fun a => ∀ l : List Value, @Value.rec_2 (fun _ => Value → Bool) (fun _ => List Value → Bool) (fun _ => List Value → Bool)
  (fun x b => onBool false (fun y => boolEq x y) b) (fun k n b => onInt false (fun l m => both (Nat.beq (kIx k) (kIx l)) (intEq n m)) b) (fun _ _ _ => false) (fun _ _ _ _ => false) (fun s b => onString false (fun t => strEq s t) b)
  (fun p b => onPtr0 false (fun q => optEq addrEq p q) b) (fun p l c b => onSlice0 false (fun q m d => both (optEq addrEq p q) (both (Nat.beq l m) (Nat.beq c d))) b) (fun m b => onMap false (fun n => optEq Nat.beq m n) b) (fun _ _ => false) (fun _ _ _ _ _ _ => false)
  (fun b => isNilFunc b) (fun t _ ih b => onIface false (fun u w => both (Nat.beq t u) (ih w)) b) (fun b => isNilIface b) (fun _ ih b => onAgg false (fun l => ih l) b) (fun _ ih b => onTuple false (fun l => ih l) b)
  (fun _ ih l => ih l) (fun l => @List.rec Value (fun _ => Bool) true (fun _ _ _ => false) l) (fun _ _ ihx ihl l => @List.rec Value (fun _ => Bool) false (fun y t _ => both (ihx y) (ihl t)) l) a l = true → a = l)
    ?_ ?_ ?_ ?_ ?_ ?_ ?_ ?_ ?_ ?_ ?_ ?_ ?_ ?_ ?_ ?_ ?_ ?_ v
  · intro x b h
    cases b <;> first | (cases h; done) | (rw [boolEq_eq h])
  · intro k n b h
    cases b <;> first | (cases h; done) | skip
    obtain ⟨h1, h2⟩ := both_true h
    rw [kIx_inj h1, intEq_eq h2]
  · intro _ _ _ h; cases h
  · intro _ _ _ _ h; cases h
  · intro s b h
    cases b <;> first | (cases h; done) | (rw [strEq_eq h])
  · intro p b h
    cases b <;> first | (cases h; done) | (rw [optEq_eq addrEq_eq h])
  · intro p l c b h
    cases b <;> first | (cases h; done) | skip
    obtain ⟨h1, h2⟩ := both_true h
    obtain ⟨h2, h3⟩ := both_true h2
    rw [optEq_eq addrEq_eq h1, Nat.eq_of_beq_eq_true h2, Nat.eq_of_beq_eq_true h3]
  · intro m b h
    cases b <;> first | (cases h; done) | (rw [optEq_eq (fun _ _ h => Nat.eq_of_beq_eq_true h) h])
  · intro _ _ h; cases h
  · intro _ _ _ _ _ _ h; cases h
  · intro b h
    cases b <;> first | (cases h; done) | rfl
  · intro t v ih b h
    cases b <;> first | (cases h; done) | skip
    obtain ⟨h1, h2⟩ := both_true h
    rw [Nat.eq_of_beq_eq_true h1, ih _ h2]
  · intro b h
    cases b <;> first | (cases h; done) | rfl
  · intro cs ih b h
    cases b <;> first | (cases h; done) | skip
    rename_i a
    obtain ⟨l⟩ := a
    rw [ih l h]
  · intro cs ih b h
    cases b <;> first | (cases h; done) | skip
    rename_i a
    obtain ⟨l⟩ := a
    rw [ih l h]
  · intro l ih m h
    rw [ih m h]
  · intro l h
    cases l <;> first | rfl | cases h
  · intro x l ihx ihl m h
    cases m with
    | nil => cases h
    | cons y m =>
      obtain ⟨h1, h2⟩ := both_true h
      rw [ihx y h1, ihl m h2]
end
end Go.Cl

/- Operations whose order is drawn: the plan, the run. -/
namespace Go.Cl
noncomputable section

/-- What an operation of a drawn region is to its plan. -/
inductive Kd where
  | eff | al | ins (g pre : Nat) | pure | read
structure PInfo where
  i : Nat
  o : Oper
  touch : List Tmp
  kind : Kd
  /-- the stage (effects done) at which the plan runs it -/
  q : Nat
  vis : List (Nat × Nat)
  wins : List (Nat × List (Nat × Nat))
structure Plan where
  infos : List PInfo
  fin : List (Nat × Nat)

/-! ### The plan -/
def touchOf (ops : Array Oper) (o : Oper) : List Tmp :=
  (o.op.operands.toList.filterMap fun | .tmp t => some t | _ => none) ++ (match o.guard with | some (j, _) => ((ops[j]?).bind (·.dst)).toList | none => [])
def ancGo : List Oper → List Nat → List Nat
  | [], acc => acc
  | o :: l, acc => ancGo l (acc ++ [o.after.toList.foldl (fun s e => if Region.binds .any e then s ||| 2 ^ e.on ||| acc.getD e.on 0 else s) 0])
def rdOp : Op → Bool
  | .move _ | .assign _ | .pick .. | .build .. | .load .. | .nilCheck _ | .binOp .. | .unOp .. | .convert .. | .makeInterface .. | .makeFunc .. | .slice .. | .fieldAddr .. | .field .. | .indexAddr .. | .index .. | .lookup .. | .entry _ | .typeAssert .. | .extract .. => true
  | .call { callee := .builtin b, .. } => (match b with | .len | .cap | .min | .max => true | _ => false)
  | _ => false
def pureOp : Op → Bool
  | .move _ | .assign _ | .pick .. | .build .. | .nilCheck _ | .binOp .. | .unOp .. | .makeInterface .. | .makeFunc .. | .fieldAddr .. | .field .. | .indexAddr .. | .index .. | .typeAssert .. | .extract .. => true
  | _ => false
def alOp : Op → Bool
  | .alloc _ | .box .. | .buildSlice .. | .makeMap .. | .makeSlice .. => true
  | _ => false
/-- A call of a function that leaves memory alone. -/
def pcOp (pf : FuncId → Bool) : Op → Bool
  | .call { callee := .value (.func g), .. } => pf g
  | _ => false
def kindOf (pf : FuncId → Bool) (ops : Array Oper) (i : Nat) (o : Oper) : Kd :=
  if alOp o.op then .al
  else match o.op with
    | .insert _ (.tmp m) _ _ =>
      (match (List.range i).filter fun j => (ops[j]?).any fun oj => oj.dst == some m with
      | [g] => (match (List.range i).reverse.find? fun j => j == g || (ops[j]?).any fun oj => (match oj.op with | .insert _ (.tmp m') _ _ => m' == m | _ => false) with
        | some pre => .ins g pre
        | none => .eff)
      | _ => .eff)
    | op => if pureOp op || pcOp pf op then .pure else if rdOp op then .read else .eff
/-- The static facts of a region. -/
structure Sta where
  n : Nat
  ops : List Oper
  anc : List Nat
  kinds : List Kd
def Sta.a (t : Sta) (i : Nat) : Nat := t.anc.getD i 0
def Sta.k (t : Sta) (i : Nat) : Kd := t.kinds.getD i .pure
def Sta.o (t : Sta) (i : Nat) : Option Oper := t.ops[i]?
def Sta.d (t : Sta) (i : Nat) : Option Tmp := (t.ops[i]?).bind (·.dst)
def Kd.isEff : Kd → Bool | .eff => true | _ => false
def Kd.isAl : Kd → Bool | .al => true | _ => false
def Kd.isIns (g : Nat) : Kd → Bool | .ins g' _ => g' == g | _ => false
def Sta.effs (t : Sta) : List Nat := (List.range t.n).filter fun i => (t.k i).isEff
def Sta.als (t : Sta) : List Nat := (List.range t.n).filter fun i => (t.k i).isAl
/-- Who writes the object g. -/
def Sta.ws (t : Sta) (g : Nat) : List Nat := (List.range t.n).filter fun i => i == g || (t.k i).isIns g
/-- The effects done, and what they hang on. -/
def Sta.mask (t : Sta) (k : Nat) : Nat := (t.effs.take k).foldl (fun m e => m ||| 2 ^ e ||| t.a e) 0
/-- The last of a list of numbers in order. -/
def lastOf : List Nat → Nat → Nat
  | [], d => d
  | x :: l, _ => lastOf l x
def Sta.vis (t : Sta) (a k : Nat) : List (Nat × Nat) :=
  t.als.filterMap fun g => if (t.ws g).all a.testBit && !(t.mask k).testBit g then some (g, lastOf (t.ws g) g) else none
def Sta.win (t : Sta) (i k : Nat) : Bool := (t.effs.take k).all (fun e => !(t.a e).testBit i) && (t.effs.drop k).all (fun e => !(t.a i).testBit e)
def Sta.q (t : Sta) (i : Nat) : Nat := ((List.range i).filter fun j => (t.k j).isEff).length
def Sta.info (t : Sta) (ops : Array Oper) (i : Nat) : PInfo :=
  let o := t.ops.getD i default
  ⟨i, o, touchOf ops o, t.k i, t.q i, t.vis (t.a i) (t.q i), match t.k i with
    | .read => (List.range (t.effs.length + 1)).filterMap fun k => if k ≠ t.q i ∧ t.win i k = true then some (k, t.vis (t.a i) k) else none
    | _ => []⟩
def mkSta (pf : FuncId → Bool) (ops : Array Oper) : Sta := ⟨ops.size, ops.toList, ancGo ops.toList [], ops.toList.zipIdx.map fun (o, i) => kindOf pf ops i o⟩
/-- What must hold of the static facts. -/
def Sta.ok (t : Sta) (ops : Array Oper) : Bool :=
  (List.range t.n).all (fun i => decide (t.a i < 2 ^ i) && (match t.o i with
    | some o => o.after.toList.all (fun e => !Region.binds .any e || decide (e.on < i)) &&
      (match t.k i with | .read => rdOp o.op | _ => true) &&
      (List.range t.n).all (fun j => j == i || (match t.d j with
        | some x => !((o.dst == some x) || (touchOf ops o).contains x) || (if j < i then (t.a i).testBit j else (t.a j).testBit i)
        | none => true))
    | none => false) &&
    (match t.k i with
    | .ins g pre => (t.k g).isAl && decide (g < i) && (t.a i).testBit pre && (t.ws g).contains pre && (t.ws g).all (fun j => j == i || decide (j ≤ pre) || (t.a j).testBit i)
    | _ => true)) &&
  t.effs.all (fun e => t.effs.all (fun f => !decide (e < f) || (t.a f).testBit e) && t.als.all fun g => !(t.a e).testBit g || (t.ws g).all (t.a e).testBit) &&
  t.als.all (fun g => (t.ws g).all fun i => (t.ws g).all fun j => !decide (i < j) || (t.a j).testBit i)
def mkPlan (pf : FuncId → Bool) (ops : Array Oper) : Option Plan :=
  let t := mkSta pf ops
  if t.ok ops then some ⟨(List.range t.n).map (t.info ops), t.vis (2 ^ t.n - 1) t.effs.length⟩ else none

structure ORec where
  v : Value
  T : PM Value
  lw : Option CObj
abbrev bigU : Nat := 1152921504606846976

def restr (T : PM Value) : List Tmp → PM Value
  | [] => .nil
  | t :: l => match T.get t with
    | some v => (restr T l).set t v
    | none => restr T l
/-- Objects of the region, put into memory. -/
def addV (n0 : Nat) (recs : PM ORec) : List (Nat × Nat) → PM CObj → PM CObj
  | [], h => h
  | (g, last) :: l, h => match recs.get last with
    | some ⟨_, _, some ob⟩ => (addV n0 recs l h).set (n0 + g) ob
    | _ => addV n0 recs l h

structure DSt where
  T : PM Value
  recs : PM ORec
  s : CS
  D : List DItem
  stg : PM (CS × List DItem)

variable (X : Ctx)
def dPut (N : Nat) (p : PInfo) (g : DSt) (v : Value) (T : PM Value) (lw : Option CObj) : DSt := ⟨putT g.T N p.o.dst v, g.recs.set p.i ⟨v, T, lw⟩, g.s, g.D, g.stg⟩
def dStage (p : PInfo) (g : DSt) (s : CS) (D : List DItem) : DSt := ⟨g.T, g.recs, s, D, g.stg.set (p.q + 1) (s, D)⟩
/-- The memory that an operation sees. -/
def dSee (n0 : Nat) (recs : PM ORec) (vis : List (Nat × Nat)) (s : CS) : CS := ⟨addV n0 recs vis s.h, s.nx, s.up⟩
/-- One operation of the region, in the plan's order. -/
def dStep (R : Rec) (ro : Option Nat) (N : Nat) (ops : Array Oper) (n0 : Nat) (p : PInfo) (g : DSt) : Option DSt :=
  let T := restr g.T p.touch
  match wantedT ops T p.o with
  | none => none
  | some false => (match p.kind with
    | .ins _ _ => none
    | .eff => some (dStage p (dPut N p g undef T none) (dSee n0 g.recs p.vis g.s) g.D)
    | _ => some (dPut N p g undef T none))
  | some true => (match p.kind with
    | .eff => (match stepO X R ro p.o T g.D (dSee n0 g.recs p.vis g.s) with
      | some (v, D, s) => if s.up ≤ bigU then some (dStage p (dPut N p g v T none) s D) else none
      | none => none)
    | .al => (match cop X T ⟨.nil, n0 + p.i, bigU⟩ p.o with
      | some (.val v ⟨h, a, b⟩) => if a = bigU ∧ b = bigU + 1 then (match h.get (n0 + p.i) with
        | some ob => some (dPut N p g v T (some ob))
        | none => none) else none
      | _ => none)
    | .ins t pre => (match g.recs.get pre with
      | some ⟨_, _, some ob⟩ => (match cop X T ⟨PM.nil.set (n0 + t) ob, bigU, bigU + 1⟩ p.o with
        | some (.val v ⟨h, a, b⟩) => if a = bigU ∧ b = bigU + 1 then (match h.get (n0 + t) with
          | some ob => some (dPut N p g v T (some ob))
          | none => none) else none
        | _ => none)
      | _ => none)
    | .pure => (match cop X T ⟨.nil, bigU, bigU + 1⟩ p.o with
      | some (.val v ⟨_, a, b⟩) => if a = bigU ∧ b = bigU + 1 then some (dPut N p g v T none) else none
      | some (.pcall v) => some (dPut N p g v T none)
      | _ => none)
    | .read => (match cop X T (dSee n0 g.recs p.vis g.s) p.o with
      | some (.val v _) => some (dPut N p g v T none)
      | _ => none))
def dRun (R : Rec) (ro : Option Nat) (N : Nat) (ops : Array Oper) (n0 : Nat) : List PInfo → DSt → Option DSt
  | [], g => some g
  | p :: l, g => match dStep X R ro N ops n0 p g with
    | some g' => dRun R ro N ops n0 l g'
    | none => none
/-- The other stages at which a read could come: the same value. -/
def dWins (n0 : Nat) (recs : PM ORec) (stg : PM (CS × List DItem)) (T : PM Value) (v : Value) (o : Oper) : List (Nat × List (Nat × Nat)) → Bool
  | [] => true
  | (k, vis) :: l => match stg.get k with
    | some (s, _) => (match cop X T (dSee n0 recs vis s) o with
      | some (.val v' _) => if veqF v' v then dWins n0 recs stg T v o l else false
      | _ => false)
    | none => false
def dChk1 (ops : Array Oper) (n0 : Nat) (recs : PM ORec) (stg : PM (CS × List DItem)) (p : PInfo) : Bool :=
  match p.wins with
  | [] => true
  | x :: xs => (match recs.get p.i with
    | some ⟨v, T, _⟩ => (match wantedT ops T p.o with
      | some true => dWins X n0 recs stg T v p.o (x :: xs)
      | _ => true)
    | none => false)
def dChk (ops : Array Oper) (n0 : Nat) (recs : PM ORec) (stg : PM (CS × List DItem)) : List PInfo → Bool
  | [] => true
  | p :: l => if dChk1 X ops n0 recs stg p then dChk ops n0 recs stg l else false
/-- The operations of a region in an order of their own, every other order being as good. -/
def drawR : Draws := fun R ro N ops T D s =>
  match mkPlan (fun f => (X.pf f).isSome) ops with
  | none => none
  | some pl =>
    let n0 := s.up
    let u := n0 + ops.size
    if u + 1 ≤ bigU then
      let s0 : CS := ⟨s.h, u, u + 1⟩
      (match dRun X R ro N ops n0 pl.infos ⟨T, .nil, s0, D, PM.nil.set 0 (s0, D)⟩ with
      | some g => if dChk X ops n0 g.recs g.stg pl.infos then some (g.T, g.D, dSee n0 g.recs pl.fin g.s) else none
      | none => none)
    else none
end
end Go.Cl

/- The static facts of a drawn region. -/
namespace Go.Cl
noncomputable section

structure SOk (t : Sta) (ops : Array Oper) : Prop where
  n : t.n = ops.size
  o : ∀ i, t.o i = ops[i]?
  d : ∀ i, t.d i = (ops[i]?).bind (·.dst)
  lt : ∀ {i}, i < t.n → ∀ {j}, (t.a i).testBit j = true → j < i
  edge : ∀ {i o}, ops[i]? = some o → ∀ {e}, e ∈ o.after.toList → Region.binds .any e = true → e.on < i
  rd : ∀ {i o}, ops[i]? = some o → (match t.k i with | .read => rdOp o.op | _ => true) = true
  tmp : ∀ {i o j x}, ops[i]? = some o → j < t.n → j ≠ i → t.d j = some x → (o.dst = some x ∨ x ∈ touchOf ops o) → if j < i then (t.a i).testBit j = true else (t.a j).testBit i = true
  ins : ∀ {i g pre}, i < t.n → t.k i = .ins g pre → (t.k g).isAl = true ∧ g < i ∧ (t.a i).testBit pre = true ∧ pre ∈ t.ws g ∧ ∀ j ∈ t.ws g, j = i ∨ j ≤ pre ∨ (t.a j).testBit i = true
  effc : ∀ {e f}, e ∈ t.effs → f ∈ t.effs → e < f → (t.a f).testBit e = true
  effo : ∀ {e g}, e ∈ t.effs → g ∈ t.als → (t.a e).testBit g = true → ∀ j ∈ t.ws g, (t.a e).testBit j = true
  chain : ∀ {g i j}, g ∈ t.als → i ∈ t.ws g → j ∈ t.ws g → i < j → (t.a j).testBit i = true
  anc : ∀ {i o}, ops[i]? = some o → ∀ {j}, (t.a i).testBit j = true → ∃ e ∈ o.after.toList, Region.binds .any e = true ∧ (j = e.on ∨ (t.a e.on).testBit j = true)

theorem ancGo_pre : ∀ (l : List Oper) (acc : List Nat) (i : Nat), i < acc.length → (ancGo l acc).getD i 0 = acc.getD i 0
  | [], _, _, _ => rfl
  | o :: l, acc, i, h => by
    simp only [ancGo]
    rw [ancGo_pre l _ i (by simp; omega)]
    simp [List.getD_eq_getElem?_getD, List.getElem?_append_left h]
theorem fold_or (f : Edge → Nat) (p : Edge → Bool) : ∀ (l : List Edge) (s j : Nat), (l.foldl (fun s e => if p e then s ||| 2 ^ e.on ||| f e else s) s).testBit j = true → s.testBit j = true ∨ ∃ e ∈ l, p e = true ∧ (j = e.on ∨ (f e).testBit j = true)
  | [], s, j, h => .inl h
  | e :: l, s, j, h => by
    simp only [List.foldl_cons] at h
    rcases fold_or f p l _ j h with h1 | ⟨e', h1, h2⟩
    · split at h1
      · rename_i hp
        rw [Nat.testBit_or, Nat.testBit_or, Nat.testBit_two_pow] at h1
        simp only [Bool.or_eq_true, decide_eq_true_eq] at h1
        rcases h1 with (h1 | h1) | h1
        · exact .inl h1
        · exact .inr ⟨e, by simp, hp, .inl h1.symm⟩
        · exact .inr ⟨e, by simp, hp, .inr h1⟩
      · exact .inl h1
    · exact .inr ⟨e', by simp [h1], h2⟩
theorem ancGo_at : ∀ (l : List Oper) (acc : List Nat) (k : Nat) (o : Oper), l[k]? = some o → ∀ j, ((ancGo l acc).getD (acc.length + k) 0).testBit j = true →
    ∃ e ∈ o.after.toList, Region.binds .any e = true ∧ (j = e.on ∨ ((ancGo l acc).getD e.on 0).testBit j = true)
  | [], _, _, _, h, _, _ => by simp at h
  | x :: l, acc, 0, o, h, j, hj => by
    simp only [List.getElem?_cons_zero, Option.some.injEq] at h
    subst h
    simp only [ancGo, Nat.add_zero] at hj ⊢
    rw [ancGo_pre l _ _ (by simp)] at hj
    simp only [List.getD_eq_getElem?_getD, List.getElem?_append_right (Nat.le_refl _), Nat.sub_self, List.getElem?_cons_zero, Option.getD_some] at hj
    rcases fold_or (fun e => acc[e.on]?.getD 0) (Region.binds .any) _ _ _ hj with h1 | ⟨e, h1, h2, h3⟩
    · simp at h1
    · refine ⟨e, h1, h2, ?_⟩
      rcases h3 with h3 | h3
      · exact .inl h3
      · right
        by_cases hl : e.on < acc.length
        · rw [ancGo_pre l _ _ (by simp; omega)]
          simpa [List.getD_eq_getElem?_getD, List.getElem?_append_left hl] using h3
        · rw [List.getElem?_eq_none (by omega)] at h3
          simp at h3
  | x :: l, acc, k + 1, o, h, j, hj => by
    simp only [List.getElem?_cons_succ] at h
    simp only [ancGo] at hj ⊢
    refine ancGo_at l _ k o h j ?_
    simpa only [List.length_append, List.length_cons, List.length_nil, Nat.zero_add, Nat.add_assoc, Nat.add_comm 1 k] using hj

theorem Sta.ok_spec {pf : FuncId → Bool} {ops : Array Oper} (h : (mkSta pf ops).ok ops = true) : SOk (mkSta pf ops) ops := by
  have ho : ∀ i, (mkSta pf ops).o i = ops[i]? := fun i => by simp [Sta.o, mkSta]
  have hd : ∀ i, (mkSta pf ops).d i = (ops[i]?).bind (·.dst) := fun i => by simp [Sta.d, mkSta]
  have hn : (mkSta pf ops).n = ops.size := rfl
  unfold Sta.ok at h
  generalize ht : mkSta pf ops = t at *
  simp only [Bool.and_eq_true, List.all_eq_true, List.mem_range] at h
  obtain ⟨⟨h1, h2⟩, h3⟩ := h
  have hlt : ∀ {i o}, ops[i]? = some o → i < t.n := fun {i o} hi => by
    rw [hn]; exact (Array.getElem?_eq_some_iff.1 hi).1
  have hA : ∀ {i o}, ops[i]? = some o → _ := fun {i o} hi => (h1 i (hlt hi)).1.2
  refine ⟨hn, ho, hd, ?_, ?_, ?_, ?_, ?_, ?_, ?_, ?_, ?_⟩
  · intro i hi j hj
    have := (h1 i hi).1.1
    simp only [decide_eq_true_eq] at this
    by_cases hji : j < i
    · exact hji
    · rw [Nat.testBit_lt_two_pow (Nat.lt_of_lt_of_le this (Nat.pow_le_pow_right (by omega) (by omega)))] at hj
      cases hj
  · intro i o hi e he hb
    have := hA hi
    rw [ho, hi] at this
    simp only [Bool.and_eq_true, List.all_eq_true] at this
    have := this.1.1 e he
    simpa [hb] using this
  · intro i o hi
    have := hA hi
    rw [ho, hi] at this
    simp only [Bool.and_eq_true] at this
    exact this.1.2
  · intro i o j x hi hj hji hdj hx
    have := hA hi
    rw [ho, hi] at this
    simp only [Bool.and_eq_true, List.all_eq_true, List.mem_range] at this
    have := this.2 j hj
    rw [hdj] at this
    simp only [Bool.or_eq_true, beq_iff_eq, Bool.not_eq_true', Bool.or_eq_false_iff] at this
    rcases this with h4 | h4 | h4
    · exact absurd h4 hji
    · rcases hx with hx | hx
      · simp [hx] at h4
      · simp [hx] at h4
    · split at h4 <;> rename_i hlt <;> simp [hlt, h4]
  · intro i g pre hi hk
    have := (h1 i hi).2
    rw [hk] at this
    simp only [Bool.and_eq_true, List.all_eq_true, decide_eq_true_eq, Bool.or_eq_true, beq_iff_eq, List.contains_iff_mem] at this
    obtain ⟨⟨⟨⟨a, b⟩, c⟩, d⟩, e⟩ := this
    exact ⟨a, b, c, d, fun j hj => by rcases e j hj with (q | q) | q; exact .inl q; exact .inr (.inl q); exact .inr (.inr q)⟩
  · intro e f he hf hef
    have := (h2 e he).1 f hf
    simpa [hef] using this
  · intro e g he hg hb j hj
    have := (h2 e he).2 g hg
    simp only [hb, Bool.not_true, Bool.false_or, List.all_eq_true] at this
    exact this j hj
  · intro g i j hg hi hj hij
    have := h3 g hg i hi j hj
    simpa [hij] using this
  · intro i o hi j hj
    subst ht
    have := ancGo_at ops.toList [] i o (by simpa using hi) j (by simpa [Sta.a, mkSta] using hj)
    simpa [Sta.a, mkSta] using this

theorem lastOf_spec : ∀ {l : List Nat} {d : Nat}, l ≠ [] → l.Pairwise (· < ·) → lastOf l d ∈ l ∧ ∀ y ∈ l, y ≤ lastOf l d
  | [], _, h, _ => absurd rfl h
  | [x], d, _, _ => by simp [lastOf]
  | x :: y :: l, d, _, hp => by
    have hp' := List.pairwise_cons.1 hp
    obtain ⟨h1, h2⟩ := lastOf_spec (l := y :: l) (d := x) (by simp) hp'.2
    simp only [lastOf] at h1 h2 ⊢
    refine ⟨List.mem_cons_of_mem _ h1, fun z hz => ?_⟩
    rcases List.mem_cons.1 hz with rfl | hz
    · exact Nat.le_of_lt (hp'.1 _ h1)
    · exact h2 z hz

variable {t : Sta}
theorem Sta.mem_effs {i : Nat} : i ∈ t.effs ↔ i < t.n ∧ (t.k i).isEff = true := by simp [Sta.effs]
theorem Sta.mem_als {i : Nat} : i ∈ t.als ↔ i < t.n ∧ (t.k i).isAl = true := by simp [Sta.als]
theorem Sta.mem_ws {g i : Nat} : i ∈ t.ws g ↔ i < t.n ∧ (i = g ∨ (t.k i).isIns g = true) := by simp [Sta.ws]
theorem Sta.ws_sorted (g : Nat) : (t.ws g).Pairwise (· < ·) := List.Pairwise.filter _ List.pairwise_lt_range
theorem Sta.effs_sorted : t.effs.Pairwise (· < ·) := List.Pairwise.filter _ List.pairwise_lt_range
theorem Sta.mem_mask {k g : Nat} : (t.mask k).testBit g = true ↔ ∃ e ∈ t.effs.take k, g = e ∨ (t.a e).testBit g = true := by
  unfold Sta.mask
  have : ∀ (l : List Nat) (m : Nat), (l.foldl (fun m e => m ||| 2 ^ e ||| t.a e) m).testBit g = true ↔ m.testBit g = true ∨ ∃ e ∈ l, g = e ∨ (t.a e).testBit g = true := by
    intro l
    induction l with
    | nil => intro m; simp
    | cons x l ih =>
      intro m
      rw [List.foldl_cons, ih, Nat.testBit_or, Nat.testBit_or, Nat.testBit_two_pow]
      simp only [Bool.or_eq_true, decide_eq_true_eq, List.mem_cons, exists_eq_or_imp]
      constructor
      · rintro (((h | h) | h) | h)
        · exact .inl h
        · exact .inr (.inl (.inl h.symm))
        · exact .inr (.inl (.inr h))
        · exact .inr (.inr h)
      · rintro (h | (h | h) | h)
        · exact .inl (.inl (.inl h))
        · exact .inl (.inl (.inr h.symm))
        · exact .inl (.inr h)
        · exact .inr h
  rw [this]
  simp
theorem Sta.mem_vis {a k g x : Nat} : (g, x) ∈ t.vis a k ↔ g ∈ t.als ∧ (∀ j ∈ t.ws g, a.testBit j = true) ∧ (t.mask k).testBit g = false ∧ x = lastOf (t.ws g) g := by
  simp only [Sta.vis, List.mem_filterMap]
  constructor
  · rintro ⟨g', h1, h2⟩
    split at h2
    · rename_i hc
      simp only [Bool.and_eq_true, List.all_eq_true, Bool.not_eq_true'] at hc
      simp only [Option.some.injEq, Prod.mk.injEq] at h2
      obtain ⟨rfl, rfl⟩ := h2
      exact ⟨h1, hc.1, hc.2, rfl⟩
    · cases h2
  · rintro ⟨h1, h2, h3, rfl⟩
    refine ⟨g, h1, ?_⟩
    rw [if_pos]
    simp only [Bool.and_eq_true, List.all_eq_true, Bool.not_eq_true']
    exact ⟨h2, h3⟩
theorem Sta.ws_last {g : Nat} (hg : g ∈ t.als) : lastOf (t.ws g) g ∈ t.ws g ∧ ∀ y ∈ t.ws g, y ≤ lastOf (t.ws g) g :=
  lastOf_spec (List.ne_nil_of_mem (Sta.mem_ws.2 ⟨(Sta.mem_als.1 hg).1, .inl rfl⟩)) (Sta.ws_sorted g)
theorem Sta.q_succ (i : Nat) : t.q (i + 1) = t.q i + (if (t.k i).isEff = true then 1 else 0) := by
  simp only [Sta.q, List.range_succ, List.filter_append, List.length_append, List.filter_cons, List.filter_nil]
  split <;> simp_all
theorem Sta.q_zero : t.q 0 = 0 := rfl
theorem Sta.effs_split {i : Nat} (hi : i ≤ t.n) : t.effs = (List.range i).filter (fun j => (t.k j).isEff) ++ ((List.range (t.n - i)).map (i + ·)).filter fun j => (t.k j).isEff := by
  unfold Sta.effs
  rw [← List.filter_append]
  congr 1
  have := List.range_add (n := i) (m := t.n - i)
  rwa [show i + (t.n - i) = t.n by omega] at this
theorem Sta.effs_q {i : Nat} (hi : i < t.n) (he : (t.k i).isEff = true) : t.effs[t.q i]? = some i := by
  rw [Sta.effs_split (Nat.le_of_lt hi), List.getElem?_append_right (by simp [Sta.q])]
  simp only [Sta.q, Nat.sub_self]
  rw [show t.n - i = (t.n - i - 1) + 1 by omega, List.range_succ_eq_map]
  simp [he]
theorem Sta.q_le (i : Nat) (hi : i ≤ t.n) : t.q i ≤ t.effs.length := by
  rw [Sta.effs_split hi]; simp [Sta.q]
theorem Sta.q_n : t.q t.n = t.effs.length := rfl
end
end Go.Cl

/- What the run of a drawn region has shown. -/
namespace Go.Cl
noncomputable section

def lwOf (recs : PM ORec) (x : Nat) : Option CObj := (recs.get x).bind (·.lw)
theorem addV_cons (n0 : Nat) (recs : PM ORec) (g x : Nat) (l : List (Nat × Nat)) (h : PM CObj) : addV n0 recs ((g, x) :: l) h = match lwOf recs x with | some ob => (addV n0 recs l h).set (n0 + g) ob | none => addV n0 recs l h := by
  simp only [addV, lwOf]
  cases recs.get x with
  | none => rfl
  | some rec => obtain ⟨v, T, lw⟩ := rec; cases lw <;> rfl
theorem addV_congr {n0 : Nat} {recs recs' : PM ORec} {h : PM CObj} : ∀ {l : List (Nat × Nat)}, (∀ g x, (g, x) ∈ l → recs'.get x = recs.get x) → addV n0 recs' l h = addV n0 recs l h
  | [], _ => rfl
  | (g, x) :: l, hx => by
    rw [addV_cons, addV_cons, addV_congr (l := l) fun g x hm => hx g x (by simp [hm])]
    simp only [lwOf, hx g x (by simp)]
/-- What such a memory holds. -/
theorem addV_get {n0 : Nat} {recs : PM ORec} {h : PM CObj} : ∀ {l : List (Nat × Nat)} {id : Nat} {o : CObj}, (addV n0 recs l h).get id = some o →
    (∃ g x, (g, x) ∈ l ∧ id = n0 + g ∧ lwOf recs x = some o) ∨ (h.get id = some o ∧ ∀ g x, (g, x) ∈ l → id = n0 + g → lwOf recs x = none)
  | [], id, o, ho => .inr ⟨ho, by simp⟩
  | (g, x) :: l, id, o, ho => by
    rw [addV_cons] at ho
    cases hl : lwOf recs x with
    | none =>
      rw [hl] at ho
      rcases addV_get (l := l) ho with ⟨g', x', h1, h2, h3⟩ | ⟨h1, h2⟩
      · exact .inl ⟨g', x', by simp [h1], h2, h3⟩
      · refine .inr ⟨h1, fun g' x' hm hid => ?_⟩
        rcases List.mem_cons.1 hm with hm | hm
        · cases hm; exact hl
        · exact h2 _ _ hm hid
    | some ob =>
      rw [hl] at ho
      simp only [PM.get_set] at ho
      split at ho
      · rename_i hid
        simp only [Option.some.injEq] at ho
        exact .inl ⟨g, x, by simp, hid, ho ▸ hl⟩
      · rename_i hid
        rcases addV_get (l := l) ho with ⟨g', x', h1, h2, h3⟩ | ⟨h1, h2⟩
        · exact .inl ⟨g', x', by simp [h1], h2, h3⟩
        · refine .inr ⟨h1, fun g' x' hm hid' => ?_⟩
          rcases List.mem_cons.1 hm with hm | hm
          · cases hm; exact absurd hid' hid
          · exact h2 _ _ hm hid'
theorem addV_mem {n0 : Nat} {recs : PM ORec} {h : PM CObj} : ∀ {l : List (Nat × Nat)} {g x : Nat} {o : CObj}, (∀ g a b, (g, a) ∈ l → (g, b) ∈ l → a = b) → (g, x) ∈ l → lwOf recs x = some o → (addV n0 recs l h).get (n0 + g) = some o
  | (g', x') :: l, g, x, o, hf, hm, ho => by
    rw [addV_cons]
    by_cases hg : g = g'
    · subst hg
      have hx := hf g x x' hm (by simp)
      subst hx
      rw [ho]; simp [PM.get_set]
    · have hm' : (g, x) ∈ l := by
        rcases List.mem_cons.1 hm with hm | hm
        · cases hm; exact absurd rfl hg
        · exact hm
      have ih := addV_mem (n0 := n0) (h := h) (l := l) (fun g a b ha hb => hf g a b (by simp [ha]) (by simp [hb])) hm' ho
      cases lwOf recs x' with
      | none => exact ih
      | some ob => simp only [PM.get_set]; rw [if_neg (by omega)]; exact ih
theorem addV_else {n0 : Nat} {recs : PM ORec} {h : PM CObj} : ∀ {l : List (Nat × Nat)} {id : Nat}, (∀ g x, (g, x) ∈ l → id = n0 + g → lwOf recs x = none) → (addV n0 recs l h).get id = h.get id
  | [], id, _ => rfl
  | (g', x') :: l, id, hx => by
    rw [addV_cons]
    have ih := addV_else (n0 := n0) (recs := recs) (h := h) (l := l) (id := id) (fun g x hm => hx g x (by simp [hm]))
    cases hl : lwOf recs x' with
    | none => exact ih
    | some ob =>
      simp only [PM.get_set]
      rw [if_neg ?_]; exact ih
      intro hid
      have := hx g' x' (by simp) hid
      rw [hl] at this; cases this
theorem restr_get {T : PM Value} : ∀ {l : List Tmp} {t : Nat} {v : Value}, (restr T l).get t = some v → t ∈ l ∧ T.get t = some v
  | [], t, v, h => by rw [restr, PM.get_nil'] at h; cases h
  | x :: l, t, v, h => by
    simp only [restr] at h
    split at h
    · rename_i u hu
      rw [PM.get_set] at h
      split at h
      · rename_i hx
        subst hx
        exact ⟨by simp, by rw [hu]; exact h⟩
      · obtain ⟨h1, h2⟩ := restr_get h; exact ⟨by simp [h1], h2⟩
    · obtain ⟨h1, h2⟩ := restr_get h; exact ⟨by simp [h1], h2⟩

section
variable (X : Ctx) (E : Rec) (ro : Option Nat) (N : Nat) (ops : Array Oper) (n0 : Nat) (t : Sta) (T0 : PM Value)

def Src (recs : PM ORec) (i tmp : Nat) (v : Value) : Prop :=
  (∃ j rec, j < i ∧ t.d j = some tmp ∧ tmp < N ∧ recs.get j = some rec ∧ v = rec.v ∧ ∀ j', j < j' → j' < i → t.d j' ≠ some tmp) ∨ ((∀ j, j < i → t.d j = some tmp → ¬ tmp < N) ∧ T0.get tmp = some v)
def KFact (recs : PM ORec) (stg : PM (CS × List DItem)) (i : Nat) (o : Oper) (rec : ORec) (KR : Nat → Prop) : Kd → Prop
  | .eff => rec.lw = none ∧ ∃ s D s' D', stg.get (t.q i) = some (s, D) ∧ stg.get (t.q i + 1) = some (s', D') ∧ stepO X E ro o rec.T D (dSee n0 recs (t.vis (t.a i) (t.q i)) s) = some (rec.v, D', s')
  | .al => ∃ h ob, cop X rec.T ⟨.nil, n0 + i, bigU⟩ o = some (.val rec.v ⟨h, bigU, bigU + 1⟩) ∧ h.get (n0 + i) = some ob ∧ rec.lw = some ob
  | .ins g pre => ∃ pob h ob, lwOf recs pre = some pob ∧ cop X rec.T ⟨PM.nil.set (n0 + g) pob, bigU, bigU + 1⟩ o = some (.val rec.v ⟨h, bigU, bigU + 1⟩) ∧ h.get (n0 + g) = some ob ∧ rec.lw = some ob
  | .pure => rec.lw = none ∧ ((∃ h, cop X rec.T ⟨.nil, bigU, bigU + 1⟩ o = some (.val rec.v ⟨h, bigU, bigU + 1⟩)) ∨ cop X rec.T ⟨.nil, bigU, bigU + 1⟩ o = some (.pcall rec.v))
  | .read => rec.lw = none ∧ ∀ k, KR k → ∃ s D s1, stg.get k = some (s, D) ∧ cop X rec.T (dSee n0 recs (t.vis (t.a i) k) s) o = some (.val rec.v s1)
def OpFact (recs : PM ORec) (stg : PM (CS × List DItem)) (KR : Nat → Prop) (i : Nat) (o : Oper) : Prop :=
  ∃ rec, recs.get i = some rec ∧ (∀ tmp v, rec.T.get tmp = some v → tmp ∈ touchOf ops o ∧ Src N t T0 recs i tmp v) ∧ ∃ b, wantedT ops rec.T o = some b ∧
    (b = false → rec.v = undef ∧ rec.lw = none ∧ (∀ g p, t.k i ≠ .ins g p) ∧ (t.k i = .eff → ∃ s D, stg.get (t.q i) = some (s, D) ∧ stg.get (t.q i + 1) = some (dSee n0 recs (t.vis (t.a i) (t.q i)) s, D))) ∧
    (b = true → KFact X E ro n0 t recs stg i o rec KR (t.k i))
def Gen (i : Nat) (g : DSt) : Prop :=
  (∀ tmp v, g.T.get tmp = some v → Src N t T0 g.recs i tmp v) ∧ g.stg.get (t.q i) = some (g.s, g.D) ∧ (∀ k s D, g.stg.get k = some (s, D) → s.up ≤ bigU)
end

variable {X : Ctx} {E : Rec} {ro : Option Nat} {N : Nat} {ops : Array Oper} {n0 : Nat} {t : Sta} {T0 : PM Value}

theorem Src.congr {recs recs' : PM ORec} {i tmp : Nat} {v : Value} (h : Src N t T0 recs i tmp v) (hr : ∀ j, j < i → recs'.get j = recs.get j) : Src N t T0 recs' i tmp v := by
  rcases h with ⟨j, rec, h1, h2, h3, h4, h5⟩ | h
  · exact .inl ⟨j, rec, h1, h2, h3, (hr j h1).trans h4, h5⟩
  · exact .inr h
theorem vis_lt (hok : SOk t ops) {i k g x : Nat} (hi : i < t.n) (h : (g, x) ∈ t.vis (t.a i) k) : x < i := by
  obtain ⟨h1, h2, h3, rfl⟩ := Sta.mem_vis.1 h
  exact hok.lt hi (h2 _ (Sta.ws_last h1).1)
theorem dSee_congr (hok : SOk t ops) {recs recs' : PM ORec} {i k : Nat} {s : CS} (hi : i < t.n) (hr : ∀ j, j < i → recs'.get j = recs.get j) : dSee n0 recs' (t.vis (t.a i) k) s = dSee n0 recs (t.vis (t.a i) k) s := by
  simp only [dSee]
  rw [addV_congr fun g x hm => hr x (vis_lt hok hi hm)]
/-- What is shown of an operation stays shown. -/
theorem OpFact.congr (hok : SOk t ops) {recs recs' : PM ORec} {stg stg' : PM (CS × List DItem)} {KR : Nat → Prop} {i : Nat} {o : Oper} (hi : i < t.n) (h : OpFact X E ro N ops n0 t T0 recs stg KR i o) (hr : ∀ j, j ≤ i → recs'.get j = recs.get j)
    (hs : ∀ k, k ≤ t.q (i + 1) → stg'.get k = stg.get k) (hk : ∀ k, KR k → k ≤ t.q (i + 1)) : OpFact X E ro N ops n0 t T0 recs' stg' KR i o := by
  obtain ⟨rec, h1, h2, b, h3, h4, h5⟩ := h
  have hr' : ∀ j, j < i → recs'.get j = recs.get j := fun j hj => hr j (Nat.le_of_lt hj)
  have hs0 : stg'.get (t.q i) = stg.get (t.q i) := hs _ (by rw [Sta.q_succ]; omega)
  have hs1 : (t.k i).isEff = true → stg'.get (t.q i + 1) = stg.get (t.q i + 1) := fun he => hs _ (by rw [Sta.q_succ, if_pos he]; exact Nat.le_refl _)
  refine ⟨rec, (hr i (Nat.le_refl _)).trans h1, fun tmp v hv => ⟨(h2 tmp v hv).1, (h2 tmp v hv).2.congr hr'⟩, b, h3, fun hb => ?_, fun hb => ?_⟩
  · obtain ⟨q1, q2, q3, q4⟩ := h4 hb
    refine ⟨q1, q2, q3, fun he => ?_⟩
    obtain ⟨s, D, p1, p2⟩ := q4 he
    exact ⟨s, D, hs0.trans p1, by rw [hs1 (by rw [he]; rfl), dSee_congr hok hi hr']; exact p2⟩
  · have h5 := h5 hb
    cases hkd : t.k i with
    | eff =>
      rw [hkd] at h5
      obtain ⟨q0, s, D, s', D', q1, q2, q3⟩ := h5
      exact ⟨q0, s, D, s', D', hs0.trans q1, (hs1 (by rw [hkd]; rfl)).trans q2, by rw [dSee_congr hok hi hr']; exact q3⟩
    | al => rw [hkd] at h5; exact h5
    | ins g pre =>
      rw [hkd] at h5
      obtain ⟨pob, x, ob, q1, q2⟩ := h5
      refine ⟨pob, x, ob, ?_, q2⟩
      have := (hok.ins hi hkd).2.2.1
      unfold lwOf at q1 ⊢
      rw [hr' pre (hok.lt hi this)]; exact q1
    | pure => rw [hkd] at h5; exact h5
    | read =>
      rw [hkd] at h5
      refine ⟨h5.1, fun k hKR => ?_⟩
      obtain ⟨s, D, s1, q1, q2⟩ := h5.2 k hKR
      exact ⟨s, D, s1, (hs k (hk k hKR)).trans q1, by rw [dSee_congr hok hi hr']; exact q2⟩

theorem Src.put {recs : PM ORec} {i : Nat} {T : PM Value} {d : Option Tmp} {rec : ORec} (hd : t.d i = d) (h : ∀ tmp v, T.get tmp = some v → Src N t T0 recs i tmp v) (tmp : Nat) (v : Value) (hv : (putT T N d rec.v).get tmp = some v) :
    Src N t T0 (recs.set i rec) (i + 1) tmp v := by
  have hrec : ∀ j, j < i → (recs.set i rec).get j = recs.get j := fun j hj => by rw [PM.get_set, if_neg (by omega)]
  have old : (d = some tmp → ¬ tmp < N) → T.get tmp = some v → Src N t T0 (recs.set i rec) (i + 1) tmp v := by
    intro hnot hget
    rcases h tmp v hget with ⟨j, rj, h1, h2, h3, h4, h5, h6⟩ | ⟨h1, h2⟩
    · refine .inl ⟨j, rj, by omega, h2, h3, (hrec j h1).trans h4, h5, fun j' q1 q2 => ?_⟩
      by_cases hji : j' = i
      · subst hji; rw [hd]; exact fun e => hnot e h3
      · exact h6 j' q1 (by omega)
    · refine .inr ⟨fun j hj hdj => ?_, h2⟩
      by_cases hji : j = i
      · subst hji; rw [hd] at hdj; exact hnot hdj
      · exact h1 j (by omega) hdj
  cases d with
  | none => exact old (by simp) hv
  | some x =>
    simp only [putT] at hv
    split at hv
    · rename_i hx
      rw [PM.get_set] at hv
      split at hv
      · rename_i hxt
        subst hxt
        simp only [Option.some.injEq] at hv
        exact .inl ⟨i, rec, by omega, hd, hx, PM.get_set_same _ _ _, hv.symm, fun j' q1 q2 => by omega⟩
      · rename_i hxt
        exact old (fun e => by simp only [Option.some.injEq] at e; exact absurd e.symm hxt) hv
    · rename_i hx
      exact old (fun e => by simp only [Option.some.injEq] at e; exact e ▸ hx) hv
end
end Go.Cl

