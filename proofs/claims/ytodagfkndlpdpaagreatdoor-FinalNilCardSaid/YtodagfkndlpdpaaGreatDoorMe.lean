/- closed operations. -/
import Derived.Test.YtodagfkndlpdpaaGreatDoorMd
/- The clean machine's evaluator, second form: what does not hang on the state stands outside, in closures. Temporaries, operands. -/
namespace Go.Cl
noncomputable section

/-- A closed look-up. -/
structure GC (α : Type) where
  run : PM α → Option α
/-- A closed store. -/
structure UC (α : Type) where
  run : α → PM α → PM α
variable {α : Type}
def gD (x : D8) (G : GC α) : GC α := @D8.rec (fun _ => GC α)
  ⟨fun t => @PM.rec α (fun _ => Option α) (fun _ => PUnit) none (fun _ k _ => @N8.rec (PM α) (fun _ => Option α) (fun a _ _ _ _ _ _ _ => G.run a) k) (fun _ _ _ _ _ _ _ _ _ _ _ _ _ _ _ _ => ⟨⟩) t⟩
  ⟨fun t => @PM.rec α (fun _ => Option α) (fun _ => PUnit) none (fun _ k _ => @N8.rec (PM α) (fun _ => Option α) (fun _ b _ _ _ _ _ _ => G.run b) k) (fun _ _ _ _ _ _ _ _ _ _ _ _ _ _ _ _ => ⟨⟩) t⟩
  ⟨fun t => @PM.rec α (fun _ => Option α) (fun _ => PUnit) none (fun _ k _ => @N8.rec (PM α) (fun _ => Option α) (fun _ _ c _ _ _ _ _ => G.run c) k) (fun _ _ _ _ _ _ _ _ _ _ _ _ _ _ _ _ => ⟨⟩) t⟩
  ⟨fun t => @PM.rec α (fun _ => Option α) (fun _ => PUnit) none (fun _ k _ => @N8.rec (PM α) (fun _ => Option α) (fun _ _ _ d _ _ _ _ => G.run d) k) (fun _ _ _ _ _ _ _ _ _ _ _ _ _ _ _ _ => ⟨⟩) t⟩
  ⟨fun t => @PM.rec α (fun _ => Option α) (fun _ => PUnit) none (fun _ k _ => @N8.rec (PM α) (fun _ => Option α) (fun _ _ _ _ e _ _ _ => G.run e) k) (fun _ _ _ _ _ _ _ _ _ _ _ _ _ _ _ _ => ⟨⟩) t⟩
  ⟨fun t => @PM.rec α (fun _ => Option α) (fun _ => PUnit) none (fun _ k _ => @N8.rec (PM α) (fun _ => Option α) (fun _ _ _ _ _ f _ _ => G.run f) k) (fun _ _ _ _ _ _ _ _ _ _ _ _ _ _ _ _ => ⟨⟩) t⟩
  ⟨fun t => @PM.rec α (fun _ => Option α) (fun _ => PUnit) none (fun _ k _ => @N8.rec (PM α) (fun _ => Option α) (fun _ _ _ _ _ _ g _ => G.run g) k) (fun _ _ _ _ _ _ _ _ _ _ _ _ _ _ _ _ => ⟨⟩) t⟩
  ⟨fun t => @PM.rec α (fun _ => Option α) (fun _ => PUnit) none (fun _ k _ => @N8.rec (PM α) (fun _ => Option α) (fun _ _ _ _ _ _ _ h => G.run h) k) (fun _ _ _ _ _ _ _ _ _ _ _ _ _ _ _ _ => ⟨⟩) t⟩ x
def gC (p : Path) : GC α := @Path.rec (fun _ => GC α) ⟨PM.top⟩ (fun x _ G => gD x G) p
theorem gC_eq : ∀ (p : Path) (t : PM α), (gC p).run t = PM.getP p t
  | .e, _ => rfl
  | .d x p, t => by
    show (gD x (gC p)).run t = PM.getP p (PM.kid x t)
    rw [← gC_eq p]
    cases t with
    | nil =>
      have : (gC p).run .nil = none := (gC_eq p _).trans (PM.getP_nil p)
      cases x <;> exact this.symm
    | node v k => cases x <;> rfl
def uD (x : D8) (U : UC α) : UC α := @D8.rec (fun _ => UC α)
  ⟨fun y t => @PM.rec α (fun _ => PM α) (fun _ => PUnit) (.node none ⟨U.run y .nil, .nil, .nil, .nil, .nil, .nil, .nil, .nil⟩) (fun v k _ => @N8.rec (PM α) (fun _ => PM α) (fun a b c d e f g h => .node v ⟨U.run y a, b, c, d, e, f, g, h⟩) k) (fun _ _ _ _ _ _ _ _ _ _ _ _ _ _ _ _ => ⟨⟩) t⟩
  ⟨fun y t => @PM.rec α (fun _ => PM α) (fun _ => PUnit) (.node none ⟨.nil, U.run y .nil, .nil, .nil, .nil, .nil, .nil, .nil⟩) (fun v k _ => @N8.rec (PM α) (fun _ => PM α) (fun a b c d e f g h => .node v ⟨a, U.run y b, c, d, e, f, g, h⟩) k) (fun _ _ _ _ _ _ _ _ _ _ _ _ _ _ _ _ => ⟨⟩) t⟩
  ⟨fun y t => @PM.rec α (fun _ => PM α) (fun _ => PUnit) (.node none ⟨.nil, .nil, U.run y .nil, .nil, .nil, .nil, .nil, .nil⟩) (fun v k _ => @N8.rec (PM α) (fun _ => PM α) (fun a b c d e f g h => .node v ⟨a, b, U.run y c, d, e, f, g, h⟩) k) (fun _ _ _ _ _ _ _ _ _ _ _ _ _ _ _ _ => ⟨⟩) t⟩
  ⟨fun y t => @PM.rec α (fun _ => PM α) (fun _ => PUnit) (.node none ⟨.nil, .nil, .nil, U.run y .nil, .nil, .nil, .nil, .nil⟩) (fun v k _ => @N8.rec (PM α) (fun _ => PM α) (fun a b c d e f g h => .node v ⟨a, b, c, U.run y d, e, f, g, h⟩) k) (fun _ _ _ _ _ _ _ _ _ _ _ _ _ _ _ _ => ⟨⟩) t⟩
  ⟨fun y t => @PM.rec α (fun _ => PM α) (fun _ => PUnit) (.node none ⟨.nil, .nil, .nil, .nil, U.run y .nil, .nil, .nil, .nil⟩) (fun v k _ => @N8.rec (PM α) (fun _ => PM α) (fun a b c d e f g h => .node v ⟨a, b, c, d, U.run y e, f, g, h⟩) k) (fun _ _ _ _ _ _ _ _ _ _ _ _ _ _ _ _ => ⟨⟩) t⟩
  ⟨fun y t => @PM.rec α (fun _ => PM α) (fun _ => PUnit) (.node none ⟨.nil, .nil, .nil, .nil, .nil, U.run y .nil, .nil, .nil⟩) (fun v k _ => @N8.rec (PM α) (fun _ => PM α) (fun a b c d e f g h => .node v ⟨a, b, c, d, e, U.run y f, g, h⟩) k) (fun _ _ _ _ _ _ _ _ _ _ _ _ _ _ _ _ => ⟨⟩) t⟩
  ⟨fun y t => @PM.rec α (fun _ => PM α) (fun _ => PUnit) (.node none ⟨.nil, .nil, .nil, .nil, .nil, .nil, U.run y .nil, .nil⟩) (fun v k _ => @N8.rec (PM α) (fun _ => PM α) (fun a b c d e f g h => .node v ⟨a, b, c, d, e, f, U.run y g, h⟩) k) (fun _ _ _ _ _ _ _ _ _ _ _ _ _ _ _ _ => ⟨⟩) t⟩
  ⟨fun y t => @PM.rec α (fun _ => PM α) (fun _ => PUnit) (.node none ⟨.nil, .nil, .nil, .nil, .nil, .nil, .nil, U.run y .nil⟩) (fun v k _ => @N8.rec (PM α) (fun _ => PM α) (fun a b c d e f g h => .node v ⟨a, b, c, d, e, f, g, U.run y h⟩) k) (fun _ _ _ _ _ _ _ _ _ _ _ _ _ _ _ _ => ⟨⟩) t⟩ x
def uC (p : Path) : UC α := @Path.rec (fun _ => UC α) ⟨fun y t => PM.setTop (some y) t⟩ (fun x _ U => uD x U) p
theorem uC_eq (y : α) : ∀ (p : Path) (t : PM α), (uC p).run y t = PM.putP (some y) p t
  | .e, _ => rfl
  | .d x p, t => by
    show (uD x (uC p)).run y t = PM.turn x (PM.putP (some y) p) t
    rw [← funext (uC_eq y p)]
    cases t <;> cases x <;> rfl

theorem gC_get (h : PM α) (n : Nat) : (gC (path n)).run h = h.get n := gC_eq _ _
theorem uC_set (h : PM α) (n : Nat) (o : α) : (uC (path n)).run o h = h.set n o := uC_eq _ _ _
/-- A closed operand. -/
def evC (X : Ctx) : Operand → GC Value
  | .tmp t => gC (path t)
  | .const v => if constOk v then ⟨fun _ => some v⟩ else ⟨fun _ => none⟩
  | .global g => if g < X.G then ⟨fun _ => some (.pointer (some ⟨g, 0, none⟩))⟩ else ⟨fun _ => none⟩
  | .func f => ⟨fun _ => some (.func (.func f) #[] #[])⟩
theorem evC_eq (X : Ctx) (T : PM Value) (x : Operand) : (evC X x).run T = ev X T x := by
  cases x with
  | tmp t => exact gC_eq _ _
  | const v => simp only [evC, ev]; split <;> rfl
  | global g => simp only [evC, ev]; split <;> rfl
  | func f => rfl
structure EsC where
  run : PM Value → Option (List Value)
def evsK (a : Option Value) (b : Option (List Value)) : Option (List Value) := @Option.rec Value (fun _ => Option (List Value)) none (fun v => @Option.rec (List Value) (fun _ => Option (List Value)) none (fun vs => some (v :: vs)) b) a
def evsC (X : Ctx) : List Operand → EsC
  | [] => ⟨fun _ => some []⟩
  | x :: l => ⟨fun T => evsK ((evC X x).run T) ((evsC X l).run T)⟩
theorem evsC_eq (X : Ctx) (T : PM Value) : ∀ l : List Operand, (evsC X l).run T = evs X T l
  | [] => rfl
  | x :: l => by
    simp only [evsC, evs, evC_eq, evsC_eq X T l]
    cases ev X T x <;> cases evs X T l <;> rfl

/-- A closed destination. -/
def dstC (N : Nat) : Option Tmp → UC Value
  | none => ⟨fun _ T => T⟩
  | some t => if t < N then uC (path t) else ⟨fun _ T => T⟩
theorem dstC_eq (N : Nat) (d : Option Tmp) (v : Value) (T : PM Value) : (dstC N d).run v T = putT T N d v := by
  cases d with
  | none => rfl
  | some t =>
    simp only [dstC, putT]
    split
    · exact uC_eq _ _ _
    · rfl

/-- A closed operation, its rest behind it. -/
abbrev KV := Value → List DItem → CS → CodeRes
structure OC where
  run : Rec → Option Nat → PM Value → List DItem → CS → KV → CodeRes
/-- A closed operation that only yields a value. -/
structure VC where
  run : PM Value → CS → Option Value
/-- A closed operation that yields a value and turns memory. -/
abbrev KS := Value → CS → CodeRes
structure WC where
  run : PM Value → CS → KS → CodeRes
def OCOk (X : Ctx) (o : Oper) (c : OC) : Prop := ∀ {R ro T D s k res}, c.run R ro T D s k = some res → ∃ v D' s', stepO X R ro o T D s = some (v, D', s') ∧ k v D' s' = some res
def VCOk (X : Ctx) (o : Oper) (c : VC) : Prop := ∀ {T s v}, c.run T s = some v → cop X T s o = some (.val v s)
def WCOk (X : Ctx) (o : Oper) (c : WC) : Prop := ∀ {T s k res}, c.run T s k = some res → ∃ v s', cop X T s o = some (.val v s') ∧ k v s' = some res
def kv (o : Option Value) (D : List DItem) (s : CS) (k : KV) : CodeRes := @Option.rec Value (fun _ => CodeRes) none (fun v => k v D s) o
theorem kv_some {o : Option Value} {D : List DItem} {s : CS} {k : KV} {res : Exit × PM Value × List DItem × CS} (h : kv o D s k = some res) : ∃ v, o = some v ∧ k v D s = some res := by
  cases o with
  | none => cases h
  | some v => exact ⟨v, rfl, h⟩
def genO (X : Ctx) (o : Oper) : OC := ⟨fun R ro T D s k => match stepO X R ro o T D s with | some (v, D', s') => k v D' s' | none => none⟩
theorem genO_ok (X : Ctx) (o : Oper) : OCOk X o (genO X o) := by
  intro R ro T D s k res h
  simp only [genO] at h
  split at h
  · exact ⟨_, _, _, by assumption, h⟩
  · cases h
def ofV (c : VC) : OC := ⟨fun _ _ T D s k => kv (c.run T s) D s k⟩
theorem ofV_ok {X : Ctx} {o : Oper} {c : VC} (h : VCOk X o c) : OCOk X o (ofV c) := by
  intro R ro T D s k res hr
  obtain ⟨v, h1, h2⟩ := kv_some hr
  exact ⟨v, D, s, by simp [stepO, h h1], h2⟩
def ofW (c : WC) : OC := ⟨fun _ _ T D s k => c.run T s (fun v s' => k v D s')⟩
theorem ofW_ok {X : Ctx} {o : Oper} {c : WC} (h : WCOk X o c) : OCOk X o (ofW c) := by
  intro R ro T D s k res hr
  obtain ⟨v, s', h1, h2⟩ := h hr
  exact ⟨v, D, s', by simp [stepO, h1], h2⟩
end
end Go.Cl

/- Integers, fast: what two numbers that are not negative come to. Thirty-two bits through a table of operations ('Alu'), so that a run may be carried out over data that stay letters. -/
namespace Go.Cl
noncomputable section

structure Alu where
  add : Nat → Nat → Nat
  sub : Nat → Nat → Nat
  mul : Nat → Nat → Nat
  quo : Nat → Nat → Nat
  and : Nat → Nat → Nat
  or : Nat → Nat → Nat
  xor : Nat → Nat → Nat
  shl : Nat → Nat → Nat
  shr : Nat → Nat → Nat
  ofB : Nat → Nat
  toB : Nat → Nat
def pw (B n : Nat) : Nat := Nat.pow 2 (cond (Nat.ble n B) n B)
def Alu.real : Alu where
  add m n := Nat.mod (Nat.add m n) 4294967296
  sub m n := Nat.mod (Nat.sub (Nat.add m 4294967296) (Nat.mod n 4294967296)) 4294967296
  mul m n := Nat.mod (Nat.mul m n) 4294967296
  quo m n := Nat.mod (Nat.div m n) 4294967296
  and m n := Nat.land (Nat.mod m 4294967296) (Nat.mod n 4294967296)
  or m n := Nat.lor (Nat.mod m 4294967296) (Nat.mod n 4294967296)
  xor m n := Nat.xor (Nat.mod m 4294967296) (Nat.mod n 4294967296)
  shl m n := Nat.mod (Nat.mul m (pw 32 n)) 4294967296
  shr m n := Nat.div m (pw 32 n)
  ofB m := Nat.mod m 4294967296
  toB m := Nat.mod m 256
structure NC where
  run : Nat → Nat → Option Value
def vn (k : IntKind) (n : Nat) : Option Value := some (.int k (.ofNat n))
def vb (b : Bool) : Option Value := some (.bool b)
def fastU (k : IntKind) (M B : Nat) : BinOp → NC
  | .add => ⟨fun m n => vn k (Nat.mod (Nat.add m n) M)⟩
  | .sub => ⟨fun m n => vn k (Nat.mod (Nat.sub (Nat.add m M) (Nat.mod n M)) M)⟩
  | .mul => ⟨fun m n => vn k (Nat.mod (Nat.mul m n) M)⟩
  | .quo => ⟨fun m n => cond (Nat.beq n 0) none (vn k (Nat.mod (Nat.div m n) M))⟩
  | .rem => ⟨fun m n => cond (Nat.beq n 0) none (vn k (Nat.mod m n))⟩
  | .and => ⟨fun m n => vn k (Nat.land (Nat.mod m M) (Nat.mod n M))⟩
  | .or => ⟨fun m n => vn k (Nat.lor (Nat.mod m M) (Nat.mod n M))⟩
  | .xor => ⟨fun m n => vn k (Nat.xor (Nat.mod m M) (Nat.mod n M))⟩
  | .shl => ⟨fun m n => vn k (Nat.mod (Nat.mul m (pw B n)) M)⟩
  | .shr => ⟨fun m n => vn k (Nat.div m (pw B n))⟩
  | .eql => ⟨fun m n => vb (Nat.beq m n)⟩
  | .neq => ⟨fun m n => vb (not (Nat.beq m n))⟩
  | .lss => ⟨fun m n => vb (Nat.blt m n)⟩
  | .leq => ⟨fun m n => vb (Nat.ble m n)⟩
  | .gtr => ⟨fun m n => vb (Nat.blt n m)⟩
  | .geq => ⟨fun m n => vb (Nat.ble n m)⟩
  | _ => ⟨fun _ _ => none⟩
def fastA (A : Alu) : BinOp → NC
  | .add => ⟨fun m n => vn .u32 (A.add m n)⟩
  | .sub => ⟨fun m n => vn .u32 (A.sub m n)⟩
  | .mul => ⟨fun m n => vn .u32 (A.mul m n)⟩
  | .quo => ⟨fun m n => cond (Nat.beq n 0) none (vn .u32 (A.quo m n))⟩
  | .and => ⟨fun m n => vn .u32 (A.and m n)⟩
  | .or => ⟨fun m n => vn .u32 (A.or m n)⟩
  | .xor => ⟨fun m n => vn .u32 (A.xor m n)⟩
  | .shl => ⟨fun m n => vn .u32 (A.shl m n)⟩
  | .shr => ⟨fun m n => vn .u32 (A.shr m n)⟩
  | op => fastU .u32 4294967296 32 op
def fastI : BinOp → NC
  | .add => ⟨fun m n => cond (Nat.blt (Nat.add m n) 9223372036854775808) (vn .i64 (Nat.add m n)) none⟩
  | .sub => ⟨fun m n => cond (Nat.blt m 9223372036854775808) (cond (Nat.ble n m) (vn .i64 (Nat.sub m n)) (cond (Nat.ble n 9223372036854775808) (some (.int .i64 (.negSucc (Nat.sub (Nat.sub n m) 1)))) none)) none⟩
  | .mul => ⟨fun m n => cond (Nat.blt (Nat.mul m n) 9223372036854775808) (vn .i64 (Nat.mul m n)) none⟩
  | .quo => ⟨fun m n => cond (Nat.beq n 0) none (cond (Nat.blt m 9223372036854775808) (vn .i64 (Nat.div m n)) none)⟩
  | .rem => ⟨fun m n => cond (Nat.beq n 0) none (vn .i64 (Nat.mod m n))⟩
  | .shl => ⟨fun m n => cond (Nat.blt (Nat.mul m (pw 64 n)) 9223372036854775808) (vn .i64 (Nat.mul m (pw 64 n))) none⟩
  | .shr => ⟨fun m n => vn .i64 (Nat.div m (pw 64 n))⟩
  | .eql => ⟨fun m n => vb (Nat.beq m n)⟩
  | .neq => ⟨fun m n => vb (not (Nat.beq m n))⟩
  | .lss => ⟨fun m n => vb (Nat.blt m n)⟩
  | .leq => ⟨fun m n => vb (Nat.ble m n)⟩
  | .gtr => ⟨fun m n => vb (Nat.blt n m)⟩
  | .geq => ⟨fun m n => vb (Nat.ble n m)⟩
  | _ => ⟨fun _ _ => none⟩
def fastN (A : Alu) (k : IntKind) (op : BinOp) : NC := match k with
  | .u8 => fastU .u8 256 8 op
  | .u16 => fastU .u16 65536 16 op
  | .u32 => fastA A op
  | .u64 => fastU .u64 18446744073709551616 64 op
  | .i64 => fastI op
  | _ => ⟨fun _ _ => none⟩

def NCOk (k : IntKind) (op : BinOp) (c : NC) : Prop := ∀ {m n v}, c.run m n = some v → ∀ t, cInt op t k (Int.ofNat m) k (Int.ofNat n) = some v
theorem vn_some {k : IntKind} {n : Nat} {v : Value} (h : vn k n = some v) : v = .int k (Int.ofNat n) := (Option.some.inj h).symm
theorem cond_some {b : Bool} {x : Option Value} {v : Value} (h : cond b x none = some v) : b = true ∧ x = some v := by
  cases b with
  | true => exact ⟨rfl, h⟩
  | false => cases h
theorem cond_some' {b : Bool} {x : Option Value} {v : Value} (h : cond b none x = some v) : b = false ∧ x = some v := by
  cases b with
  | false => exact ⟨rfl, h⟩
  | true => cases h
structure UK (k : IntKind) (M B : Nat) : Prop where
  w : ∀ n : Int, wrapF k n = n % (M : Int)
  b : k.bits = B
  p : M = 2 ^ B
  s : k.signed = false
theorem uk8 : UK .u8 256 8 := ⟨fun _ => rfl, rfl, rfl, rfl⟩
theorem uk16 : UK .u16 65536 16 := ⟨fun _ => rfl, rfl, rfl, rfl⟩
theorem uk32 : UK .u32 4294967296 32 := ⟨fun _ => rfl, rfl, rfl, rfl⟩
theorem uk64 : UK .u64 18446744073709551616 64 := ⟨fun _ => rfl, rfl, rfl, rfl⟩
theorem UK.wrap {k : IntKind} {M B : Nat} (h : UK k M B) (n : Nat) : k.wrap (n : Int) = ((n % M : Nat) : Int) := by rw [← wrapF_eq, h.w]; rfl
theorem UK.bv {k : IntKind} {M B : Nat} (h : UK k M B) (m : Nat) : (BitVec.ofInt k.bits (Int.ofNat m)).toNat = m % M := by
  rw [BitVec.toNat_ofInt, h.b, h.p]
  exact_mod_cast Int.toNat_natCast (m % 2 ^ B)
theorem pw_eq (B n : Nat) : pw B n = 2 ^ min n B := by
  unfold pw
  cases h : Nat.ble n B with
  | true =>
    have : n ≤ B := Nat.le_of_ble_eq_true h
    show 2 ^ n = _
    rw [Nat.min_eq_left this]
  | false =>
    have : ¬ n ≤ B := fun hh => by rw [Nat.ble_eq_true_of_le hh] at h; cases h
    show 2 ^ B = _
    rw [Nat.min_eq_right (by omega)]
theorem cInt_arith {op : BinOp} {t : TypeId} {k : IntKind} {a b : Int} {v : Value} (h1 : op ≠ .shl) (h2 : op ≠ .shr) (h : cArith op k a b = some v) : cInt op t k a k b = some v := by
  cases op <;> first | exact absurd rfl h1 | exact absurd rfl h2 | (simp only [cInt, if_true, h])
theorem cInt_slow {op : BinOp} {t : TypeId} {k : IntKind} {a b : Int} {v : Value} (h1 : op ≠ .shl) (h2 : op ≠ .shr) (h : cArith op k a b = none) (h3 : pureRun (binOp op t (.int k a) (.int k b)) = some v) (h4 : sca v = true) : cInt op t k a k b = some v := by
  cases op <;> first | exact absurd rfl h1 | exact absurd rfl h2 | (simp only [cInt, if_true, h, h3, scaOnly, h4])
theorem bits_u {k : IntKind} {M B : Nat} (hk : UK k M B) {op : BinOp} {f : Nat → Nat → Nat} (hop : op = .and ∧ f = Nat.land ∨ op = .or ∧ f = Nat.lor ∨ op = .xor ∧ f = Nat.xor) (t : TypeId) (m n : Nat) :
    cInt op t k (Int.ofNat m) k (Int.ofNat n) = some (.int k (Int.ofNat (f (m % M) (n % M)))) := by
  have hM : 0 < M := by rw [hk.p]; exact Nat.two_pow_pos B
  have hlt : f (m % M) (n % M) < M := by
    have h1 : m % M < 2 ^ B := by rw [← hk.p]; exact Nat.mod_lt _ hM
    have h2 : n % M < 2 ^ B := by rw [← hk.p]; exact Nat.mod_lt _ hM
    rw [hk.p] at *
    rcases hop with ⟨_, rfl⟩ | ⟨_, rfl⟩ | ⟨_, rfl⟩
    · exact Nat.and_lt_two_pow _ h2
    · exact Nat.or_lt_two_pow h1 h2
    · exact Nat.xor_lt_two_pow h1 h2
  have hslow : pureRun (binOp op t (.int k (Int.ofNat m)) (.int k (Int.ofNat n))) = some (.int k (Int.ofNat (f (m % M) (n % M)))) := by
    have e : ∀ x : BitVec k.bits, x.toNat = f (m % M) (n % M) → some (Value.int k (k.wrap x.toNat)) = some (.int k (Int.ofNat (f (m % M) (n % M)))) := fun x hx => by
      rw [hx, hk.wrap, Nat.mod_eq_of_lt hlt]; rfl
    rcases hop with ⟨rfl, rfl⟩ | ⟨rfl, rfl⟩ | ⟨rfl, rfl⟩
    all_goals
      simp only [binOp, ne_eq, not_true_eq_false, if_false, Op.intBits]
      refine e _ ?_
      simp only [BitVec.toNat_and, BitVec.toNat_or, BitVec.toNat_xor, hk.bv]
      rfl
  have h1 : op ≠ .shl := by rcases hop with ⟨rfl, _⟩ | ⟨rfl, _⟩ | ⟨rfl, _⟩ <;> simp
  have h2 : op ≠ .shr := by rcases hop with ⟨rfl, _⟩ | ⟨rfl, _⟩ | ⟨rfl, _⟩ <;> simp
  cases hc : cArith op k (Int.ofNat m) (Int.ofNat n) with
  | none => exact cInt_slow h1 h2 hc hslow rfl
  | some v =>
    rw [cInt_arith h1 h2 hc]
    have hc' : cBits op k (Int.ofNat m) (Int.ofNat n) = some v := by rcases hop with ⟨rfl, _⟩ | ⟨rfl, _⟩ | ⟨rfl, _⟩ <;> exact hc
    unfold cBits at hc'
    split at hc'
    · rename_i tt htt
      have htM : tt = (M : Int) := by
        have h5 := hk.w 0; have h6 := hk.p; have h7 := hk.b
        cases k <;> simp [topF] at htt <;> subst htt <;> simp [IntKind.bits] at h7 <;> subst h7 <;> simp [h6]
      subst htM
      have key : ∀ {g : Nat → Nat → Nat}, f = g → bitsF g (M : Int) k (Int.ofNat m) (Int.ofNat n) = some v → some v = some (Value.int k (Int.ofNat (f (m % M) (n % M)))) := by
        rintro g rfl hb
        obtain ⟨_, q1, _, q2, rfl⟩ := bitsF_some hb
        have e1 : m % M = m := Nat.mod_eq_of_lt (Int.ofNat_lt.1 q1)
        have e2 : n % M = n := Nat.mod_eq_of_lt (Int.ofNat_lt.1 q2)
        rw [e1, e2]; rfl
      rcases hop with ⟨rfl, hf⟩ | ⟨rfl, hf⟩ | ⟨rfl, hf⟩
      · exact key hf hc'
      · exact key hf hc'
      · exact key hf hc'
    · cases hc'
theorem div_slow {op : BinOp} {k : IntKind} {a b : Int} (h : op = .quo ∨ op = .rem) : cArith op k a b = none := by
  rcases h with rfl | rfl <;> (simp only [cArith, cBits]; cases topF k <;> rfl)
theorem quo_u {k : IntKind} (t : TypeId) {m n : Nat} (hn : Nat.beq n 0 = false) {v : Int} (hv : k.wrap ((m / n : Nat) : Int) = v) : cInt .quo t k (Int.ofNat m) k (Int.ofNat n) = some (.int k v) := by
  refine cInt_slow (by simp) (by simp) (div_slow (.inl rfl)) ?_ rfl
  have h0 : ¬ (Int.ofNat n = 0) := fun e => by
    have : n = 0 := by simpa using e
    subst this; cases hn
  simp only [binOp, ne_eq, not_true_eq_false, if_false, Op.intDiv, h0]
  rw [← hv]; rfl
theorem rem_u {k : IntKind} (t : TypeId) {m n : Nat} (hn : Nat.beq n 0 = false) : cInt .rem t k (Int.ofNat m) k (Int.ofNat n) = some (.int k (Int.ofNat (m % n))) := by
  refine cInt_slow (by simp) (by simp) (div_slow (.inr rfl)) ?_ rfl
  have h0 : ¬ (Int.ofNat n = 0) := fun e => by
    have : n = 0 := by simpa using e
    subst this; cases hn
  simp only [binOp, ne_eq, not_true_eq_false, if_false, Op.intDiv, h0]
  rfl
theorem shl_u {k k' : IntKind} (t : TypeId) {m n : Nat} : cInt .shl t k (Int.ofNat m) k' (Int.ofNat n) = some (.int k (wrapF k (Int.ofNat (m * 2 ^ min n k.bits)))) := by
  simp only [cInt, cShift, Int.ofNat_eq_natCast, Int.natCast_nonneg, if_true, Int.toNat_natCast]
theorem shr_u {k k' : IntKind} (t : TypeId) {m n : Nat} : cInt .shr t k (Int.ofNat m) k' (Int.ofNat n) = some (.int k (Int.ofNat (m / 2 ^ min n k.bits))) := by
  simp only [cInt, cShift, Int.ofNat_eq_natCast, Int.natCast_nonneg, if_true, Int.toNat_natCast]
theorem cmp_u {k : IntKind} {op : BinOp} {t : TypeId} {m n : Nat} {b : Bool} (h : op = .eql ∧ b = Nat.beq m n ∨ op = .neq ∧ b = not (Nat.beq m n) ∨ op = .lss ∧ b = Nat.blt m n ∨ op = .leq ∧ b = Nat.ble m n ∨ op = .gtr ∧ b = Nat.blt n m ∨ op = .geq ∧ b = Nat.ble n m) :
    cInt op t k (Int.ofNat m) k (Int.ofNat n) = some (.bool b) := by
  have hblt : ∀ a b : Nat, Nat.blt a b = decide ((a : Int) < (b : Int)) := fun a b => by
    rw [Bool.eq_iff_iff]; simp [Nat.blt_eq]
  have hble : ∀ a b : Nat, Nat.ble a b = decide ((a : Int) ≤ (b : Int)) := fun a b => by
    rw [Bool.eq_iff_iff]; simp [Nat.ble_eq]
  have hbeq : ∀ a b : Nat, Nat.beq a b = ((a : Int) == (b : Int)) := fun a b => by
    rw [Bool.eq_iff_iff]; simp [Int.ofNat_inj]
  rcases h with ⟨rfl, rfl⟩ | ⟨rfl, rfl⟩ | ⟨rfl, rfl⟩ | ⟨rfl, rfl⟩ | ⟨rfl, rfl⟩ | ⟨rfl, rfl⟩
  all_goals
    refine cInt_arith (by simp) (by simp) ?_
    simp only [cArith, hblt, hble, hbeq, Option.some.injEq, Value.bool.injEq]
    try rfl
theorem sub_u {M m n : Nat} (hM : 0 < M) : ((m : Int) - (n : Int)) % (M : Int) = (((m + M - n % M) % M : Nat) : Int) := by
  have h1 : n % M < M := Nat.mod_lt _ hM
  rw [Int.natCast_emod, Int.ofNat_sub (by omega), Int.natCast_add, Int.natCast_emod]
  rw [show (m : Int) + (M : Int) - (n : Int) % (M : Int) = ((m : Int) - (n : Int) % (M : Int)) + M by omega, Int.add_emod_right, Int.sub_emod, Int.sub_emod (m : Int) ((n : Int) % (M : Int)), Int.emod_emod]
theorem fastU_ok {k : IntKind} {M B : Nat} (hk : UK k M B) {op : BinOp} : NCOk k op (fastU k M B op) := by
  have hM : 0 < M := by rw [hk.p]; exact Nat.two_pow_pos B
  intro m n v h t
  cases op <;> simp only [fastU] at h <;> first | (cases h; done) | skip
  · rw [vn_some h]
    refine cInt_arith (by simp) (by simp) ?_
    simp only [cArith, hk.w]; rfl
  · rw [vn_some h]
    refine cInt_arith (by simp) (by simp) ?_
    simp only [cArith, hk.w]
    exact congrArg (fun x => some (Value.int k x)) (sub_u hM)
  · rw [vn_some h]
    refine cInt_arith (by simp) (by simp) ?_
    simp only [cArith, hk.w]; rfl
  · obtain ⟨h1, h2⟩ := cond_some' h
    rw [vn_some h2]
    exact quo_u t h1 (hk.wrap _)
  · obtain ⟨h1, h2⟩ := cond_some' h
    rw [vn_some h2]
    exact rem_u t h1
  · rw [vn_some h]; exact bits_u hk (.inl ⟨rfl, rfl⟩) t m n
  · rw [vn_some h]; exact bits_u hk (.inr (.inl ⟨rfl, rfl⟩)) t m n
  · rw [vn_some h]; exact bits_u hk (.inr (.inr ⟨rfl, rfl⟩)) t m n
  · rw [vn_some h, shl_u, pw_eq, ← hk.b, hk.w]; rfl
  · rw [vn_some h, shr_u, pw_eq, ← hk.b]; rfl
  all_goals
    simp only [vb, Option.some.injEq] at h
    subst h
    exact cmp_u (by simp)
theorem fastA_ok {op : BinOp} : NCOk .u32 op (fastA .real op) := by
  intro m n v h t
  refine fastU_ok uk32 ?_ t
  cases op <;> exact h
theorem wrapI {x : Nat} (hx : x < 9223372036854775808) : wrapF .i64 (x : Int) = (x : Int) := by
  simp only [wrapF]
  rw [if_pos (by omega), if_pos (by omega)]
theorem fastI_ok {op : BinOp} : NCOk .i64 op (fastI op) := by
  intro m n v h t
  cases op <;> simp only [fastI] at h <;> first | (cases h; done) | skip
  · obtain ⟨h1, h2⟩ := cond_some h
    rw [vn_some h2]
    have h3 : m + n < 9223372036854775808 := by simpa [Nat.blt_eq] using h1
    refine cInt_arith (by simp) (by simp) ?_
    simp only [cArith, Option.some.injEq, Value.int.injEq, true_and]
    exact wrapI h3
  · obtain ⟨h1, h2⟩ := cond_some h
    have h5 : m < 9223372036854775808 := by simpa [Nat.blt_eq] using h1
    refine cInt_arith (by simp) (by simp) ?_
    cases hb : Nat.ble n m with
    | true =>
      rw [hb] at h2
      rw [vn_some h2]
      have h3 : n ≤ m := Nat.le_of_ble_eq_true hb
      simp only [cArith, Option.some.injEq, Value.int.injEq, true_and]
      have : (Int.ofNat m - Int.ofNat n) = ((m - n : Nat) : Int) := (Int.ofNat_sub h3).symm
      rw [this]
      exact wrapI (by omega)
    | false =>
      rw [hb] at h2
      obtain ⟨h3, h4⟩ := cond_some h2
      have h6 : ¬ n ≤ m := fun hh => by rw [Nat.ble_eq_true_of_le hh] at hb; cases hb
      have h7 : n ≤ 9223372036854775808 := Nat.le_of_ble_eq_true h3
      rw [← Option.some.inj h4]
      simp only [cArith, Option.some.injEq, Value.int.injEq, true_and, wrapF]
      rw [if_pos (by simp; omega), if_pos (by simp; omega)]
      rw [Int.negSucc_eq]
      simp only [Int.ofNat_eq_natCast, Nat.sub_eq]
      omega
  · obtain ⟨h1, h2⟩ := cond_some h
    rw [vn_some h2]
    have h3 : m * n < 9223372036854775808 := by simpa [Nat.blt_eq] using h1
    refine cInt_arith (by simp) (by simp) ?_
    simp only [cArith, Option.some.injEq, Value.int.injEq, true_and]
    exact wrapI h3
  · obtain ⟨h1, h2⟩ := cond_some' h
    obtain ⟨h2, h3⟩ := cond_some h2
    rw [vn_some h3]
    have h3 : m < 9223372036854775808 := by simpa [Nat.blt_eq] using h2
    refine quo_u t h1 ?_
    rw [← wrapF_eq]
    exact wrapI (Nat.lt_of_le_of_lt (Nat.div_le_self m n) h3)
  · obtain ⟨h1, h2⟩ := cond_some' h
    rw [vn_some h2]
    exact rem_u t h1
  · obtain ⟨h1, h2⟩ := cond_some h
    rw [vn_some h2, shl_u]
    have h3 : m * pw 64 n < 9223372036854775808 := by simpa [Nat.blt_eq] using h1
    have e : wrapF .i64 (Int.ofNat (m * 2 ^ min n IntKind.i64.bits)) = Int.ofNat (m * pw 64 n) := by
      rw [pw_eq] at *
      exact wrapI h3
    rw [e]; rfl
  · rw [vn_some h, shr_u, pw_eq]; rfl
  all_goals
    simp only [vb, Option.some.injEq] at h
    subst h
    exact cmp_u (by simp)
theorem fastN_ok {k : IntKind} {op : BinOp} : NCOk k op (fastN .real k op) := by
  unfold fastN
  split
  · exact fastU_ok uk8
  · exact fastU_ok uk16
  · exact fastA_ok
  · exact fastU_ok uk64
  · exact fastI_ok
  · intro m n v h; cases h

/-- Only at one kind of integers. -/
def only (k : IntKind) (x : IntKind) (v : Option Value) : Option Value := @IntKind.rec (fun _ => Option Value)
  (@IntKind.rec (fun _ => Option Value) v none none none none none none none x) (@IntKind.rec (fun _ => Option Value) none v none none none none none none x) (@IntKind.rec (fun _ => Option Value) none none v none none none none none x) (@IntKind.rec (fun _ => Option Value) none none none v none none none none x)
  (@IntKind.rec (fun _ => Option Value) none none none none v none none none x) (@IntKind.rec (fun _ => Option Value) none none none none none v none none x) (@IntKind.rec (fun _ => Option Value) none none none none none none v none x) (@IntKind.rec (fun _ => Option Value) none none none none none none none v x) k
theorem only_some {k x : IntKind} {o : Option Value} {v : Value} (h : only k x o = some v) : x = k ∧ o = some v := by
  cases k <;> cases x <;> first | exact ⟨rfl, h⟩ | (exact absurd h (by intro e; cases e))
end
end Go.Cl

/- Rows of cells. -/
namespace Go.Cl
noncomputable section

/-- The n-th of a list. -/
def nth {α : Type} (n : Nat) : List α → Option α := @Nat.rec (fun _ => List α → Option α) (fun l => @List.rec α (fun _ => Option α) none (fun x _ _ => some x) l) (fun _ ih l => @List.rec α (fun _ => Option α) none (fun _ t _ => ih t) l) n
theorem nth_eq {α : Type} : ∀ (n : Nat) (l : List α), nth n l = l[n]?
  | 0, [] => rfl
  | 0, _ :: _ => rfl
  | _ + 1, [] => rfl
  | n + 1, _ :: l => by rw [List.getElem?_cons_succ]; exact nth_eq n l
/-- The first n, if there are so many. -/
def firsts {α : Type} (n : Nat) : List α → Option (List α) := @Nat.rec (fun _ => List α → Option (List α)) (fun _ => some []) (fun _ ih l => @List.rec α (fun _ => Option (List α)) none (fun x t _ => onSome none (fun r => some (x :: r)) (ih t)) l) n
theorem firsts_some {α : Type} : ∀ {n : Nat} {l r : List α}, firsts n l = some r → r = l.take n ∧ n ≤ l.length
  | 0, l, r, h => by cases (Option.some.inj (show some [] = some r from h)); exact ⟨rfl, Nat.zero_le _⟩
  | n + 1, [], r, h => by cases h
  | n + 1, x :: l, r, h => by
    obtain ⟨q, h1, h2⟩ := onSome_some (show onSome none (fun r => some (x :: r)) (firsts n l) = some r from h)
    obtain ⟨rfl, h3⟩ := firsts_some h1
    exact ⟨(Option.some.inj h2).symm, Nat.succ_le_succ h3⟩
/-- What lies behind the first n. -/
def behind {α : Type} (n : Nat) : List α → List α := @Nat.rec (fun _ => List α → List α) (fun l => l) (fun _ ih l => @List.rec α (fun _ => List α) [] (fun _ t _ => ih t) l) n
theorem behind_eq {α : Type} : ∀ (n : Nat) (l : List α), behind n l = l.drop n
  | 0, _ => rfl
  | _ + 1, [] => rfl
  | n + 1, _ :: l => by rw [List.drop_succ_cons]; exact behind_eq n l
/-- So many cells from a place on. -/
def cut {α : Type} (off n : Nat) (l : List α) : Option (List α) := firsts n (behind off l)
theorem cut_some {α : Type} {off n : Nat} {l r : List α} (h : cut off n l = some r) : r = (l.drop off).take n ∧ r.length = n := by
  unfold cut at h
  rw [behind_eq] at h
  obtain ⟨rfl, h2⟩ := firsts_some h
  exact ⟨rfl, by rw [List.length_take]; omega⟩
/-- A cell is turned. -/
def upd1 {α : Type} (v : α) (n : Nat) : List α → Option (List α) := @Nat.rec (fun _ => List α → Option (List α)) (fun l => @List.rec α (fun _ => Option (List α)) none (fun _ t _ => some (v :: t)) l) (fun _ ih l => @List.rec α (fun _ => Option (List α)) none (fun x t _ => onSome none (fun r => some (x :: r)) (ih t)) l) n
theorem upd1_some {α : Type} {v : α} : ∀ {n : Nat} {l r : List α}, upd1 v n l = some r → r = l.take n ++ [v] ++ l.drop (n + 1) ∧ n + 1 ≤ l.length
  | 0, [], r, h => by cases h
  | 0, x :: l, r, h => by cases (Option.some.inj (show some (v :: l) = some r from h)); exact ⟨by simp, by simp⟩
  | n + 1, [], r, h => by cases h
  | n + 1, x :: l, r, h => by
    obtain ⟨q, h1, h2⟩ := onSome_some (show onSome none (fun r => some (x :: r)) (upd1 v n l) = some r from h)
    obtain ⟨rfl, h3⟩ := upd1_some h1
    exact ⟨by rw [← Option.some.inj h2]; simp, by simp only [List.length_cons]; omega⟩
/-- A row lies over another. -/
def over {α : Type} (vs : List α) : List α → Option (List α) := @List.rec α (fun _ => List α → Option (List α)) (fun l => some l) (fun v _ ih l => @List.rec α (fun _ => Option (List α)) none (fun _ t _ => onSome none (fun r => some (v :: r)) (ih t)) l) vs
theorem over_some {α : Type} : ∀ {vs l r : List α}, over vs l = some r → r = vs ++ l.drop vs.length ∧ vs.length ≤ l.length
  | [], l, r, h => by cases (Option.some.inj (show some l = some r from h)); exact ⟨by simp, by simp⟩
  | v :: vs, [], r, h => by cases h
  | v :: vs, x :: l, r, h => by
    obtain ⟨q, h1, h2⟩ := onSome_some (show onSome none (fun r => some (v :: r)) (over vs l) = some r from h)
    obtain ⟨rfl, h3⟩ := over_some h1
    exact ⟨by rw [← Option.some.inj h2]; simp, by simp only [List.length_cons]; omega⟩
def updN {α : Type} (vs : List α) (n : Nat) : List α → Option (List α) := @Nat.rec (fun _ => List α → Option (List α)) (fun l => over vs l) (fun _ ih l => @List.rec α (fun _ => Option (List α)) none (fun x t _ => onSome none (fun r => some (x :: r)) (ih t)) l) n
theorem updN_some {α : Type} {vs : List α} : ∀ {n : Nat} {l r : List α}, updN vs n l = some r → r = l.take n ++ vs ++ l.drop (n + vs.length) ∧ n + vs.length ≤ l.length
  | 0, l, r, h => by
    obtain ⟨rfl, h3⟩ := over_some (show over vs l = some r from h)
    exact ⟨by simp, by omega⟩
  | n + 1, [], r, h => by cases h
  | n + 1, x :: l, r, h => by
    obtain ⟨q, h1, h2⟩ := onSome_some (show onSome none (fun r => some (x :: r)) (updN vs n l) = some r from h)
    obtain ⟨rfl, h3⟩ := updN_some h1
    refine ⟨?_, by simp only [List.length_cons]; omega⟩
    rw [← Option.some.inj h2, show n + 1 + vs.length = (n + vs.length) + 1 by omega]
    simp
/-- Just so many, each one cell. -/
def ones (n : Nat) (l : List Value) : Bool := @Nat.rec (fun _ => List Value → Bool) (fun l => @List.rec Value (fun _ => Bool) true (fun _ _ _ => false) l) (fun _ ih l => @List.rec Value (fun _ => Bool) false (fun x t _ => onOne false (ih t) x) l) n l
theorem ones_true : ∀ {n : Nat} {l : List Value}, ones n l = true → l.length = n ∧ l.all (·.oneCell') = true
  | 0, [], _ => ⟨rfl, rfl⟩
  | 0, _ :: _, h => by cases h
  | _ + 1, [], h => by cases h
  | n + 1, x :: l, h => by
    have h' : onOne false (ones n l) x = true := h
    have : x.oneCell' = true ∧ ones n l = true := by cases x <;> first | exact ⟨rfl, h'⟩ | cases h'
    obtain ⟨h1, h2⟩ := ones_true this.2
    exact ⟨by simp [h1], by simp only [List.all_cons, this.1, h2, Bool.and_self]⟩
end
end Go.Cl

/- Closed operations. -/
namespace Go.Cl
noncomputable section

def getH (s : CS) (a : Nat) : Option CObj := (gC (path a)).run s.h
theorem getH_eq (s : CS) (a : Nat) : getH s a = s.h.get a := gC_get _ _
def setH (s : CS) (a : Nat) (o : CObj) : CS := ⟨(uC (path a)).run o s.h, s.nx, s.up⟩
theorem setH_eq (s : CS) (a : Nat) (o : CObj) : setH s a o = ⟨s.h.set a o, s.nx, s.up⟩ := by rw [setH, uC_set]
/-- The first of two, else the second. -/
def alt (x y : Option Value) : Option Value := @Option.rec Value (fun _ => Option Value) y some x
theorem alt_some {x y : Option Value} {v : Value} (h : alt x y = some v) : x = some v ∨ y = some v := by
  cases x with
  | none => exact .inr h
  | some _ => exact .inl h
def noV : VC := ⟨fun _ _ => none⟩
theorem noV_ok {X : Ctx} {o : Oper} : VCOk X o noV := by
  intro T s v h
  cases h

def moveV (X : Ctx) (x : Operand) : VC := ⟨fun T _ => (evC X x).run T⟩
theorem moveV_ok (X : Ctx) {o : Oper} {x : Operand} (ho : o.op = .move x ∨ o.op = .assign x) : VCOk X o (moveV X x) := by
  intro T s v h
  simp only [moveV, evC_eq] at h
  unfold cop
  rcases ho with ho | ho <;> rw [ho] <;> simp [h, CRes.pure]
def pickV (X : Ctx) (c a b : Operand) : VC := ⟨fun T _ => onSome none (fun v => onBool none (fun t => @Bool.rec (fun _ => Option Value) ((evC X b).run T) ((evC X a).run T) t) v) ((evC X c).run T)⟩
theorem pickV_ok (X : Ctx) {o : Oper} {c a b : Operand} (ho : o.op = .pick c a b) : VCOk X o (pickV X c a b) := by
  intro T s v h
  obtain ⟨u, h1, h2⟩ := onSome_some (show onSome none _ _ = some v from h)
  obtain ⟨t, rfl, h3⟩ := onBool_some h2
  rw [evC_eq] at h1
  unfold cop; rw [ho]
  cases t
  · have h3 : (evC X b).run T = some v := h3
    rw [evC_eq] at h3
    simp [oPick, h1, h3, CRes.pure]
  · have h3 : (evC X a).run T = some v := h3
    rw [evC_eq] at h3
    simp [oPick, h1, h3, CRes.pure]

def loadV (X : Ctx) (t : TypeId) (a : Operand) : VC := match X.tt t with
  | some i => if i.agg then ⟨fun T s => onSome none (fun p => onPtr none (fun b off => onCells none (fun c _ _ => onSome none (fun l => some (.agg ⟨l⟩)) (cut off i.size c)) (getH s b)) p) ((evC X a).run T)⟩
    else ⟨fun T s => onSome none (fun p => onPtr none (fun b off => onCells none (fun c _ _ => nth off c) (getH s b)) p) ((evC X a).run T)⟩
  | none => noV
theorem loadV_ok (X : Ctx) {o : Oper} {t : TypeId} {a : Operand} (ho : o.op = .load t a) : VCOk X o (loadV X t a) := by
  unfold loadV
  split
  · rename_i i hi
    split
    · rename_i hagg
      intro T s v h
      obtain ⟨p, h1, h⟩ := onSome_some (show onSome none _ _ = some v from h)
      obtain ⟨b, off, rfl, h⟩ := onPtr_some h
      obtain ⟨c, m, sz, h2, h⟩ := onCells_some h
      obtain ⟨l, h3, h⟩ := onSome_some h
      obtain ⟨rfl, h4⟩ := cut_some h3
      rw [evC_eq] at h1
      rw [getH_eq] at h2
      unfold cop; rw [ho]
      simp only [oLoad, hi, h1, ld, h2, hagg, if_true, h4, CRes.pure]
      rw [← Option.some.inj h]
    · rename_i hagg
      intro T s v h
      obtain ⟨p, h1, h⟩ := onSome_some (show onSome none _ _ = some v from h)
      obtain ⟨b, off, rfl, h⟩ := onPtr_some h
      obtain ⟨c, m, sz, h2, h⟩ := onCells_some h
      rw [evC_eq] at h1
      rw [getH_eq] at h2
      rw [nth_eq] at h
      unfold cop; rw [ho]
      simp only [oLoad, hi, h1, ld, h2, hagg, if_false, h, CRes.pure, Bool.false_eq_true]
  · exact noV_ok

def storeW (X : Ctx) (t : TypeId) (a x : Operand) : WC := match X.tt t with
  | some i => if i.agg then ⟨fun T s k => onSome none (fun p => onPtr none (fun b off => onCells none (fun c m sz => onRw none (onSome none (fun v => onAgg none (fun vs => cond (ones i.size vs) (onSome none (fun r => k undef (setH s b (.cells r m sz))) (updN vs off c)) none) v) ((evC X x).run T)) m) (getH s b)) p) ((evC X a).run T)⟩
    else if i.size = 1 then ⟨fun T s k => onSome none (fun p => onPtr none (fun b off => onCells none (fun c m sz => onRw none (onSome none (fun v => onOne none (onSome none (fun r => k undef (setH s b (.cells r m sz))) (upd1 v off c)) v) ((evC X x).run T)) m) (getH s b)) p) ((evC X a).run T)⟩
    else ⟨fun _ _ _ => none⟩
  | none => ⟨fun _ _ _ => none⟩
theorem cond_k {b : Bool} {α : Type} {x : Option α} {v : α} (h : cond b x none = some v) : b = true ∧ x = some v := by
  cases b with
  | true => exact ⟨rfl, h⟩
  | false => cases h
theorem storeW_ok (X : Ctx) {o : Oper} {t : TypeId} {a x : Operand} (ho : o.op = .store t a x) : WCOk X o (storeW X t a x) := by
  unfold storeW
  split
  · rename_i i hi
    split
    · rename_i hagg
      intro T s k res h
      obtain ⟨p, h1, h⟩ := onSome_some (show onSome none _ _ = some res from h)
      obtain ⟨b, off, rfl, h⟩ := onPtr_some h
      obtain ⟨c, m, sz, h2, h⟩ := onCells_some h
      obtain ⟨hm, h⟩ := onRw_some h
      obtain ⟨v, h3, h⟩ := onSome_some h
      obtain ⟨vs, rfl, h⟩ := onAgg_some h
      obtain ⟨h4, h⟩ := cond_k h
      obtain ⟨r, h5, h⟩ := onSome_some h
      obtain ⟨rfl, h6⟩ := updN_some h5
      obtain ⟨h7, h8⟩ := ones_true h4
      rw [evC_eq] at h1 h3
      rw [getH_eq] at h2
      refine ⟨undef, _, ?_, h⟩
      unfold cop; rw [ho]
      simp only [oStore, hi, h1, h3, stv, h2]
      rw [if_pos (show m ≠ .ro ∧ (Value.agg ⟨vs⟩).cells.toList.length = i.size ∧ (Value.agg ⟨vs⟩).cells.toList.all (·.oneCell') = true ∧ off + (Value.agg ⟨vs⟩).cells.toList.length ≤ c.length from ⟨hm, h7, h8, h6⟩), setH_eq]
      rfl
    · rename_i hagg
      split
      · rename_i hs
        intro T s k res h
        obtain ⟨p, h1, h⟩ := onSome_some (show onSome none _ _ = some res from h)
        obtain ⟨b, off, rfl, h⟩ := onPtr_some h
        obtain ⟨c, m, sz, h2, h⟩ := onCells_some h
        obtain ⟨hm, h⟩ := onRw_some h
        obtain ⟨v, h3, h⟩ := onSome_some h
        obtain ⟨h4, h9, h⟩ := onOne_some h
        obtain ⟨r, h5, h⟩ := onSome_some h
        obtain ⟨rfl, h6⟩ := upd1_some h5
        rw [evC_eq] at h1 h3
        rw [getH_eq] at h2
        refine ⟨undef, _, ?_, h⟩
        unfold cop; rw [ho]
        simp only [oStore, hi, h1, h3, stv, h2]
        rw [if_pos (show m ≠ .ro ∧ v.cells.toList.length = i.size ∧ v.cells.toList.all (·.oneCell') = true ∧ off + v.cells.toList.length ≤ c.length from ⟨hm, by rw [h4]; simp [hs], by rw [h4]; simp [h9], by rw [h4]; simpa using h6⟩), setH_eq, h4]
        rfl
      · intro T s k res h; cases h
  · intro T s k res h; cases h

def fieldAddrV (X : Ctx) (t : TypeId) (x : Operand) (f : Nat) : VC := match X.tt t with
  | some ⟨.struct fs, _, _, _, _, _⟩ => (match fs[f]? with
    | some fd => (match X.tt fd.type with
      | some i => if i.size = 0 then noV else ⟨fun T _ => onSome none (fun p => onPtr none (fun a o => some (.pointer (some ⟨a, Nat.add o fd.offset, none⟩))) p) ((evC X x).run T)⟩
      | none => noV)
    | none => noV)
  | _ => noV
theorem fieldAddrV_ok (X : Ctx) {o : Oper} {t : TypeId} {x : Operand} {f : Nat} (ho : o.op = .fieldAddr t x f) : VCOk X o (fieldAddrV X t x f) := by
  unfold fieldAddrV
  split
  · rename_i fs z1 z2 z3 z4 z5 ht
    split
    · rename_i fd hfd
      split
      · rename_i i hi
        split
        · exact noV_ok
        · rename_i hz
          intro T s v h
          obtain ⟨p, h1, h⟩ := onSome_some (show onSome none _ _ = some v from h)
          obtain ⟨a, off, rfl, h⟩ := onPtr_some h
          rw [evC_eq] at h1
          unfold cop; rw [ho]
          simp only [oFieldAddr, h1, cFieldAddr, ht, hfd, hi, hz, if_false, CRes.pure]
          rw [← Option.some.inj h]; rfl
      · exact noV_ok
    · exact noV_ok
  · exact noV_ok
def at1 (a off esz len n : Nat) : Option Value := cond (Nat.blt n len) (some (.pointer (some ⟨a, Nat.add off (Nat.mul n esz), none⟩))) none
theorem at1_some {a off esz len n : Nat} {v : Value} (h : at1 a off esz len n = some v) : n < len ∧ v = .pointer (some ⟨a, off + n * esz, none⟩) := by
  unfold at1 at h
  obtain ⟨h1, h2⟩ := cond_k h
  exact ⟨by simpa [Nat.blt_eq] using h1, (Option.some.inj h2).symm⟩
def indexAddrV (X : Ctx) (t : TypeId) (x ix : Operand) : VC := match X.tt t with
  | some ⟨.array len e, _, _, _, _, _⟩ => (match X.tt e with
    | some i => ⟨fun T _ => onSome none (fun p => onPtr none (fun a off => onSome none (fun j => onNat none (fun _ n => at1 a off i.size len n) j) ((evC X ix).run T)) p) ((evC X x).run T)⟩
    | none => noV)
  | some ⟨.slice e, _, _, _, _, _⟩ => (match X.tt e with
    | some i => ⟨fun T _ => onSome none (fun p => onSlice none (fun a off len _ => onSome none (fun j => onNat none (fun _ n => at1 a off i.size len n) j) ((evC X ix).run T)) p) ((evC X x).run T)⟩
    | none => noV)
  | _ => noV
theorem indexAddrV_ok (X : Ctx) {o : Oper} {t : TypeId} {x ix : Operand} (ho : o.op = .indexAddr t x ix) : VCOk X o (indexAddrV X t x ix) := by
  unfold indexAddrV
  split
  · rename_i len e z1 z2 z3 z4 z5 ht
    split
    · rename_i i hi
      intro T s v h
      obtain ⟨p, h1, h⟩ := onSome_some (show onSome none _ _ = some v from h)
      obtain ⟨a, off, rfl, h⟩ := onPtr_some h
      obtain ⟨j, h2, h⟩ := onSome_some h
      obtain ⟨k, n, rfl, h⟩ := onNat_some h
      obtain ⟨h3, rfl⟩ := at1_some h
      rw [evC_eq] at h1 h2
      unfold cop; rw [ho]
      simp only [oIndexAddr, h1, h2, cIndexAddr, ht, hi, CRes.pure]
      have : (0 : Int) ≤ Int.ofNat n ∧ Int.ofNat n < (len : Int) := ⟨Int.natCast_nonneg n, Int.ofNat_lt.2 h3⟩
      rw [if_pos this]
      rfl
    · exact noV_ok
  · rename_i e z1 z2 z3 z4 z5 ht
    split
    · rename_i i hi
      intro T s v h
      obtain ⟨p, h1, h⟩ := onSome_some (show onSome none _ _ = some v from h)
      obtain ⟨a, off, len, cap, rfl, h⟩ := onSlice_some h
      obtain ⟨j, h2, h⟩ := onSome_some h
      obtain ⟨k, n, rfl, h⟩ := onNat_some h
      obtain ⟨h3, rfl⟩ := at1_some h
      rw [evC_eq] at h1 h2
      unfold cop; rw [ho]
      simp only [oIndexAddr, h1, h2, cIndexAddr, ht, hi, CRes.pure]
      have : (0 : Int) ≤ Int.ofNat n ∧ Int.ofNat n < (len : Int) := ⟨Int.natCast_nonneg n, Int.ofNat_lt.2 h3⟩
      rw [if_pos this]
      rfl
    · exact noV_ok
  · exact noV_ok

structure PC where
  run : List Value → Nat → Option Value
def partC (i : TI) : PC := if i.agg then ⟨fun l off => onSome none (fun r => some (.agg ⟨r⟩)) (cut off i.size l)⟩ else ⟨fun l off => nth off l⟩
theorem partC_some {i : TI} {l : List Value} {off : Nat} {v : Value} (h : (partC i).run l off = some v) : cPart i l off = some v := by
  unfold partC at h
  split at h
  · rename_i ha
    obtain ⟨r, h1, h2⟩ := onSome_some (show onSome none _ _ = some v from h)
    obtain ⟨rfl, h3⟩ := cut_some h1
    simp only [cPart, ha, if_true, h3]
    rw [← Option.some.inj h2]
  · rename_i ha
    simp only [cPart, ha, if_false, Bool.false_eq_true]
    exact (nth_eq _ _).symm.trans h
def fieldV (X : Ctx) (t : TypeId) (x : Operand) (f : Nat) : VC := match X.tt t with
  | some ⟨.struct fs, _, _, _, _, _⟩ => (match fs[f]? with
    | some fd => (match X.tt fd.type with
      | some i => ⟨fun T _ => onSome none (fun p => onAgg none (fun l => (partC i).run l fd.offset) p) ((evC X x).run T)⟩
      | none => noV)
    | none => noV)
  | _ => noV
theorem fieldV_ok (X : Ctx) {o : Oper} {t : TypeId} {x : Operand} {f : Nat} (ho : o.op = .field t x f) : VCOk X o (fieldV X t x f) := by
  unfold fieldV
  split
  · rename_i fs z1 z2 z3 z4 z5 ht
    split
    · rename_i fd hfd
      split
      · rename_i i hi
        intro T s v h
        obtain ⟨p, h1, h⟩ := onSome_some (show onSome none _ _ = some v from h)
        obtain ⟨l, rfl, h⟩ := onAgg_some h
        have := partC_some h
        rw [evC_eq] at h1
        unfold cop; rw [ho]
        simp only [oField, h1, cField, ht, hfd, hi, this, CRes.pure]
      · exact noV_ok
    · exact noV_ok
  · exact noV_ok
def indexV (X : Ctx) (t : TypeId) (x ix : Operand) : VC := match X.tt t with
  | some ⟨.array len e, _, _, _, _, _⟩ => (match X.tt e with
    | some i => ⟨fun T _ => onSome none (fun p => onAgg none (fun l => onSome none (fun j => onNat none (fun _ n => cond (Nat.blt n len) ((partC i).run l (Nat.mul n i.size)) none) j) ((evC X ix).run T)) p) ((evC X x).run T)⟩
    | none => noV)
  | _ => ⟨fun T _ => onSome none (fun p => onSome none (fun j => cIndex X.tt t p j) ((evC X ix).run T)) ((evC X x).run T)⟩
theorem indexV_ok (X : Ctx) {o : Oper} {t : TypeId} {x ix : Operand} (ho : o.op = .index t x ix) : VCOk X o (indexV X t x ix) := by
  unfold indexV
  split
  · rename_i len e z1 z2 z3 z4 z5 ht
    split
    · rename_i i hi
      intro T s v h
      obtain ⟨p, h1, h⟩ := onSome_some (show onSome none _ _ = some v from h)
      obtain ⟨l, rfl, h⟩ := onAgg_some h
      obtain ⟨j, h2, h⟩ := onSome_some h
      obtain ⟨k, n, rfl, h⟩ := onNat_some h
      obtain ⟨h3, h⟩ := cond_k h
      have h3 : n < len := by simpa [Nat.blt_eq] using h3
      have := partC_some h
      rw [evC_eq] at h1 h2
      unfold cop; rw [ho]
      simp only [oIndex, h1, h2, cIndex, ht, hi, CRes.pure]
      have hh : (0 : Int) ≤ Int.ofNat n ∧ Int.ofNat n < (len : Int) := ⟨Int.natCast_nonneg n, Int.ofNat_lt.2 h3⟩
      rw [if_pos hh]
      have e2 : (Int.ofNat n).toNat * i.size = Nat.mul n i.size := rfl
      rw [e2, this]
    · exact noV_ok
  · intro T s v h
    obtain ⟨p, h1, h⟩ := onSome_some (show onSome none _ _ = some v from h)
    obtain ⟨j, h2, h⟩ := onSome_some h
    rw [evC_eq] at h1 h2
    unfold cop; rw [ho]
    simp only [oIndex, h1, h2, h, CRes.pure]
def extractV (X : Ctx) (t : Operand) (i : Nat) : VC := ⟨fun T _ => onSome none (fun p => onTuple none (fun l => nth i l) p) ((evC X t).run T)⟩
theorem extractV_ok (X : Ctx) {o : Oper} {t : Operand} {i : Nat} (ho : o.op = .extract t i) : VCOk X o (extractV X t i) := by
  intro T s v h
  obtain ⟨p, h1, h⟩ := onSome_some (show onSome none _ _ = some v from h)
  obtain ⟨l, hp, h5⟩ := onTuple_some h
  rw [evC_eq, hp] at h1
  rw [nth_eq] at h5
  unfold cop; rw [ho]
  simp only [oExtract, h1, cExtract, CRes.pure, List.getElem?_toArray, h5]
def nilCheckV (X : Ctx) (x : Operand) : VC := ⟨fun T _ => onSome none (fun p => onPtr0 (cNilCheck p) (fun a => onSome none (fun a => some (.pointer (some a))) a) p) ((evC X x).run T)⟩
theorem nilCheckV_ok (X : Ctx) {o : Oper} {x : Operand} (ho : o.op = .nilCheck x) : VCOk X o (nilCheckV X x) := by
  intro T s v h
  obtain ⟨p, h1, h⟩ := onSome_some (show onSome none _ _ = some v from h)
  have h2 : cNilCheck p = some v := by
    cases p <;> first | exact h | skip
    obtain ⟨a, h3, h4⟩ := onSome_some (show onSome none _ _ = some v from h)
    rw [h3]; exact h4
  rw [evC_eq] at h1
  unfold cop; rw [ho]
  simp only [oNil, h1, h2, CRes.pure]

def binV (A : Alu) (X : Ctx) (op : BinOp) (t : TypeId) (x y : Operand) : VC := match X.tt t with
  | some ⟨.int k, _, _, _, _, _⟩ => ⟨fun T s => onSome none (fun a => onSome none (fun b => onNat (cBin X.tt s op t (isConst x || isConst y) a b) (fun ka m => onNat (cBin X.tt s op t (isConst x || isConst y) a b) (fun kb n =>
      alt (only k ka (only k kb ((fastN A k op).run m n))) (cBin X.tt s op t (isConst x || isConst y) a b)) b) a) ((evC X y).run T)) ((evC X x).run T)⟩
  | _ => ⟨fun T s => onSome none (fun a => onSome none (fun b => cBin X.tt s op t (isConst x || isConst y) a b) ((evC X y).run T)) ((evC X x).run T)⟩
def shiftV (A : Alu) (X : Ctx) (op : BinOp) (t : TypeId) (x y : Operand) : VC := match X.tt t with
  | some ⟨.int k, _, _, _, _, _⟩ => ⟨fun T s => onSome none (fun a => onSome none (fun b => onNat (cBin X.tt s op t (isConst x || isConst y) a b) (fun ka m => onNat (cBin X.tt s op t (isConst x || isConst y) a b) (fun _ n =>
      alt (only k ka ((fastN A k op).run m n)) (cBin X.tt s op t (isConst x || isConst y) a b)) b) a) ((evC X y).run T)) ((evC X x).run T)⟩
  | _ => ⟨fun T s => onSome none (fun a => onSome none (fun b => cBin X.tt s op t (isConst x || isConst y) a b) ((evC X y).run T)) ((evC X x).run T)⟩
theorem onNat_alt {z : Option Value} {f : IntKind → Nat → Option Value} {a v : Value} (h : onNat z f a = some v) : z = some v ∨ ∃ k n, a = .int k (Int.ofNat n) ∧ f k n = some v := by
  cases a <;> first | exact .inl h | skip
  rename_i k n
  cases n with
  | ofNat n => exact .inr ⟨k, n, rfl, h⟩
  | negSucc n => exact .inl h
theorem binV_ok (X : Ctx) {o : Oper} {op : BinOp} {t yt : TypeId} {x y : Operand} (ho : o.op = .binOp op t x y yt) : VCOk X o (binV .real X op t x y) := by
  unfold binV
  have fin : ∀ {T : PM Value} {s : CS} {a b v : Value}, (evC X x).run T = some a → (evC X y).run T = some b → cBin X.tt s op t (isConst x || isConst y) a b = some v → cop X T s o = some (.val v s) := by
    intro T s a b v h1 h2 h3
    rw [evC_eq] at h1 h2
    unfold cop; rw [ho]
    simp only [oBin, h1, h2, h3, CRes.pure]
  split
  · rename_i k z1 z2 z3 z4 z5 ht
    intro T s v h
    obtain ⟨a, h1, h⟩ := onSome_some (show onSome none _ _ = some v from h)
    obtain ⟨b, h2, h⟩ := onSome_some h
    refine fin h1 h2 ?_
    rcases onNat_alt h with h | ⟨ka, m, rfl, h⟩
    · exact h
    · rcases onNat_alt h with h | ⟨kb, n, rfl, h⟩
      · exact h
      · rcases alt_some h with h | h
        · obtain ⟨rfl, h⟩ := only_some h
          obtain ⟨rfl, h⟩ := only_some h
          exact fastN_ok h t
        · exact h
  · intro T s v h
    obtain ⟨a, h1, h⟩ := onSome_some (show onSome none _ _ = some v from h)
    obtain ⟨b, h2, h⟩ := onSome_some h
    exact fin h1 h2 h
theorem cInt_kind {op : BinOp} (hop : op = .shl ∨ op = .shr) {t : TypeId} {k k' : IntKind} {m n : Nat} {v : Value} (h : cInt op t k (Int.ofNat m) k (Int.ofNat n) = some v) : cInt op t k (Int.ofNat m) k' (Int.ofNat n) = some v := by
  rcases hop with rfl | rfl
  · rw [shl_u] at h ⊢; exact h
  · rw [shr_u] at h ⊢; exact h
theorem shiftV_ok (X : Ctx) {o : Oper} {op : BinOp} (hop : op = .shl ∨ op = .shr) {t yt : TypeId} {x y : Operand} (ho : o.op = .binOp op t x y yt) : VCOk X o (shiftV .real X op t x y) := by
  unfold shiftV
  have fin : ∀ {T : PM Value} {s : CS} {a b v : Value}, (evC X x).run T = some a → (evC X y).run T = some b → cBin X.tt s op t (isConst x || isConst y) a b = some v → cop X T s o = some (.val v s) := by
    intro T s a b v h1 h2 h3
    rw [evC_eq] at h1 h2
    unfold cop; rw [ho]
    simp only [oBin, h1, h2, h3, CRes.pure]
  split
  · rename_i k z1 z2 z3 z4 z5 ht
    intro T s v h
    obtain ⟨a, h1, h⟩ := onSome_some (show onSome none _ _ = some v from h)
    obtain ⟨b, h2, h⟩ := onSome_some h
    refine fin h1 h2 ?_
    rcases onNat_alt h with h | ⟨ka, m, rfl, h⟩
    · exact h
    · rcases onNat_alt h with h | ⟨kb, n, rfl, h⟩
      · exact h
      · rcases alt_some h with h | h
        · obtain ⟨rfl, h⟩ := only_some h
          exact cInt_kind hop (fastN_ok h t)
        · exact h
  · intro T s v h
    obtain ⟨a, h1, h⟩ := onSome_some (show onSome none _ _ = some v from h)
    obtain ⟨b, h2, h⟩ := onSome_some h
    exact fin h1 h2 h

structure N1 where
  run : Nat → Option Value
def fastConv (A : Alu) (ks kd : IntKind) : N1 := match kd with
  | .u8 => (match ks with
    | .u32 => ⟨fun n => vn .u8 (A.toB n)⟩
    | _ => ⟨fun n => vn .u8 (Nat.mod n 256)⟩)
  | .u16 => ⟨fun n => vn .u16 (Nat.mod n 65536)⟩
  | .u32 => (match ks with
    | .u8 => ⟨fun n => vn .u32 (A.ofB n)⟩
    | _ => ⟨fun n => vn .u32 (Nat.mod n 4294967296)⟩)
  | .u64 => ⟨fun n => vn .u64 (Nat.mod n 18446744073709551616)⟩
  | .i64 => ⟨fun n => cond (Nat.blt n 9223372036854775808) (vn .i64 n) none⟩
  | _ => ⟨fun _ => none⟩
theorem fastConv_ok {ks kd : IntKind} {n : Nat} {v : Value} (h : (fastConv .real ks kd).run n = some v) : v = .int kd (kd.wrap (Int.ofNat n)) := by
  have e : ∀ {k M B}, UK k M B → vn k (n % M) = some v → v = .int k (k.wrap (Int.ofNat n)) := fun hk h => by
    rw [vn_some h]; exact congrArg _ (hk.wrap n).symm
  unfold fastConv at h
  split at h
  · split at h
    · exact e uk8 h
    · exact e uk8 h
  · exact e uk16 h
  · split at h
    · exact e uk32 h
    · exact e uk32 h
  · exact e uk64 h
  · obtain ⟨h1, h2⟩ := cond_some h
    rw [vn_some h2, ← wrapF_eq]
    have h3 : n < 9223372036854775808 := by simpa [Nat.blt_eq] using h1
    exact congrArg _ (wrapI h3).symm
  · cases h
def convV (A : Alu) (X : Ctx) (a b : TypeId) (x : Operand) : VC := match X.tt a, X.tt b with
  | some ⟨.int ks, _, _, _, _, _⟩, some ⟨.int kd, _, _, _, _, _⟩ => ⟨fun T s => onSome none (fun v => onNat (cConv X.tt s a b v) (fun _ n => alt ((fastConv A ks kd).run n) (cConv X.tt s a b v)) v) ((evC X x).run T)⟩
  | _, _ => ⟨fun T s => onSome none (fun v => cConv X.tt s a b v) ((evC X x).run T)⟩
theorem convV_ok (X : Ctx) {o : Oper} {a b : TypeId} {x : Operand} (ho : o.op = .convert a b x) : VCOk X o (convV .real X a b x) := by
  have fin : ∀ {T : PM Value} {s : CS} {u v : Value}, (evC X x).run T = some u → cConv X.tt s a b u = some v → cop X T s o = some (.val v s) := by
    intro T s u v h1 h3
    rw [evC_eq] at h1
    unfold cop; rw [ho]
    simp only [oConv, h1, h3, CRes.pure]
  unfold convV
  split
  · rename_i ks z1 z2 z3 z4 z5 kd y1 y2 y3 y4 y5 ha hb
    intro T s v h
    obtain ⟨u, h1, h⟩ := onSome_some (show onSome none _ _ = some v from h)
    refine fin h1 ?_
    rcases onNat_alt h with h | ⟨k, n, rfl, h⟩
    · exact h
    · rcases alt_some h with h | h
      · simp only [cConv, ha, hb]
        rw [fastConv_ok h]
      · exact h
  · intro T s v h
    obtain ⟨u, h1, h⟩ := onSome_some (show onSome none _ _ = some v from h)
    exact fin h1 h

end
end Go.Cl

/- Literals and 'append', closed. -/
namespace Go.Cl
noncomputable section

/-- Cells are laid over a row, one by one. -/
theorem lay_toList (l : List Value) : ∀ (off : Nat) (k : Nat) (cells : Array Value), off + k + l.length ≤ cells.size →
    ((l.zipIdx k).foldl (fun cs (c, j) => cs.setIfInBounds (off + j) c) cells).toList = cells.toList.take (off + k) ++ l ++ cells.toList.drop (off + k + l.length) := by
  induction l with
  | nil => intro off k cells h; simp
  | cons x l ih =>
    intro off k cells h
    simp only [List.length_cons] at h
    rw [List.zipIdx_cons, List.foldl_cons]
    have h1 : off + (k + 1) + l.length ≤ (cells.setIfInBounds (off + k) x).size := by simp; omega
    rw [ih off (k + 1) _ h1]
    simp only [Array.toList_setIfInBounds]
    apply List.ext_getElem?
    intro i
    simp only [List.getElem?_append, List.getElem?_take, List.getElem?_drop, List.length_take, List.length_append, List.length_set, Array.length_toList, List.getElem?_set, List.length_cons]
    repeat' split
    all_goals first
      | rfl
      | omega
      | (congr 1; omega)
      | skip
    all_goals first
      | (rename_i h1 h2 h3 h4; rw [show i - min (off + k) cells.size = 0 by omega]; simp)
      | (rw [show i - min (off + k) cells.size = (i - min (off + (k + 1)) cells.size) + 1 by omega]; simp)
      | (simp; omega)
      | skip
def lenEq (n : Nat) (l : List Value) : Bool := @Nat.rec (fun _ => List Value → Bool) (fun l => @List.rec Value (fun _ => Bool) true (fun _ _ _ => false) l) (fun _ ih l => @List.rec Value (fun _ => Bool) false (fun _ t _ => ih t) l) n l
theorem lenEq_true : ∀ {n : Nat} {l : List Value}, lenEq n l = true → l.length = n
  | 0, [], _ => rfl
  | 0, _ :: _, h => by cases h
  | _ + 1, [], h => by cases h
  | n + 1, _ :: l, h => by rw [List.length_cons, lenEq_true (show lenEq n l = true from h)]
/-- Every value but an aggregate is one cell. -/
def onCell {β : Type} (z y : β) (v : Value) : β := onAgg0 (onTuple0 y (fun _ => z) v) (fun _ => z) v
/-- A value is laid at a place. -/
def layAt (off size : Nat) (v : Value) (cells : List Value) : Option (List Value) :=
  onAgg0 (onTuple0 (cond (Nat.beq size 1) (upd1 v off cells) none) (fun _ => none) v) (fun a => onArr (fun l => cond (lenEq size l) (updN l off cells) none) a) v
theorem layAt_some {off size : Nat} {v : Value} {cells r : List Value} (h : layAt off size v cells = some r) :
    v.cells.size = size ∧ off + v.cells.size ≤ cells.length ∧ r = cells.take off ++ v.cells.toList ++ cells.drop (off + v.cells.size) := by
  have one : v.cells = #[v] → cond (Nat.beq size 1) (upd1 v off cells) none = some r → v.cells.size = size ∧ off + v.cells.size ≤ cells.length ∧ r = cells.take off ++ v.cells.toList ++ cells.drop (off + v.cells.size) := by
    intro hv h
    obtain ⟨h1, h2⟩ := cond_k h
    obtain ⟨rfl, h3⟩ := upd1_some h2
    rw [hv]
    exact ⟨(Nat.eq_of_beq_eq_true h1).symm, h3, rfl⟩
  cases v <;> first | exact one rfl h | skip
  · rename_i a
    obtain ⟨l⟩ := a
    obtain ⟨h1, h2⟩ := cond_k (show cond (lenEq size l) (updN l off cells) none = some r from h)
    obtain ⟨rfl, h3⟩ := updN_some h2
    exact ⟨lenEq_true h1, h3, rfl⟩
  · cases h
theorem fill_step {place : Nat → Option (Nat × Nat)} {i off size : Nat} {v : Value} {cells r : List Value} {rest : List (Nat × Value)} (hp : place i = some (off, size)) (h : layAt off size v cells = some r) :
    Instr.fill place ⟨cells⟩ ((i, v) :: rest) = Instr.fill place ⟨r⟩ rest := by
  obtain ⟨h1, h2, rfl⟩ := layAt_some h
  simp only [Instr.fill, hp]
  rw [if_neg (by simp only [List.size_toArray, Bool.or_eq_true, decide_eq_true_eq]; omega)]
  congr 1
  rw [← Array.toList_inj]
  have e := lay_toList v.cells.toList off 0 ⟨cells⟩ (by simpa using h2)
  simp only [Nat.add_zero, Array.length_toList] at e
  rw [← Array.foldl_toList, Array.toList_zipIdx]
  exact e
/-- The parts of a literal, closed: where each lies, its operand. -/
structure PartC where
  off : Nat
  size : Nat
  g : GC Value
structure FC where
  run : PM Value → List Value → Option (List Value)
def fillC : List PartC → FC
  | [] => ⟨fun _ c => some c⟩
  | p :: l => ⟨fun T c => onSome none (fun v => onSome none (fun c => (fillC l).run T c) (layAt p.off p.size v c)) (p.g.run T)⟩
def partsC (X : Ctx) (place : Nat → Option (Nat × Nat)) : List (Nat × Operand) → Option (List PartC)
  | [] => some []
  | (i, x) :: l => match place i, partsC X place l with
    | some (off, size), some r => some (⟨off, size, evC X x⟩ :: r)
    | _, _ => none
theorem fillC_ok {X : Ctx} {place : Nat → Option (Nat × Nat)} {T : PM Value} : ∀ {ps : List (Nat × Operand)} {l : List PartC} {c r : List Value}, partsC X place ps = some l → (fillC l).run T c = some r →
    ∃ vs, evp X T ps = some vs ∧ Instr.fill place ⟨c⟩ vs = some ⟨r⟩
  | [], l, c, r, hp, h => by
    cases Option.some.inj (show some [] = some l from hp)
    cases Option.some.inj (show some c = some r from h)
    exact ⟨[], rfl, rfl⟩
  | (i, x) :: ps, l, c, r, hp, h => by
    simp only [partsC] at hp
    split at hp
    · rename_i off size q h1 h2
      cases Option.some.inj hp
      obtain ⟨v, h3, h4⟩ := onSome_some (show onSome none _ ((evC X x).run T) = some r from h)
      obtain ⟨c1, h5, h6⟩ := onSome_some h4
      obtain ⟨vs, h7, h8⟩ := fillC_ok h2 h6
      rw [evC_eq] at h3
      exact ⟨(i, v) :: vs, by simp only [evp, h3, h7], (fill_step h1 h5).trans h8⟩
    · cases hp
def buildV (X : Ctx) (t : TypeId) (ps : Array (Nat × Operand)) : Option VC := match X.tt t with
  | some ⟨.struct fs, _, _, some z, _, _⟩ =>
    if fs.toList.all (fun f => (X.tt f.type).isSome) then
      (match partsC X (fun (i : Nat) => (fs[i]?).map fun (f : Field) => (f.offset, ((X.tt f.type).map (·.size)).getD 0)) ps.toList with
      | some l => some ⟨fun T _ => onSome none (fun r => some (.agg ⟨r⟩)) ((fillC l).run T z.cells.toList)⟩
      | none => none)
    else none
  | some ⟨.array _ e, _, _, some z, _, _⟩ => (match X.tt e with
    | some i => (match partsC X (fun k => some (k * i.size, i.size)) ps.toList with
      | some l => some ⟨fun T _ => onSome none (fun r => some (.agg ⟨r⟩)) ((fillC l).run T z.cells.toList)⟩
      | none => none)
    | none => none)
  | _ => none
theorem buildV_ok (X : Ctx) {o : Oper} {t : TypeId} {ps : Array (Nat × Operand)} (ho : o.op = .build t ps) {c : VC} (hc : buildV X t ps = some c) : VCOk X o c := by
  unfold buildV at hc
  split at hc
  · rename_i fs z1 z2 z z3 z4 ht
    split at hc
    · rename_i hall
      split at hc
      · rename_i l hl
        cases Option.some.inj hc
        intro T s v h
        obtain ⟨r, h1, h2⟩ := onSome_some (show onSome none _ _ = some v from h)
        obtain ⟨vs, h3, h4⟩ := fillC_ok hl h1
        unfold cop; rw [ho]
        simp only [oBuild, h3, cBuild, ht]
        rw [if_pos hall]
        have h4 : Instr.fill (fun (i : Nat) => (fs[i]?).map fun (f : Field) => (f.offset, ((X.tt f.type).map (·.size)).getD 0)) z.cells vs = some ⟨r⟩ := h4
        rw [h4, ← Option.some.inj h2]
        rfl
      · cases hc
    · cases hc
  · rename_i n e z1 z2 z z3 z4 ht
    split at hc
    · rename_i i hi
      split at hc
      · rename_i l hl
        cases Option.some.inj hc
        intro T s v h
        obtain ⟨r, h1, h2⟩ := onSome_some (show onSome none _ _ = some v from h)
        obtain ⟨vs, h3, h4⟩ := fillC_ok hl h1
        unfold cop; rw [ho]
        simp only [oBuild, h3, cBuild, ht, hi]
        have h4 : Instr.fill (fun k => some (k * i.size, i.size)) z.cells vs = some ⟨r⟩ := h4
        rw [h4, ← Option.some.inj h2]
        rfl
      · cases hc
    · cases hc
  · cases hc
/-- A new row. -/
def newC (s : CS) (o : CObj) (k : KS) (v : Nat → Value) : CodeRes := @CS.rec (fun _ => CodeRes) (fun h nx up => k (v nx) ⟨(uC (path nx)).run o h, up, Nat.succ up⟩) s
theorem newC_eq (s : CS) (o : CObj) (k : KS) (v : Nat → Value) : newC s o k v = k (v s.nx) ⟨s.h.set s.nx o, s.up, s.up + 1⟩ := by
  obtain ⟨h, nx, up⟩ := s
  show k (v nx) ⟨(uC (path nx)).run o h, up, up + 1⟩ = _
  rw [uC_set]
def buildSliceW (X : Ctx) (t : TypeId) (len : Nat) (ps : Array (Nat × Operand)) : Option WC := match X.tt t with
  | some ⟨.slice e, _, _, _, _, _⟩ => (match X.tt e with
    | some ⟨_, size, _, some z, _, _⟩ => if 0 < len ∧ 0 < size ∧ len * size ≤ 16777216 ∧ len < big then
        (match partsC X (fun k => some (k * size, size)) ps.toList with
        | some l => some ⟨fun T s k => onSome none (fun r => newC s (.cells r .shut 0) k (fun n => .slice (some ⟨n, 0, none⟩) len len)) ((fillC l).run T (rep len z.cells.toList))⟩
        | none => none)
      else none
    | _ => none)
  | _ => none
theorem buildSliceW_ok (X : Ctx) {o : Oper} {t : TypeId} {len : Nat} {ps : Array (Nat × Operand)} (ho : o.op = .buildSlice t len ps) {c : WC} (hc : buildSliceW X t len ps = some c) : WCOk X o c := by
  unfold buildSliceW at hc
  split at hc
  · rename_i e z1 z2 z3 z4 z5 ht
    split at hc
    · rename_i u size z6 z z7 z8 hi
      split at hc
      · rename_i hcond
        split at hc
        · rename_i l hl
          cases Option.some.inj hc
          intro T s k res h
          obtain ⟨r, h1, h2⟩ := onSome_some (show onSome none _ _ = some res from h)
          rw [newC_eq] at h2
          obtain ⟨vs, h3, h4⟩ := fillC_ok hl h1
          refine ⟨_, _, ?_, h2⟩
          unfold cop; rw [ho]
          simp only [oBuildSlice, h3, cBuildSlice, ht, hi]
          rw [if_pos hcond]
          have h4 : Instr.fill (fun k => some (k * size, size)) (rep len z.cells.toList).toArray vs = some ⟨r⟩ := h4
          rw [h4]
          rfl
        · cases hc
      · cases hc
    · cases hc
  · cases hc

/-! ### append -/
/-- A row of just so many, another behind it. -/
def appAt (ys : List Value) (n : Nat) : List Value → Option (List Value) := @Nat.rec (fun _ => List Value → Option (List Value)) (fun l => @List.rec Value (fun _ => Option (List Value)) (some ys) (fun _ _ _ => none) l) (fun _ ih l => @List.rec Value (fun _ => Option (List Value)) none (fun x t _ => onSome none (fun r => some (x :: r)) (ih t)) l) n
theorem appAt_some {ys : List Value} : ∀ {n : Nat} {l r : List Value}, appAt ys n l = some r → r = l ++ ys ∧ l.length = n
  | 0, [], r, h => by cases Option.some.inj (show some ys = some r from h); exact ⟨rfl, rfl⟩
  | 0, _ :: _, r, h => by cases h
  | n + 1, [], r, h => by cases h
  | n + 1, x :: l, r, h => by
    obtain ⟨q, h1, h2⟩ := onSome_some (show onSome none (fun r => some (x :: r)) (appAt ys n l) = some r from h)
    obtain ⟨rfl, h3⟩ := appAt_some h1
    exact ⟨(Option.some.inj h2).symm, by rw [List.length_cons, h3]⟩
def onOpn {β : Type} (z y : β) (m : CMode) : β := @CMode.rec (fun _ => β) z y z m
theorem onOpn_some {β : Type} {y : Option β} {m : CMode} {x : β} (h : onOpn none y m = some x) : m = .opn ∧ y = some x := by
  cases m <;> first | exact ⟨rfl, h⟩ | cases h
def fAppend (size bytes : Nat) (s : CS) (x y : Value) : Option (Value × CS) :=
  onSlice none (fun b boff n _ => onCells none (fun yc _ _ => onSome none (fun ys => cond (Nat.blt 0 n) (cond (ones (Nat.mul n size) ys)
    (onSlice0 none (fun xa len cap => @Option.rec Addr (fun _ => Option (Value × CS))
      (cond (Nat.beq len 0) (cond (Nat.beq cap 0) (cond (Nat.ble (Nat.mul (Nat.add (Nat.mul 2 n) 192) bytes) 281474976710656) (some (.slice (some ⟨s.nx, 0, none⟩) n big, ⟨(uC (path s.nx)).run (.cells ys .opn size) s.h, s.up, Nat.succ s.up⟩)) none) none) none)
      (fun ad => onAddr none (fun a off => cond (Nat.beq cap big) (onCells none (fun c m sz => onOpn none (cond (Nat.beq sz size) (cond (Nat.ble (Nat.mul (Nat.add (Nat.mul 2 (Nat.add len n)) 192) bytes) 281474976710656)
        (onSome none (fun r => some (.slice (some ⟨s.nx, 0, none⟩) (Nat.add len n) big, ⟨(uC (path s.nx)).run (.cells r .opn size) (s.h.del a), s.up, Nat.succ s.up⟩)) (@Nat.rec (fun _ => Option (List Value)) (appAt ys (Nat.mul len size) c) (fun _ _ => none) off)) none) none) m) (getH s a)) none) (some ad)) xa) x)
    none) none) (cut boff (Nat.mul n size) yc)) (getH s b)) y
theorem fAppend_ok {tt : Nat → Option TI} {s : CS} {a b e e' : TypeId} {u : TypeDesc} {size bytes q1 q2 r1 r2 : Nat} {z : Value} {w1 w3 w5 : Bool} {v1 v2 : Option Value} {w2 w4 w6 : Option (List CK)} (ha : tt a = some ⟨.slice e, q1, q2, v1, w1, w2⟩) (he : tt e = some ⟨u, size, bytes, some z, w3, w4⟩)
    (hb : tt b = some ⟨.slice e', r1, r2, v2, w5, w6⟩) (h1 : 0 < size) (h2 : 0 < bytes) {x y : Value} {res : Value × CS} (h : fAppend size bytes s x y = some res) : cAppend tt s a b x y = some res := by
  obtain ⟨bb, boff, n, cp, ey, g1⟩ := onSlice_some h
  obtain ⟨yc, ym, ysz, hy, g2⟩ := onCells_some g1
  obtain ⟨ys, hcut, g3⟩ := onSome_some g2
  obtain ⟨hn, g4⟩ := cond_k g3
  obtain ⟨hones, g5⟩ := cond_k g4
  have hn : 0 < n := by simpa [Nat.blt_eq] using hn
  obtain ⟨eys, hlen⟩ := cut_some hcut
  subst ey eys
  obtain ⟨_, hone⟩ := ones_true hones
  rw [getH_eq] at hy
  have hle : boff + n * size ≤ yc.length := by
    have hlen : ((yc.drop boff).take (n * size)).length = n * size := hlen
    rw [List.length_take, List.length_drop] at hlen
    have : 0 < n * size := Nat.mul_pos hn h1
    omega
  have hel : cElems tt s size b (.slice (some ⟨bb, boff, none⟩) n cp) = some (n, (yc.drop boff).take (n * size)) := by
    simp only [cElems, hb]
    rw [if_neg (by omega)]
    simp only [hy]
    rw [if_pos hle]
  simp only [cAppend, ha, he, hel]
  rw [if_neg (by omega), if_pos ⟨h1, h2, hone⟩]
  cases x <;> first | (cases g5; done) | skip
  rename_i xa len cap
  cases xa with
  | none =>
    obtain ⟨h3, g6⟩ := cond_k (show cond (Nat.beq len 0) _ none = some res from g5)
    obtain ⟨h4, g7⟩ := cond_k g6
    obtain ⟨h5, g8⟩ := cond_k g7
    cases Nat.eq_of_beq_eq_true h3
    cases Nat.eq_of_beq_eq_true h4
    have h5 : (2 * n + 192) * bytes ≤ 281474976710656 := Nat.le_of_ble_eq_true h5
    simp only
    rw [if_pos h5, ← Option.some.inj g8, uC_set]
    rfl
  | some ad =>
    obtain ⟨aa, off, sp⟩ := ad
    cases sp with
    | some _ => cases g5
    | none =>
      obtain ⟨h3, g6⟩ := cond_k (show cond (Nat.beq cap big) _ none = some res from g5)
      cases Nat.eq_of_beq_eq_true h3
      obtain ⟨c, m, sz, hc, g7⟩ := onCells_some g6
      obtain ⟨hm, g8⟩ := onOpn_some g7
      subst hm
      obtain ⟨h4, g9⟩ := cond_k g8
      cases Nat.eq_of_beq_eq_true h4
      obtain ⟨h5, g10⟩ := cond_k g9
      have h5 : (2 * (len + n) + 192) * bytes ≤ 281474976710656 := Nat.le_of_ble_eq_true h5
      obtain ⟨r, h6, g11⟩ := onSome_some g10
      cases off with
      | succ k => cases h6
      | zero =>
        obtain ⟨er, h7⟩ := appAt_some (show appAt _ (Nat.mul len size) c = some r from h6)
        subst er
        rw [getH_eq] at hc
        simp only [hc]
        have h7 : c.length = len * size := h7
        rw [if_neg (by omega), if_pos h5, if_neg (by omega), if_pos ⟨trivial, trivial, trivial, by omega⟩, ← Option.some.inj g11, uC_set]
        rfl
def pairW (o : Option (Value × CS)) (k : KS) : CodeRes := onSome none (fun p => @Prod.rec Value CS (fun _ => CodeRes) (fun v s => k v s) p) o
def alt2 (x y : Option (Value × CS)) : Option (Value × CS) := @Option.rec (Value × CS) (fun _ => Option (Value × CS)) y some x
theorem alt2_some {x y : Option (Value × CS)} {v : Value × CS} (h : alt2 x y = some v) : x = some v ∨ y = some v := by
  cases x with
  | none => exact .inr h
  | some _ => exact .inl h
def appendW (X : Ctx) (c : Call) : Option WC := match c.callee, c.argTypes.toList, c.args.toList with
  | .builtin .append, [a, b], [x, y] => (match X.tt a, X.tt b with
    | some ⟨.slice e, _, _, _, _, _⟩, some ⟨.slice _, _, _, _, _, _⟩ => (match X.tt e with
      | some ⟨_, size, bytes, some _, _, _⟩ => if 0 < size ∧ 0 < bytes then
          some ⟨fun T s k => onSome none (fun xv => onSome none (fun yv => pairW (alt2 (fAppend size bytes s xv yv) (cAppend X.tt s a b xv yv)) k) ((evC X y).run T)) ((evC X x).run T)⟩
        else none
      | _ => none)
    | _, _ => none)
  | _, _, _ => none
theorem appendW_ok (X : Ctx) {o : Oper} {c : Call} (ho : o.op = .call c) {w : WC} (hw : appendW X c = some w) : WCOk X o w := by
  unfold appendW at hw
  split at hw
  · rename_i a b x y hcal htys hargs
    split at hw
    · rename_i e z1 z2 z3 z4 z5 e' y1 y2 y3 y4 y5 ha hb
      split at hw
      · rename_i u size bytes z z6 z7 he
        split at hw
        · rename_i hpos
          cases Option.some.inj hw
          intro T s k res h
          obtain ⟨xv, h1, h⟩ := onSome_some (show onSome none _ _ = some res from h)
          obtain ⟨yv, h2, h⟩ := onSome_some h
          obtain ⟨⟨v, s'⟩, h3, h⟩ := onSome_some h
          rw [evC_eq] at h1 h2
          refine ⟨v, s', ?_, h⟩
          have h4 : cAppend X.tt s a b xv yv = some (v, s') := by
            rcases alt2_some h3 with h3 | h3
            · exact fAppend_ok ha he hb hpos.1 hpos.2 h3
            · exact h3
          unfold cop; rw [ho]
          simp only [oCall, hargs, evs, h1, h2, hcal, htys, cBuiltin, h4, CRes.of]
        · cases hw
      · cases hw
    · cases hw
  · cases hw
end
end Go.Cl

/- Closed operations, second part; a row of operations. -/
namespace Go.Cl
noncomputable section

def unV (A : Alu) (X : Ctx) (op : UnOp) (x : Operand) : VC := match op with
  | .not => ⟨fun T _ => onSome none (fun v => onBool (cUn op v) (fun b => vb (not b)) v) ((evC X x).run T)⟩
  | .xor => ⟨fun T _ => onSome none (fun v => onNat (cUn op v) (fun k m => alt (only .u32 k (vn .u32 (A.xor 4294967295 m))) (cUn op v)) v) ((evC X x).run T)⟩
  | _ => ⟨fun T _ => onSome none (fun v => cUn op v) ((evC X x).run T)⟩
theorem not_u32 (m : Nat) : cUn .xor (.int .u32 (Int.ofNat m)) = some (.int .u32 (Int.ofNat (Alu.real.xor 4294967295 m))) := by
  have hlt : Alu.real.xor 4294967295 m < 4294967296 := Nat.xor_lt_two_pow (n := 32) (Nat.mod_lt _ (by decide)) (Nat.mod_lt _ (by decide))
  have e : ∀ x : BitVec 32, x.toNat = Alu.real.xor 4294967295 m → some (Value.int .u32 (IntKind.u32.wrap x.toNat)) = some (.int .u32 (Int.ofNat (Alu.real.xor 4294967295 m))) := fun x hx => by
    rw [hx, uk32.wrap, Nat.mod_eq_of_lt hlt]; rfl
  have h : pureRun (Op.unary .xor (.int .u32 (Int.ofNat m))) = some (.int .u32 (Int.ofNat (Alu.real.xor 4294967295 m))) := by
    show some (Value.int .u32 (IntKind.u32.wrap (BitVec.ofInt 32 (Int.ofNat 4294967295) ^^^ BitVec.ofInt 32 (Int.ofNat m)).toNat)) = _
    refine e _ ?_
    have h1 := uk32.bv 4294967295
    have h2 := uk32.bv m
    rw [BitVec.toNat_xor]
    rw [show (BitVec.ofInt 32 (Int.ofNat 4294967295)).toNat = 4294967295 % 4294967296 from h1, show (BitVec.ofInt 32 (Int.ofNat m)).toNat = m % 4294967296 from h2]; rfl
  unfold cUn
  rw [if_pos (show sca (.int .u32 (Int.ofNat m)) = true from rfl), h]
  rfl
theorem unV_ok (X : Ctx) {o : Oper} {op : UnOp} {t : TypeId} {x : Operand} (ho : o.op = .unOp op t x) : VCOk X o (unV .real X op x) := by
  have fin : ∀ {T : PM Value} {s : CS} {u v : Value}, (evC X x).run T = some u → cUn op u = some v → cop X T s o = some (.val v s) := by
    intro T s u v h1 h3
    rw [evC_eq] at h1
    unfold cop; rw [ho]
    simp only [oUn, h1, h3, CRes.pure]
  unfold unV
  split
  · intro T s v h
    obtain ⟨u, h1, h⟩ := onSome_some (show onSome none _ _ = some v from h)
    refine fin h1 ?_
    cases u <;> exact h
  · intro T s v h
    obtain ⟨u, h1, h⟩ := onSome_some (show onSome none _ _ = some v from h)
    refine fin h1 ?_
    rcases onNat_alt h with h | ⟨k, n, rfl, h⟩
    · exact h
    · rcases alt_some h with h | h
      · obtain ⟨rfl, h⟩ := only_some h
        rw [vn_some h]; exact not_u32 n
      · exact h
  · intro T s v h
    obtain ⟨u, h1, h⟩ := onSome_some (show onSome none _ _ = some v from h)
    exact fin h1 h

/-- By a word of its own, which always yields a value. -/
def cresK (o : Option CRes) (D : List DItem) (k : KV) : CodeRes := onSome none (fun c => @CRes.rec (fun _ => CodeRes) (fun v s => k v D s) (fun _ => none) (fun _ _ => none) (fun _ _ => none) (fun _ _ _ => none) (fun _ => none) c) o
def genC (f : PM Value → CS → Option CRes) : OC := ⟨fun _ _ T D s k => cresK (f T s) D k⟩
theorem genC_ok {X : Ctx} {o : Oper} {f : PM Value → CS → Option CRes} (hf : ∀ T s, cop X T s o = f T s) : OCOk X o (genC f) := by
  intro R ro T D s k res h
  obtain ⟨c, h1, h2⟩ := onSome_some (show cresK (f T s) D k = some res from h)
  cases c <;> first | (cases h2; done) | skip
  rename_i v s'
  exact ⟨v, D, s', by simp [stepO, hf, h1], h2⟩

def lenV (X : Ctx) (c : Call) : VC := match c.callee, c.argTypes.toList, c.args.toList with
  | .builtin .len, [t], [x] => (match X.tt t with
    | some ⟨.slice _, _, _, _, _, _⟩ => ⟨fun T _ => onSome none (fun v => onSlice0 none (fun _ n _ => vn .i64 n) v) ((evC X x).run T)⟩
    | some ⟨.string, _, _, _, _, _⟩ => ⟨fun T _ => onSome none (fun v => onString none (fun b => vn .i64 b.size) v) ((evC X x).run T)⟩
    | some _ => ⟨fun T s => onSome none (fun v => cLen X.tt s t v) ((evC X x).run T)⟩
    | none => noV)
  | _, _, _ => noV
theorem lenV_ok (X : Ctx) {o : Oper} {c : Call} (ho : o.op = .call c) : VCOk X o (lenV X c) := by
  unfold lenV
  split
  · rename_i t x hcal htys hargs
    have fin : ∀ {T : PM Value} {s : CS} {u v : Value}, (evC X x).run T = some u → cLen X.tt s t u = some v → cop X T s o = some (.val v s) := by
      intro T s u v h1 h3
      rw [evC_eq] at h1
      unfold cop; rw [ho]
      simp only [oCall, hargs, evs, h1, hcal, htys, cBuiltin, h3, CRes.pure]
    split
    · rename_i e z1 z2 z3 z4 z5 ht
      intro T s v h
      obtain ⟨u, h1, h⟩ := onSome_some (show onSome none _ _ = some v from h)
      refine fin h1 ?_
      cases u <;> first | (cases h; done) | skip
      simp only [cLen, ht]
      exact h
    · rename_i z1 z2 z3 z4 z5 ht
      intro T s v h
      obtain ⟨u, h1, h⟩ := onSome_some (show onSome none _ _ = some v from h)
      refine fin h1 ?_
      obtain ⟨b, rfl, h⟩ := onString_some h
      simp only [cLen, ht]
      exact h
    · intro T s v h
      obtain ⟨u, h1, h⟩ := onSome_some (show onSome none _ _ = some v from h)
      exact fin h1 h
    · exact @noV_ok _ _
  · exact @noV_ok _ _

def pairK (o : Option (Value × CS)) (D : List DItem) (k : KV) : CodeRes := onSome none (fun p => @Prod.rec Value CS (fun _ => CodeRes) (fun v s => k v D s) p) o
/-- A call of a function by its name. -/
def callC (X : Ctx) (g : FuncId) (l : List Operand) : OC := ⟨fun R _ T D s k => onSome none (fun xs => pairK (R.F g xs s) D k) ((evsC X l).run T)⟩
theorem callC_ok (X : Ctx) {o : Oper} {c : Call} {g : FuncId} {fn : Func} (ho : o.op = .call c) (hc : c.callee = .value (.func g)) (he : X.ext g = none) (hf : X.fn g = some fn) (hp : X.pf g = none) : OCOk X o (callC X g c.args.toList) := by
  intro R ro T D s k res h
  obtain ⟨xs, h1, h⟩ := onSome_some (show onSome none _ _ = some res from h)
  obtain ⟨⟨v, s'⟩, h2, h⟩ := onSome_some h
  rw [evsC_eq] at h1
  refine ⟨v, D, s', ?_, h⟩
  have hcop : cop X T s o = some (.call g xs) := by
    unfold cop; rw [ho]
    simp only [oCall, h1, hc, ev, oGo, he, hf, hp]
    simp
  simp only [stepO, hcop, h2]
/-- A call of a function that leaves memory alone. -/
def pcallC (X : Ctx) (g : FuncId) (h : List Value → Option Value) (l : List Operand) : OC := ⟨fun R _ T D s k => onSome none (fun xs => @Option.rec Value (fun _ => CodeRes) (pairK (R.F g xs s) D k) (fun v => k v D s) (h xs)) ((evsC X l).run T)⟩
theorem pcallC_ok (X : Ctx) {o : Oper} {c : Call} {g : FuncId} {fn : Func} {h : List Value → Option Value} (ho : o.op = .call c) (hc : c.callee = .value (.func g)) (he : X.ext g = none) (hf : X.fn g = some fn) (hp : X.pf g = some h) : OCOk X o (pcallC X g h c.args.toList) := by
  intro R ro T D s k res hres
  obtain ⟨xs, h1, hres⟩ := onSome_some (show onSome none _ _ = some res from hres)
  rw [evsC_eq] at h1
  have hcop : cop X T s o = match h xs with | some v => some (.pcall v) | none => some (.call g xs) := by
    unfold cop; rw [ho]
    simp only [oCall, h1, hc, ev, oGo, he, hf, hp]
    simp only [Option.bind_some, List.nil_append, List.append_nil]
    cases h xs <;> rfl
  cases hx : h xs with
  | none =>
    rw [hx] at hres hcop
    obtain ⟨⟨v, s'⟩, h2, hres⟩ := onSome_some (show onSome none _ _ = some res from hres)
    exact ⟨v, D, s', by simp only [stepO, hcop, h2], hres⟩
  | some v =>
    rw [hx] at hres hcop
    exact ⟨v, D, s, by simp only [stepO, hcop], hres⟩

def callO (X : Ctx) (o : Oper) (c : Call) : OC := match c.callee with
  | .builtin b => (match b with
    | .len => ofV (lenV X c)
    | .append => (match appendW X c with
      | some w => ofW w
      | none => genC fun T s => oCall X T s c o.type)
    | _ => genC fun T s => oCall X T s c o.type)
  | .value (.func g) => (match X.ext g, X.fn g, X.pf g with
    | none, some _, none => callC X g c.args.toList
    | none, some _, some h => pcallC X g h c.args.toList
    | _, _, _ => genO X o)
  | _ => genO X o
theorem callO_ok (X : Ctx) {o : Oper} {c : Call} (ho : o.op = .call c) : OCOk X o (callO X o c) := by
  unfold callO
  split
  · split
    · exact ofV_ok (lenV_ok X ho)
    · split
      · rename_i w hw; exact ofW_ok (appendW_ok X ho hw)
      · exact genC_ok fun T s => by unfold cop; rw [ho]
    · exact genC_ok fun T s => by unfold cop; rw [ho]
  · rename_i g hg
    split
    · rename_i fn h1 h2 h3
      exact callC_ok X ho hg h1 h2 h3
    · rename_i fn h h1 h2 h3
      exact pcallC_ok X ho hg h1 h2 h3
    · exact genO_ok X o
  · exact genO_ok X o
def isShift : BinOp → Bool
  | .shl | .shr => true
  | _ => false
def compO (A : Alu) (X : Ctx) (o : Oper) : OC := match o.op with
  | .move x => ofV (moveV X x)
  | .assign x => ofV (moveV X x)
  | .pick c a b => ofV (pickV X c a b)
  | .alloc e => genC fun _ s => CRes.of (cAlloc X.tt s e)
  | .box _ x => genC fun T s => oBox X T s x
  | .build t ps => (match buildV X t ps with
    | some c => ofV c
    | none => genC fun T s => oBuild X T s t ps)
  | .buildSlice t len ps => (match buildSliceW X t len ps with
    | some c => ofW c
    | none => genC fun T s => oBuildSlice X T s t len ps)
  | .load t a => ofV (loadV X t a)
  | .store t a x => ofW (storeW X t a x)
  | .nilCheck x => ofV (nilCheckV X x)
  | .binOp op t x y _ => if isShift op then ofV (shiftV A X op t x y) else ofV (binV A X op t x y)
  | .unOp op _ x => ofV (unV A X op x)
  | .convert a b x => ofV (convV A X a b x)
  | .makeInterface t x => genC fun T s => oIface X T s t x
  | .makeFunc fn fi ca => genC fun T s => oFunc X T s fn fi ca
  | .makeSlice t l c => genC fun T s => oMakeSlice X T s t l c
  | .slice t x lo hi mx => genC fun T s => oSlice X T s t x lo hi mx
  | .fieldAddr t x f => ofV (fieldAddrV X t x f)
  | .field t x f => ofV (fieldV X t x f)
  | .indexAddr t x ix => ofV (indexAddrV X t x ix)
  | .index t x ix => ofV (indexV X t x ix)
  | .lookup t x k ok => genC fun T s => oLookup X T s t x k ok
  | .extract t i => ofV (extractV X t i)
  | .call c => callO X o c
  | _ => genO X o
theorem compO_ok (X : Ctx) (o : Oper) : OCOk X o (compO .real X o) := by
  unfold compO
  split <;> rename_i ho
  · exact ofV_ok (moveV_ok X (.inl ho))
  · exact ofV_ok (moveV_ok X (.inr ho))
  · exact ofV_ok (pickV_ok X ho)
  · exact genC_ok fun T s => by unfold cop; rw [ho]
  · exact genC_ok fun T s => by unfold cop; rw [ho]
  · split
    · rename_i c hc; exact ofV_ok (buildV_ok X ho hc)
    · exact genC_ok fun T s => by unfold cop; rw [ho]
  · split
    · rename_i c hc; exact ofW_ok (buildSliceW_ok X ho hc)
    · exact genC_ok fun T s => by unfold cop; rw [ho]
  · exact ofV_ok (loadV_ok X ho)
  · exact ofW_ok (storeW_ok X ho)
  · exact ofV_ok (nilCheckV_ok X ho)
  · split
    · rename_i op t x y yt hs
      refine ofV_ok (shiftV_ok X ?_ ho)
      cases op <;> first | exact .inl rfl | exact .inr rfl | cases hs
    · exact ofV_ok (binV_ok X ho)
  · exact ofV_ok (unV_ok X ho)
  · exact ofV_ok (convV_ok X ho)
  · exact genC_ok fun T s => by unfold cop; rw [ho]
  · exact genC_ok fun T s => by unfold cop; rw [ho]
  · exact genC_ok fun T s => by unfold cop; rw [ho]
  · exact genC_ok fun T s => by unfold cop; rw [ho]
  · exact ofV_ok (fieldAddrV_ok X ho)
  · exact ofV_ok (fieldV_ok X ho)
  · exact ofV_ok (indexAddrV_ok X ho)
  · exact ofV_ok (indexV_ok X ho)
  · exact genC_ok fun T s => by unfold cop; rw [ho]
  · exact ofV_ok (extractV_ok X ho)
  · exact callO_ok X ho
  · exact genO_ok X o

/-- Is an operation wanted? -/
structure BC where
  run : PM Value → Option Bool
def guardC (ops : Array Oper) (j : Nat) (want : Bool) : BC := match (ops[j]?).bind (·.dst) with
  | some t => ⟨fun T => onSome none (fun v => onTuple0 (onBool none (fun b => some (@Bool.rec (fun _ => Bool) (not want) want b)) v) (fun _ => some false) v) ((gC (path t)).run T)⟩
  | none => ⟨fun _ => none⟩
theorem guardC_ok {ops : Array Oper} {j : Nat} {want : Bool} {T : PM Value} {o : Oper} {b : Bool} (hg : o.guard = some (j, want)) (h : (guardC ops j want).run T = some b) : wantedT ops T o = some b := by
  unfold guardC at h
  unfold wantedT
  rw [hg]
  simp only
  split at h
  · rename_i t ht
    rw [ht]
    obtain ⟨v, h1, h2⟩ := onSome_some (show onSome none _ _ = some b from h)
    rw [gC_get] at h1
    simp only [h1]
    cases v <;> first | (cases h2; done) | skip
    · rename_i x
      have h2 : some (@Bool.rec (fun _ => Bool) (not want) want x) = some b := h2
      rw [← Option.some.inj h2]
      cases x <;> cases want <;> rfl
    · exact h2
  · cases h

/-- Code's rest. -/
abbrev KN := PM Value → List DItem → CS → CodeRes
/-- A closed row of operations. -/
structure CC where
  run : Rec → Option Nat → PM Value → List DItem → CS → KN → CodeRes
def compS (A : Alu) (X : Ctx) (N : Nat) (ops : Array Oper) : List Oper → CC
  | [] => ⟨fun _ _ T D s k => k T D s⟩
  | o :: l => match o.guard with
    | none => ⟨fun R ro T D s k => (compO A X o).run R ro T D s (fun v D s => (compS A X N ops l).run R ro ((dstC N o.dst).run v T) D s k)⟩
    | some (j, want) => ⟨fun R ro T D s k => onSome none (fun b => @Bool.rec (fun _ => CodeRes) ((compS A X N ops l).run R ro ((dstC N o.dst).run undef T) D s k)
        ((compO A X o).run R ro T D s (fun v D s => (compS A X N ops l).run R ro ((dstC N o.dst).run v T) D s k)) b) ((guardC ops j want).run T)⟩
theorem compS_ok (X : Ctx) (N : Nat) (ops : Array Oper) : ∀ (l : List Oper) {R ro T D s k res}, (compS .real X N ops l).run R ro T D s k = some res → ∃ T' D' s', stepS X R ro N ops l T D s = some (T', D', s') ∧ k T' D' s' = some res
  | [], R, ro, T, D, s, k, res, h => ⟨T, D, s, rfl, h⟩
  | o :: l, R, ro, T, D, s, k, res, h => by
    have yes : ∀ {res}, (compO .real X o).run R ro T D s (fun v D s => (compS .real X N ops l).run R ro ((dstC N o.dst).run v T) D s k) = some res → wantedT ops T o = some true →
        ∃ T' D' s', stepS X R ro N ops (o :: l) T D s = some (T', D', s') ∧ k T' D' s' = some res := by
      intro res h hw
      obtain ⟨v, D1, s1, h1, h2⟩ := compO_ok X o h
      obtain ⟨T', D', s', h3, h4⟩ := compS_ok X N ops l h2
      rw [dstC_eq] at h3
      exact ⟨T', D', s', by simp only [stepS, hw, h1, h3], h4⟩
    simp only [compS] at h
    split at h
    · rename_i hg
      exact yes h (by simp [wantedT, hg])
    · rename_i j want hg
      obtain ⟨b, h1, h2⟩ := onSome_some (show onSome none _ _ = some res from h)
      have hw := guardC_ok hg h1
      cases b with
      | true => exact yes h2 hw
      | false =>
        obtain ⟨T', D', s', h3, h4⟩ := compS_ok X N ops l (show (compS .real X N ops l).run R ro ((dstC N o.dst).run undef T) D s k = some res from h2)
        rw [dstC_eq] at h3
        exact ⟨T', D', s', by simp only [stepS, hw, h3], h4⟩
end
end Go.Cl

