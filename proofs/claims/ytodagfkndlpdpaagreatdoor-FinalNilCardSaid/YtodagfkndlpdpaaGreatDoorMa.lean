/- the clean machine: memory, relation, operations (1). -/
import Derived.OrdersIn
import Derived.ScopeJumps
import Derived.Laws.Cells
import Derived.Laws.CopyRow
import Derived.DeepKeys3
import Derived.LaidEqlPtr
/- The clean machine's state, the relation between it and the model's memory, and how one step of memory keeps that relation. -/
namespace Go.Cl
noncomputable section

/-- A digit below eight. -/
inductive D8 where
  | a | b | c | d | e | f | g | h
structure N8 (β : Type) where
  (a b c d e f g h : β)
/-- A finite map from numbers, as a tree by the number's digits (base 8, bijective). -/
inductive PM (α : Type) where
  | nil
  | node (v : Option α) (k : N8 (PM α))
inductive Path where
  | e
  | d (x : D8) (p : Path)
def D8.ofNat (n : Nat) : D8 := cond (Nat.blt n 4) (cond (Nat.blt n 2) (cond (Nat.beq n 0) .a .b) (cond (Nat.beq n 2) .c .d)) (cond (Nat.blt n 6) (cond (Nat.beq n 4) .e .f) (cond (Nat.beq n 6) .g .h))
def Path.ofNat (k : Nat) : Nat → Path := @Nat.rec (fun _ => Nat → Path) (fun _ => .e) (fun _ ih n => cond (Nat.beq n 0) .e (.d (D8.ofNat (Nat.mod (Nat.pred n) 8)) (ih (Nat.div (Nat.pred n) 8)))) k
def path (n : Nat) : Path := Path.ofNat n n
theorem D8.inj : ∀ (n m : Nat), n < 8 → m < 8 → D8.ofNat n = D8.ofNat m → n = m := by
  have h : ∀ (n m : Fin 8), D8.ofNat n.1 = D8.ofNat m.1 → n = m := by
    intro n m h
    revert h
    revert m
    revert n
    have hd : ∀ n m : Fin 8, (match D8.ofNat n.1, D8.ofNat m.1 with | .a, .a | .b, .b | .c, .c | .d, .d | .e, .e | .f, .f | .g, .g | .h, .h => true | _, _ => false) = true → n = m := by decide
    intro n m h
    apply hd
    rw [h]
    cases D8.ofNat m.1 <;> rfl
  intro n m hn hm e
  exact congrArg Fin.val (h ⟨n, hn⟩ ⟨m, hm⟩ e)
theorem cbeq {β : Type} (n m : Nat) (a b : β) : cond (Nat.beq n m) a b = if n = m then a else b := by
  by_cases h : n = m
  · subst h; simp
  · have : Nat.beq n m = false := by
      cases hb : Nat.beq n m with
      | false => rfl
      | true => exact absurd (Nat.eq_of_beq_eq_true hb) h
    simp [this, h]
theorem Path.ofNat_succ (k n : Nat) : Path.ofNat (k + 1) n = if n = 0 then .e else .d (D8.ofNat ((n - 1) % 8)) (Path.ofNat k ((n - 1) / 8)) := by
  rw [← cbeq]; rfl
theorem Path.ofNat_inj : ∀ (k j n m : Nat), n ≤ k → m ≤ j → Path.ofNat k n = Path.ofNat j m → n = m
  | 0, 0, n, m, hn, hm, _ => by omega
  | 0, j + 1, n, m, hn, hm, h => by
    rw [Path.ofNat_succ] at h
    by_cases h0 : m = 0
    · omega
    · rw [if_neg h0] at h; cases h
  | k + 1, 0, n, m, hn, hm, h => by
    rw [Path.ofNat_succ] at h
    by_cases h0 : n = 0
    · omega
    · rw [if_neg h0] at h; cases h
  | k + 1, j + 1, n, m, hn, hm, h => by
    rw [Path.ofNat_succ, Path.ofNat_succ] at h
    by_cases h0 : n = 0 <;> by_cases h1 : m = 0
    · omega
    · rw [if_pos h0, if_neg h1] at h; cases h
    · rw [if_neg h0, if_pos h1] at h; cases h
    · rw [if_neg h0, if_neg h1] at h
      simp only [Path.d.injEq] at h
      have e1 := D8.inj _ _ (Nat.mod_lt _ (by decide)) (Nat.mod_lt _ (by decide)) h.1
      have e2 := Path.ofNat_inj k j _ _ (by omega) (by omega) h.2
      omega
theorem path_inj {n m : Nat} (h : path n = path m) : n = m := Path.ofNat_inj n m n m (Nat.le_refl _) (Nat.le_refl _) h
namespace PM
variable {α : Type}
/-- What a tree is: nothing, or a value and its kids. -/
def on {β : Type} (z : β) (f : Option α → N8 (PM α) → β) (t : PM α) : β := @PM.rec α (fun _ => β) (fun _ => PUnit) z (fun v k _ => f v k) (fun _ _ _ _ _ _ _ _ _ _ _ _ _ _ _ _ => ⟨⟩) t
def pick {β : Type} (x : D8) (k : N8 β) : β := @N8.rec β (fun _ => β) (fun a b c d e f g h => @D8.rec (fun _ => β) a b c d e f g h x) k
def swap {β : Type} (x : D8) (u : β → β) (k : N8 β) : N8 β := @N8.rec β (fun _ => N8 β) (fun a b c d e f g h => @D8.rec (fun _ => N8 β) ⟨u a, b, c, d, e, f, g, h⟩ ⟨a, u b, c, d, e, f, g, h⟩ ⟨a, b, u c, d, e, f, g, h⟩ ⟨a, b, c, u d, e, f, g, h⟩
  ⟨a, b, c, d, u e, f, g, h⟩ ⟨a, b, c, d, e, u f, g, h⟩ ⟨a, b, c, d, e, f, u g, h⟩ ⟨a, b, c, d, e, f, g, u h⟩ x) k
def nil8 {α : Type} : N8 (PM α) := ⟨.nil, .nil, .nil, .nil, .nil, .nil, .nil, .nil⟩
/-- The child at a digit; nothing under 'nil'. -/
def kid (x : D8) (t : PM α) : PM α := on .nil (fun _ k => pick x k) t
def top (t : PM α) : Option α := on none (fun v _ => v) t
/-- The child at a digit is turned. -/
def turn (x : D8) (u : PM α → PM α) (t : PM α) : PM α := on (.node none (swap x u nil8)) (fun v k => .node v (swap x u k)) t
def setTop (v : Option α) (t : PM α) : PM α := on (.node v nil8) (fun _ k => .node v k) t
def getP (p : Path) : PM α → Option α := @Path.rec (fun _ => PM α → Option α) top (fun x _ ih t => ih (kid x t)) p
def putP (v : Option α) (p : Path) : PM α → PM α := @Path.rec (fun _ => PM α → PM α) (setTop v) (fun x _ ih t => turn x ih t) p
def get (t : PM α) (n : Nat) : Option α := getP (path n) t
def set (t : PM α) (n : Nat) (v : α) : PM α := putP (some v) (path n) t
def del (t : PM α) (n : Nat) : PM α := putP none (path n) t
theorem top_setTop (v : Option α) (t : PM α) : top (setTop v t) = v := by cases t <;> rfl
theorem pick_swap {β : Type} (x : D8) (u : β → β) (k : N8 β) : pick x (swap x u k) = u (pick x k) := by cases k; cases x <;> rfl
theorem pick_swap_ne {β : Type} {x y : D8} (h : y ≠ x) (u : β → β) (k : N8 β) : pick y (swap x u k) = pick y k := by cases k; cases x <;> cases y <;> first | rfl | exact absurd rfl h
theorem kid_setTop (v : Option α) (t : PM α) (x : D8) : kid x (setTop v t) = kid x t := by cases t <;> cases x <;> rfl
theorem top_turn (x : D8) (k : PM α → PM α) (t : PM α) : top (turn x k t) = top t := by cases t <;> rfl
theorem kid_turn (x : D8) (k : PM α → PM α) (t : PM α) : kid x (turn x k t) = k (kid x t) := by
  cases t with
  | nil => exact (pick_swap x k nil8).trans (by cases x <;> rfl)
  | node v c => exact pick_swap x k c
theorem kid_turn_ne {x y : D8} (h : y ≠ x) (k : PM α → PM α) (t : PM α) : kid y (turn x k t) = kid y t := by
  cases t with
  | nil => exact (pick_swap_ne h k nil8).trans (by cases y <;> rfl)
  | node v c => exact pick_swap_ne h k c
theorem getP_nil : ∀ p : Path, getP p (.nil : PM α) = none
  | .e => rfl
  | .d x p => getP_nil p
theorem get_nil (n : Nat) : (PM.nil : PM α).get n = none := getP_nil _
theorem put_same (v : Option α) : ∀ (p : Path) (t : PM α), getP p (putP v p t) = v
  | .e, t => top_setTop v t
  | .d x p, t => by
    show getP p (kid x (turn x (putP v p) t)) = v
    rw [kid_turn]; exact put_same v p _
theorem put_other (v : Option α) : ∀ (p q : Path) (t : PM α), q ≠ p → getP q (putP v p t) = getP q t
  | .e, .e, _, h => absurd rfl h
  | .e, .d y q, t, _ => by
    show getP q (kid y (setTop v t)) = getP q (kid y t)
    rw [kid_setTop]
  | .d x p, .e, t, _ => top_turn x _ t
  | .d x p, .d y q, t, h => by
    show getP q (kid y (turn x (putP v p) t)) = getP q (kid y t)
    by_cases hxy : y = x
    · subst hxy; rw [kid_turn]; exact put_other v p q _ fun e => h (by rw [e])
    · rw [kid_turn_ne hxy]
theorem get_set (t : PM α) (n m : Nat) (v : α) : (t.set n v).get m = if m = n then some v else t.get m := by
  by_cases h : m = n
  · subst h; rw [if_pos rfl]; exact put_same _ _ _
  · rw [if_neg h]; exact put_other _ _ _ _ fun e => h (path_inj e)
theorem get_set_same (t : PM α) (n : Nat) (v : α) : (t.set n v).get n = some v := by simp [get_set]
theorem get_set_ne (t : PM α) {n m : Nat} (v : α) (h : m ≠ n) : (t.set n v).get m = t.get m := by simp [get_set, h]
theorem get_del (t : PM α) (n m : Nat) : (t.del n).get m = if m = n then none else t.get m := by
  by_cases h : m = n
  · subst h; rw [if_pos rfl]; exact put_same _ _ _
  · rw [if_neg h]; exact put_other _ _ _ _ fun e => h (path_inj e)
end PM

/-- What may be done with a row of cells: it has its block for itself and fills it; it may have room behind it; it is only read. -/
inductive CMode where
  | shut | opn | ro
  deriving DecidableEq

/-- An object of the clean machine. -/
inductive CObj where
  | cells (c : List Value) (m : CMode) (sz : Nat)
  | map (es : List MapEntry) (clock : Nat) (kt : TypeId)
  | iter (m : Option Nat) (since : Nat) (seen : List Nat) (stepped : Nat)
  | loop (st : LoopState) (pending : Option Code) (T : PM Value) (N : Nat) (params : List Tmp) (assign body : Code) (defers : Nat)
  | deferred (taken : Bool)
def CObj.ro : CObj → Bool
  | .cells _ .ro _ => true
  | _ => false

structure CS where
  h : PM CObj
  /-- the next id; the one after it -/
  nx : Nat
  up : Nat

/-- The mark of a capacity that is not known: the slice goes to the end of its block's room. -/
def big : Nat := 18446744073709551616

/-- Where an object of the clean machine lies: block, first cell, end of the room, cells an element. -/
structure Loc where
  b : Nat
  o : Nat
  e : Nat
  sz : Nat
abbrev Ren := Nat → Option Loc

inductive VR (r : Ren) : Value → Value → Prop
  | bool (b : Bool) : VR r (.bool b) (.bool b)
  | int (k : IntKind) (n : Int) : VR r (.int k n) (.int k n)
  | float (k : FloatKind) (b : Nat) : VR r (.float k b) (.float k b)
  | string (s : ByteArray) : VR r (.string s) (.string s)
  | nilPtr : VR r (.pointer none) (.pointer none)
  | ptr {a : Nat} {l : Loc} (off : Nat) (h : r a = some l) : VR r (.pointer (some ⟨a, off, none⟩)) (.pointer (some ⟨l.b, l.o + off, none⟩))
  | nilSlice : VR r (.slice none 0 0) (.slice none 0 0)
  | slice {a : Nat} {l : Loc} (off len cap : Nat) (p : Addr) (h : r a = some l) (hp : 0 < cap → p = ⟨l.b, l.o + off, none⟩) (hl : len ≤ cap) (hc : cap < big) : VR r (.slice (some ⟨a, off, none⟩) len cap) (.slice (some p) len cap)
  | sliceU {a : Nat} {l : Loc} (off len cap : Nat) (p : Addr) (h : r a = some l) (hp : 0 < cap → p = ⟨l.b, l.o + off, none⟩) (he : l.o + off + cap * l.sz = l.e) (hl : len ≤ cap) (hz : 0 < l.sz) :
      VR r (.slice (some ⟨a, off, none⟩) len big) (.slice (some p) len cap)
  | nilMap : VR r (.map none) (.map none)
  | map {a : Nat} {l : Loc} (h : r a = some l) : VR r (.map (some a)) (.map (some l.b))
  | func (f : FuncId) (fi ca fi' ca' : Array Value) (h1 : fi.size = fi'.size) (h2 : ca.size = ca'.size)
      (hf : ∀ i (x : i < fi.size) (y : i < fi'.size), VR r fi[i] fi'[i]) (hc : ∀ i (x : i < ca.size) (y : i < ca'.size), VR r ca[i] ca'[i]) :
      VR r (.func (.func f) fi ca) (.func (.func f) fi' ca')
  | yield {a : Nat} {l : Loc} (h : r a = some l) : VR r (.func (.yield a) #[] #[]) (.func (.yield l.b) #[] #[])
  | nilFunc : VR r .nilFunc .nilFunc
  | nilIface : VR r .nilIface .nilIface
  | iface (t : TypeId) (v v' : Value) (h : VR r v v') : VR r (.iface t v) (.iface t v')
  | agg (cs cs' : Array Value) (h : cs.size = cs'.size) (hc : ∀ i (x : i < cs.size) (y : i < cs'.size), VR r cs[i] cs'[i]) : VR r (.agg cs) (.agg cs')
  | tuple (cs cs' : Array Value) (h : cs.size = cs'.size) (hc : ∀ i (x : i < cs.size) (y : i < cs'.size), VR r cs[i] cs'[i]) : VR r (.tuple cs) (.tuple cs')

theorem VR.mono {r r' : Ren} (hm : ∀ a l, r a = some l → r' a = some l) {v v' : Value} (h : VR r v v') : VR r' v v' := by
  induction h with
  | bool => exact .bool _
  | int => exact .int _ _
  | float => exact .float _ _
  | string => exact .string _
  | nilPtr => exact .nilPtr
  | ptr off h => exact .ptr off (hm _ _ h)
  | nilSlice => exact .nilSlice
  | slice off len cap p h hp hl hc => exact .slice off len cap p (hm _ _ h) hp hl hc
  | sliceU off len cap p h hp he hl hz => exact .sliceU off len cap p (hm _ _ h) hp he hl hz
  | nilMap => exact .nilMap
  | map h => exact .map (hm _ _ h)
  | func f fi ca fi' ca' h1 h2 _ _ i1 i2 => exact .func f fi ca fi' ca' h1 h2 i1 i2
  | yield h => exact .yield (hm _ _ h)
  | nilFunc => exact .nilFunc
  | nilIface => exact .nilIface
  | iface t v v' _ ih => exact .iface t v v' ih
  | agg cs cs' h _ ih => exact .agg cs cs' h ih
  | tuple cs cs' h _ ih => exact .tuple cs cs' h ih

/-- Lists of values, one by one. -/
def VL (r : Ren) : List Value → List Value → Prop
  | [], [] => True
  | x :: xs, y :: ys => VR r x y ∧ VL r xs ys
  | _, _ => False
theorem VL.nil {r : Ren} : VL r [] [] := trivial
theorem VL.cons {r : Ren} {x y : Value} {xs ys : List Value} (h : VR r x y) (t : VL r xs ys) : VL r (x :: xs) (y :: ys) := ⟨h, t⟩
theorem VL.mono {r r' : Ren} (hm : ∀ a l, r a = some l → r' a = some l) : ∀ {xs ys : List Value}, VL r xs ys → VL r' xs ys
  | [], [], _ => trivial
  | _ :: _, _ :: _, h => ⟨h.1.mono hm, VL.mono hm h.2⟩
  | [], _ :: _, h => h.elim
  | _ :: _, [], h => h.elim
theorem VL.length {r : Ren} : ∀ {xs ys : List Value}, VL r xs ys → ys.length = xs.length
  | [], [], _ => rfl
  | _ :: _, _ :: _, h => by simp [VL.length h.2]
  | [], _ :: _, h => h.elim
  | _ :: _, [], h => h.elim
theorem VL.get {r : Ren} : ∀ {xs ys : List Value}, VL r xs ys → ∀ {i : Nat} {x : Value}, xs[i]? = some x → ∃ y, ys[i]? = some y ∧ VR r x y
  | [], [], _, i, x, h => by simp at h
  | x :: _, y :: _, h, 0, z, hz => by simp at hz; subst hz; exact ⟨y, rfl, h.1⟩
  | _ :: _, _ :: _, h, i + 1, z, hz => by simpa using VL.get h.2 (i := i) (by simpa using hz)
  | [], _ :: _, h, _, _, _ => h.elim
  | _ :: _, [], h, _, _, _ => h.elim
theorem VL.of_get {r : Ren} : ∀ {xs ys : List Value}, ys.length = xs.length → (∀ (i : Nat) (x y : Value), xs[i]? = some x → ys[i]? = some y → VR r x y) → VL r xs ys
  | [], [], _, _ => trivial
  | x :: _, y :: _, hl, h => ⟨h 0 x y rfl rfl, VL.of_get (by simpa using hl) fun i a b ha hb => h (i + 1) a b (by simpa using ha) (by simpa using hb)⟩
  | [], _ :: _, hl, _ => by simp at hl
  | _ :: _, [], hl, _ => by simp at hl
theorem VL.append {r : Ren} : ∀ {a b c d : List Value}, VL r a b → VL r c d → VL r (a ++ c) (b ++ d)
  | [], [], _, _, _, h => h
  | _ :: _, _ :: _, _, _, h, k => ⟨h.1, VL.append h.2 k⟩
  | [], _ :: _, _, _, h, _ => h.elim
  | _ :: _, [], _, _, h, _ => h.elim
theorem VL.take {r : Ren} : ∀ (n : Nat) {a b : List Value}, VL r a b → VL r (a.take n) (b.take n)
  | 0, _, _, _ => by simp [VL]
  | _ + 1, [], [], _ => trivial
  | n + 1, _ :: _, _ :: _, h => ⟨h.1, VL.take n h.2⟩
  | _ + 1, [], _ :: _, h => h.elim
  | _ + 1, _ :: _, [], h => h.elim
theorem VL.drop {r : Ren} : ∀ (n : Nat) {a b : List Value}, VL r a b → VL r (a.drop n) (b.drop n)
  | 0, _, _, h => h
  | _ + 1, [], [], _ => trivial
  | n + 1, _ :: _, _ :: _, h => VL.drop n h.2
  | _ + 1, [], _ :: _, h => h.elim
  | _ + 1, _ :: _, [], h => h.elim
theorem VL.set {r : Ren} : ∀ (n : Nat) {a b : List Value} {x y : Value}, VL r a b → VR r x y → VL r (a.set n x) (b.set n y)
  | 0, _ :: _, _ :: _, _, _, h, k => ⟨k, h.2⟩
  | n + 1, _ :: _, _ :: _, _, _, h, k => ⟨h.1, VL.set n h.2 k⟩
  | _, [], [], _, _, _, _ => trivial
  | _, [], _ :: _, _, _, h, _ => h.elim
  | _, _ :: _, [], _, _, h, _ => h.elim
theorem VR.agg_iff {r : Ren} {cs : Array Value} {v : Value} : VR r (.agg cs) v ↔ ∃ cs', v = .agg cs' ∧ VL r cs.toList cs'.toList := by
  constructor
  · intro h; cases h with
    | agg _ cs' h hc =>
      refine ⟨cs', rfl, VL.of_get (by simp [h]) fun i x y hx hy => ?_⟩
      simp only [Array.getElem?_toList] at hx hy
      obtain ⟨h1, rfl⟩ := Array.getElem?_eq_some_iff.1 hx
      obtain ⟨h2, rfl⟩ := Array.getElem?_eq_some_iff.1 hy
      exact hc i h1 h2
  · rintro ⟨cs', rfl, h⟩
    refine .agg cs cs' (by simpa using h.length.symm) fun i x y => ?_
    obtain ⟨z, hz, hv⟩ := h.get (i := i) (x := cs[i]) (by simp [x])
    simp only [Array.getElem?_toList, Array.getElem?_eq_getElem y, Option.some.injEq] at hz
    exact hz ▸ hv
theorem VR.tuple_iff {r : Ren} {cs : Array Value} {v : Value} : VR r (.tuple cs) v ↔ ∃ cs', v = .tuple cs' ∧ VL r cs.toList cs'.toList := by
  constructor
  · intro h; cases h with
    | tuple _ cs' h hc =>
      refine ⟨cs', rfl, VL.of_get (by simp [h]) fun i x y hx hy => ?_⟩
      simp only [Array.getElem?_toList] at hx hy
      obtain ⟨h1, rfl⟩ := Array.getElem?_eq_some_iff.1 hx
      obtain ⟨h2, rfl⟩ := Array.getElem?_eq_some_iff.1 hy
      exact hc i h1 h2
  · rintro ⟨cs', rfl, h⟩
    refine .tuple cs cs' (by simpa using h.length.symm) fun i x y => ?_
    obtain ⟨z, hz, hv⟩ := h.get (i := i) (x := cs[i]) (by simp [x])
    simp only [Array.getElem?_toList, Array.getElem?_eq_getElem y, Option.some.injEq] at hz
    exact hz ▸ hv
theorem VR.func_iff {r : Ren} {f : FuncId} {fi ca : Array Value} {v : Value} : VR r (.func (.func f) fi ca) v ↔ ∃ fi' ca', v = .func (.func f) fi' ca' ∧ VL r fi.toList fi'.toList ∧ VL r ca.toList ca'.toList := by
  constructor
  · intro h; cases h with
    | func _ _ _ fi' ca' h1 h2 hf hc =>
      refine ⟨fi', ca', rfl, VL.of_get (by simp [h1]) fun i x y hx hy => ?_, VL.of_get (by simp [h2]) fun i x y hx hy => ?_⟩
      all_goals
        simp only [Array.getElem?_toList] at hx hy
        obtain ⟨h1, rfl⟩ := Array.getElem?_eq_some_iff.1 hx
        obtain ⟨h2, rfl⟩ := Array.getElem?_eq_some_iff.1 hy
      · exact hf i h1 h2
      · exact hc i h1 h2
  · rintro ⟨fi', ca', rfl, h, k⟩
    refine .func f fi ca fi' ca' (by simpa using h.length.symm) (by simpa using k.length.symm) (fun i x y => ?_) (fun i x y => ?_)
    · obtain ⟨z, hz, hv⟩ := h.get (i := i) (x := fi[i]) (by simp [x])
      simp only [Array.getElem?_toList, Array.getElem?_eq_getElem y, Option.some.injEq] at hz
      exact hz ▸ hv
    · obtain ⟨z, hz, hv⟩ := k.get (i := i) (x := ca[i]) (by simp [x])
      simp only [Array.getElem?_toList, Array.getElem?_eq_getElem y, Option.some.injEq] at hz
      exact hz ▸ hv

/-- Values without an address in them. -/
def sca : Value → Bool
  | .bool _ | .int .. | .string _ | .float .. | .nilFunc | .nilIface => true
  | _ => false
def plain : Value → Bool
  | .agg cs => cs.toList.all sca
  | v => sca v
def cst : Value → Bool
  | .pointer none | .slice none 0 0 | .map none => true
  | v => sca v
def constOk : Value → Bool
  | .agg cs | .tuple cs => cs.toList.all cst
  | v => cst v
theorem VR.of_sca {r : Ren} {v : Value} (h : sca v = true) : VR r v v := by
  cases v <;> simp [sca] at h <;> constructor
theorem VR.eq_of_sca {r : Ren} {v v' : Value} (h : sca v = true) (hv : VR r v v') : v' = v := by
  cases hv <;> simp [sca] at h <;> rfl
theorem VR.of_cst {r : Ren} {v : Value} (h : cst v = true) : VR r v v := by
  unfold cst at h
  split at h
  · exact .nilPtr
  · exact .nilSlice
  · exact .nilMap
  · exact .of_sca h
theorem VL.of_cst {r : Ren} : ∀ {l : List Value}, l.all cst = true → VL r l l
  | [], _ => trivial
  | x :: l, h => by simp at h; exact ⟨.of_cst h.1, VL.of_cst (by simpa using h.2)⟩
theorem VL.eq_of_sca {r : Ren} : ∀ {l l' : List Value}, l.all sca = true → VL r l l' → l' = l
  | [], [], _, _ => rfl
  | x :: l, y :: l', h, k => by simp at h; rw [VR.eq_of_sca h.1 k.1, VL.eq_of_sca (by simpa using h.2) k.2]
  | [], _ :: _, _, h => h.elim
  | _ :: _, [], _, h => h.elim
theorem VR.of_const {r : Ren} {v : Value} (h : constOk v = true) : VR r v v := by
  unfold constOk at h
  split at h
  · exact VR.agg_iff.2 ⟨_, rfl, VL.of_cst h⟩
  · exact VR.tuple_iff.2 ⟨_, rfl, VL.of_cst h⟩
  · exact .of_cst h
theorem VR.eq_of_plain {r : Ren} {v v' : Value} (h : plain v = true) (hv : VR r v v') : v' = v := by
  unfold plain at h
  split at h
  · obtain ⟨cs', rfl, k⟩ := VR.agg_iff.1 hv
    rw [Array.toList_inj.1 (VL.eq_of_sca h k)]
  · exact VR.eq_of_sca h hv
theorem plain_constOk {v : Value} (h : plain v = true) : constOk v = true := by
  have hs : ∀ v, sca v = true → cst v = true := fun v hv => by cases v <;> simp [sca] at hv <;> simp [cst, sca]
  unfold plain at h
  split at h
  · simp only [constOk, List.all_eq_true] at h ⊢; exact fun x hx => hs _ (h x hx)
  · have := hs _ h
    unfold constOk; split
    · simp [sca] at h
    · simp [sca] at h
    · exact this
theorem VR.of_plain {r : Ren} {v : Value} (h : plain v = true) : VR r v v := .of_const (plain_constOk h)
theorem undef_vr {r : Ren} : VR r undef undef := .of_const rfl

/-- The temporaries of a frame: what is known of them. -/
def TR (r : Ren) (T : PM Value) (N : Nat) (a : Array Value) : Prop :=
  a.size = N ∧ ∀ t v, T.get t = some v → ∃ v', a[t]? = some v' ∧ VR r v v'
theorem TR.mono {r r' : Ren} (hm : ∀ a l, r a = some l → r' a = some l) {T : PM Value} {N : Nat} {a : Array Value} (h : TR r T N a) : TR r' T N a :=
  ⟨h.1, fun t v ht => let ⟨v', h1, h2⟩ := h.2 t v ht; ⟨v', h1, h2.mono hm⟩⟩
def isAggB (P : Program) (t : TypeId) : Bool := match P.underlying t with
  | some (.struct _) | some (.array _ _) => true
  | _ => false
/-- The value of a type that has these cells. -/
def valOf (P : Program) (t : TypeId) (c : List Value) : Value := if isAggB P t then .agg c.toArray else c.getD 0 undef
/-- A key of a map: plain, of its type's form. -/
structure KeyOf (P : Program) (kt : TypeId) (k : Value) : Prop where
  val : k = valOf P kt k.cells.toList
  len : k.cells.toList.length = P.cellsOf kt
  all : k.cells.toList.all sca = true
/-- A map's entries, one by one. -/
def ER (P : Program) (kt : TypeId) (r : Ren) : List MapEntry → List MapEntry → Prop
  | [], [] => True
  | x :: xs, y :: ys => (KeyOf P kt x.key ∧ y.key = x.key ∧ y.born = x.born ∧ VR r x.val y.val) ∧ ER P kt r xs ys
  | _, _ => False
theorem ER.mono {P : Program} {kt : TypeId} {r r' : Ren} (hm : ∀ a l, r a = some l → r' a = some l) : ∀ {xs ys : List MapEntry}, ER P kt r xs ys → ER P kt r' xs ys
  | [], [], _ => trivial
  | _ :: _, _ :: _, h => ⟨⟨h.1.1, h.1.2.1, h.1.2.2.1, h.1.2.2.2.mono hm⟩, ER.mono hm h.2⟩
  | [], _ :: _, h => h.elim
  | _ :: _, [], h => h.elim

/-- How an object of the clean machine lies in the model's memory. -/
def OR (P : Program) (r : Ren) (w : World) (l : Loc) : CObj → Prop
  | .cells c m sz => ∃ cs t fr, w.heap[l.b]? = some (.cells cs t fr) ∧ l.o + c.length ≤ l.e ∧ l.e ≤ cs.size ∧ VL r c ((cs.toList.drop l.o).take c.length) ∧
      (m ≠ .ro → fr = (0, 0)) ∧ (m = .shut → l.e = l.o + c.length) ∧ l.sz = sz
  | .map es clock kt => ∃ es', w.heap[l.b]? = some (.map es' clock) ∧ ER P kt r es es'.toList
  | .iter m since seen stepped => ∃ m', w.heap[l.b]? = some (.mapIter m' since seen.toArray stepped) ∧ l.o = 0 ∧
      (match m with | none => m' = none | some a => ∃ k, r a = some k ∧ m' = some k.b)
  | .loop st pend T N ps as bd d => ∃ fn tmps d' dl, w.heap[l.b]? = some (.loop { state := st, pending := pend, fn := fn, tmps := tmps, params := ps.toArray, assign := as, body := bd, defers := d' }) ∧ TR r T N tmps ∧ r d = some dl ∧ d' = dl.b
  | .deferred taken => w.heap[l.b]? = some (.deferred (if taken then none else some []))
theorem OR.mono {P : Program} {r r' : Ren} (hm : ∀ a l, r a = some l → r' a = some l) {w w' : World} {l : Loc} (hb : w'.heap[l.b]? = w.heap[l.b]?) {o : CObj} (h : OR P r w l o) : OR P r' w' l o := by
  cases o with
  | cells c m sz => obtain ⟨cs, t, fr, h1, h2, h3, h4, h5⟩ := h; exact ⟨cs, t, fr, hb.trans h1, h2, h3, h4.mono hm, h5⟩
  | map es clock kt => obtain ⟨es', h1, h2⟩ := h; exact ⟨es', hb.trans h1, h2.mono hm⟩
  | iter m since seen stepped =>
    obtain ⟨m', h1, h0, h2⟩ := h
    refine ⟨m', hb.trans h1, h0, ?_⟩
    cases m with
    | none => exact h2
    | some a => obtain ⟨k, h3, h4⟩ := h2; exact ⟨k, hm _ _ h3, h4⟩
  | loop st pend T N ps as bd d => obtain ⟨fn, tmps, d', dl, h1, h2, h3, h4⟩ := h; exact ⟨fn, tmps, d', dl, hb.trans h1, h2.mono hm, hm _ _ h3, h4⟩
  | deferred taken => exact hb.trans h

/-- The relation between the clean machine's memory and the model's. -/
structure R (P : Program) (r : Ren) (s : CS) (w : World) : Prop where
  obj : ∀ id o l, s.h.get id = some o → r id = some l → OR P r w l o
  excl : ∀ i j oi oj li lj, s.h.get i = some oi → s.h.get j = some oj → r i = some li → r j = some lj → i ≠ j → li.b = lj.b → oi.ro = true ∧ oj.ro = true
  dom : ∀ id l, r id = some l → (id ≠ s.nx ∧ id < s.up) ∧ l.b < w.heap.size
  nx : ∀ id o, s.h.get id = some o → id ≠ s.nx ∧ id < s.up
  lt : s.nx < s.up
  glob : ∀ g, g < P.globals.size → ∃ l, r g = some l ∧ l.b = g ∧ l.o = 0

/-- What a piece of a run has done: renamings and memory only grow; blocks that no writable live object has are as they were. -/
structure Step (r : Ren) (s : CS) (w : World) (r' : Ren) (s' : CS) (w' : World) : Prop where
  mono : ∀ id l, r id = some l → r' id = some l
  nx : (s'.nx = s.nx ∨ s.up ≤ s'.nx) ∧ s.up ≤ s'.up
  size : w.heap.size ≤ w'.heap.size
  frame : ∀ b, b < w.heap.size → (∀ id o l, s.h.get id = some o → r id = some l → l.b = b → o.ro = true) → w'.heap[b]? = w.heap[b]?
  new : ∀ id l, r' id = some l → r id = some l ∨ ((id = s.nx ∨ s.up ≤ id) ∧ id < s'.up ∧ (w.heap.size ≤ l.b ∨ ∃ i o k, s.h.get i = some o ∧ r i = some k ∧ o.ro = false ∧ k.b = l.b))
  live : ∀ id o', id ≠ s.nx ∧ id < s.up → s'.h.get id = some o' → ∃ o, s.h.get id = some o ∧ o.ro = o'.ro
  rest : w'.os = w.os ∧ w'.output = w.output ∧ w'.tape = w.tape

theorem Step.refl (r : Ren) (s : CS) (w : World) : Step r s w r s w :=
  ⟨fun _ _ h => h, ⟨.inl rfl, Nat.le_refl _⟩, Nat.le_refl _, fun _ _ _ => rfl, fun _ _ h => .inl h, fun _ o _ h => ⟨o, h, rfl⟩, rfl, rfl, rfl⟩
theorem Step.trans {r r1 r2 : Ren} {s s1 s2 : CS} {w w1 w2 : World} (hd : ∀ id l, r id = some l → id ≠ s.nx ∧ id < s.up) (a : Step r s w r1 s1 w1) (b : Step r1 s1 w1 r2 s2 w2) : Step r s w r2 s2 w2 where
  mono := fun id l h => b.mono _ _ (a.mono _ _ h)
  nx := by
    have h1 := a.nx; have h2 := b.nx
    refine ⟨?_, by omega⟩
    rcases h2.1 with h | h
    · rw [h]; exact h1.1
    · right; omega
  size := Nat.le_trans a.size b.size
  frame := fun k hk hro => by
    rw [b.frame k (Nat.lt_of_lt_of_le hk a.size) ?_, a.frame k hk hro]
    intro id o l ho hr hb
    rcases a.new _ _ hr with h | ⟨_, _, h | ⟨i, o1, k1, h1, h2, h3, h4⟩⟩
    · obtain ⟨o0, h0, e⟩ := a.live id o (hd _ _ h) ho
      rw [← e]; exact hro id o0 l h0 h hb
    · omega
    · have := hro i o1 k1 h1 h2 (h4.trans hb)
      rw [h3] at this; cases this
  new := fun id l h => by
    rcases b.new _ _ h with h | ⟨h1, h2, h3⟩
    · rcases a.new _ _ h with h | ⟨g1, g2, g3⟩
      · exact .inl h
      · exact .inr ⟨g1, Nat.lt_of_lt_of_le g2 b.nx.2, g3⟩
    · refine .inr ⟨by have := a.nx; rcases h1 with h1 | h1 <;> rcases this.1 with h4 | h4 <;> omega, h2, ?_⟩
      rcases h3 with h3 | ⟨i, o, k, q1, q2, q3, q4⟩
      · exact .inl (Nat.le_trans a.size h3)
      · rcases a.new _ _ q2 with h | ⟨_, _, g3⟩
        · obtain ⟨o0, h0, e⟩ := a.live i o (hd _ _ h) q1
          exact .inr ⟨i, o0, k, h0, h, e.trans q3, q4⟩
        · rcases g3 with g3 | ⟨j, oj, kj, p1, p2, p3, p4⟩
          · exact .inl (q4 ▸ g3)
          · exact .inr ⟨j, oj, kj, p1, p2, p3, p4.trans q4⟩
  live := fun id o' hid ho => by
    obtain ⟨o1, h1, e1⟩ := b.live id o' (by have := a.nx; rcases this.1 with h4 | h4 <;> omega) ho
    obtain ⟨o0, h0, e0⟩ := a.live id o1 hid h1
    exact ⟨o0, h0, e0.trans e1⟩
  rest := ⟨b.rest.1.trans a.rest.1, b.rest.2.1.trans a.rest.2.1, b.rest.2.2.trans a.rest.2.2⟩

end
end Go.Cl

/- Reading, writing and making objects keeps the relation between the clean machine's memory and the model's. -/
namespace Go.Cl
noncomputable section
variable {P : Program} {r : Ren} {s : CS} {w : World}

theorem add_mk (b o n : Nat) : (⟨b, o, none⟩ : Addr).add n = ⟨b, o + n, none⟩ := by unfold Addr.add; split <;> simp_all

theorem VL.toList_eq {xs : List Value} {ys : Array Value} (h : VL r xs ys.toList) : ys.size = xs.length := by simpa using h.length

theorem load_at (h : R P r s w) {a : Nat} {l : Loc} {c : List Value} {m : CMode} {sz off n : Nat} (ho : s.h.get a = some (.cells c m sz)) (hr : r a = some l) (hn : off + n ≤ c.length) :
    ∃ ys, VL r ((c.drop off).take n) ys ∧ ∀ w' : World, w'.heap = w.heap → (loadCells ⟨l.b, l.o + off, none⟩ n).run P w' = .ok ys.toArray w' := by
  obtain ⟨cs, t, fr, hb, h1, h2, h3, _⟩ := h.obj _ _ _ ho hr
  refine ⟨(((cs.toList.drop l.o).take c.length).drop off).take n, (h3.drop off).take n, fun w' hw' => ?_⟩
  have hl : ((((cs.toList.drop l.o).take c.length).drop off).take n).length = n := by simp; omega
  have := run_loadCells_list (P := P) w' ⟨l.b, l.o + off, none⟩ ((((cs.toList.drop l.o).take c.length).drop off).take n) (fun j v hj => by
    rw [add_mk]
    have hjn : j < n := by have := List.getElem?_eq_some_iff.1 hj; obtain ⟨x, _⟩ := this; omega
    simp only [World.cell?, hw', hb, Option.isSome_none, Bool.false_eq_true, if_false]
    simp only [List.getElem?_take, hjn, if_true, List.getElem?_drop] at hj
    rw [if_pos (by omega)] at hj
    rw [← Array.getElem?_toList, ← hj]; congr 1; omega)
  rw [hl] at this; exact this
theorem load_ok (h : R P r s w) {a : Nat} {l : Loc} {c : List Value} {m : CMode} {sz off n : Nat} (ho : s.h.get a = some (.cells c m sz)) (hr : r a = some l) (hn : off + n ≤ c.length) :
    ∃ ys, VL r ((c.drop off).take n) ys ∧ (loadCells ⟨l.b, l.o + off, none⟩ n).run P w = .ok ys.toArray w :=
  let ⟨ys, h1, h2⟩ := load_at (P := P) h ho hr hn; ⟨ys, h1, h2 w rfl⟩

theorem load1_ok (h : R P r s w) {a : Nat} {l : Loc} {c : List Value} {m : CMode} {sz off : Nat} {v : Value} (ho : s.h.get a = some (.cells c m sz)) (hr : r a = some l) (hv : c[off]? = some v) :
    ∃ v', VR r v v' ∧ (load ⟨l.b, l.o + off, none⟩).run P w = .ok v' w := by
  obtain ⟨cs, t, fr, hb, h1, h2, h3, _⟩ := h.obj _ _ _ ho hr
  obtain ⟨y, hy, hvr⟩ := h3.get hv
  have hlt : off < c.length := (List.getElem?_eq_some_iff.1 hv).1
  simp only [List.getElem?_take, hlt, if_true, List.getElem?_drop] at hy
  refine ⟨y, hvr, ?_⟩
  have : w.cell? ⟨l.b, l.o + off, none⟩ = some y := by
    simp only [World.cell?, hb, Option.isSome_none, Bool.false_eq_true, if_false]
    rw [← Array.getElem?_toList]; exact hy
  simp [run_load, this]

theorem VR.oneCell {v v' : Value} (h : VR r v v') (hc : v.oneCell' = true) : v'.oneCell' = true := by cases h <;> first | rfl | cases hc
theorem VL.oneCell : ∀ {vs vs' : List Value}, VL r vs vs' → vs.all (·.oneCell') = true → ∀ v ∈ vs', v.oneCell' = true
  | [], [], _, _, _, h => by cases h
  | x :: xs, y :: ys, h, hc, v, hv => by
    simp at hc
    rcases List.mem_cons.1 hv with rfl | hv
    · exact h.1.oneCell hc.1
    · exact VL.oneCell h.2 (by simpa using hc.2) v hv
  | [], _ :: _, h, _, _, _ => h.elim
  | _ :: _, [], h, _, _, _ => h.elim

theorem get_upd {s : CS} {a : Nat} {o o' : CObj} (ho : s.h.get a = some o) {id : Nat} {x : CObj} (hx : (s.h.set a o').get id = some x) : (id = a ∧ x = o') ∨ (id ≠ a ∧ s.h.get id = some x) := by
  rw [PM.get_set] at hx
  have _ := ho
  split at hx
  · exact .inl ⟨by assumption, (Option.some.inj hx).symm⟩
  · exact .inr ⟨by assumption, hx⟩

/-- An object is turned in place. -/
theorem R.upd (h : R P r s w) {a : Nat} {l : Loc} {o o' : CObj} {w' : World} (ho : s.h.get a = some o) (hr : r a = some l) (hro : o.ro = false) (hro' : o'.ro = false)
    (hsz : w'.heap.size = w.heap.size) (hother : ∀ k, k ≠ l.b → w'.heap[k]? = w.heap[k]?) (hnew : OR P r w' l o') (hrest : w'.os = w.os ∧ w'.output = w.output ∧ w'.tape = w.tape) :
    R P r ⟨s.h.set a o', s.nx, s.up⟩ w' ∧ Step r s w r ⟨s.h.set a o', s.nx, s.up⟩ w' := by
  have hne : ∀ {id x k}, s.h.get id = some x → r id = some k → id ≠ a → k.b ≠ l.b := fun {id x k} h1 h2 h3 h4 => by
    have := (h.excl id a x o k l h1 ho h2 hr h3 h4).2
    rw [hro] at this; cases this
  refine ⟨⟨fun id x k hx hk => ?_, fun i j oi oj li lj hi hj hli hlj hij hb => ?_, fun id k hk => ?_, fun id x hx => ?_, h.lt, h.glob⟩, ⟨fun _ _ h => h, ⟨.inl rfl, Nat.le_refl _⟩, by omega, fun b hb hall => ?_, fun _ _ h => .inl h, fun id x hid hx => ?_, hrest⟩⟩
  · rcases get_upd ho hx with ⟨rfl, rfl⟩ | ⟨h1, h2⟩
    · rw [hr] at hk; cases hk; exact hnew
    · exact OR.mono (fun _ _ h => h) (hother _ (hne h2 hk h1)) (h.obj _ _ _ h2 hk)
  · rcases get_upd ho hi with ⟨rfl, rfl⟩ | ⟨h1, h2⟩ <;> rcases get_upd ho hj with ⟨rfl, rfl⟩ | ⟨h3, h4⟩
    · exact absurd rfl hij
    · rw [hr] at hli; cases hli; exact absurd hb.symm (hne h4 hlj h3)
    · rw [hr] at hlj; cases hlj; exact absurd hb (hne h2 hli h1)
    · exact h.excl _ _ _ _ _ _ h2 h4 hli hlj hij hb
  · have := h.dom _ _ hk; exact ⟨this.1, by omega⟩
  · rcases get_upd ho hx with ⟨rfl, rfl⟩ | ⟨_, h2⟩
    · exact h.nx _ _ ho
    · exact h.nx _ _ h2
  · refine hother b fun hbl => ?_
    have := hall a o l ho hr hbl.symm
    rw [hro] at this; cases this
  · rcases get_upd ho hx with ⟨rfl, rfl⟩ | ⟨_, h2⟩
    · exact ⟨o, ho, hro.trans hro'.symm⟩
    · exact ⟨x, h2, rfl⟩

def Ren.put (r : Ren) (a : Nat) (l : Loc) : Ren := fun i => if i = a then some l else r i
theorem Ren.put_same (r : Ren) (a : Nat) (l : Loc) : r.put a l a = some l := by simp [Ren.put]
theorem R.put_mono (h : R P r s w) (l : Loc) : ∀ id k, r id = some k → r.put s.nx l id = some k := fun id k hk => by
  have := (h.dom _ _ hk).1.1
  simp [Ren.put, this, hk]

/-- A new object, in a new block. -/
theorem R.alloc (h : R P r s w) {o : CObj} {l : Loc} {w' : World} (hsz : w.heap.size < w'.heap.size) (hold : ∀ k, k < w.heap.size → w'.heap[k]? = w.heap[k]?) (hl1 : w.heap.size ≤ l.b) (hl2 : l.b < w'.heap.size)
    (hnew : OR P (r.put s.nx l) w' l o) (hrest : w'.os = w.os ∧ w'.output = w.output ∧ w'.tape = w.tape) :
    R P (r.put s.nx l) ⟨s.h.set s.nx o, s.up, s.up + 1⟩ w' ∧ Step r s w (r.put s.nx l) ⟨s.h.set s.nx o, s.up, s.up + 1⟩ w' := by
  have hm := h.put_mono l
  have hput : ∀ {id k}, r.put s.nx l id = some k → (id = s.nx ∧ k = l) ∨ (id ≠ s.nx ∧ r id = some k) := fun {id k} hk => by
    unfold Ren.put at hk; split at hk
    · exact .inl ⟨by assumption, (Option.some.inj hk).symm⟩
    · exact .inr ⟨by assumption, hk⟩
  have hget : ∀ {id x}, (s.h.set s.nx o).get id = some x → (id = s.nx ∧ x = o) ∨ (id ≠ s.nx ∧ s.h.get id = some x) := fun {id x} hx => by
    rw [PM.get_set] at hx; split at hx
    · exact .inl ⟨by assumption, (Option.some.inj hx).symm⟩
    · exact .inr ⟨by assumption, hx⟩
  refine ⟨⟨fun id x k hx hk => ?_, fun i j oi oj li lj hi hj hli hlj hij hb => ?_, fun id k hk => ?_, fun id x hx => ?_, by simp, fun g hg => ?_⟩, ⟨hm, by simp, by omega, fun b hb _ => hold b hb, fun id k hk => ?_, fun id x hid hx => ?_, hrest⟩⟩
  · rcases hget hx with ⟨rfl, rfl⟩ | ⟨h1, h2⟩
    · rcases hput hk with ⟨_, rfl⟩ | ⟨h3, _⟩
      · exact hnew
      · exact absurd rfl h3
    · rcases hput hk with ⟨h3, _⟩ | ⟨_, h4⟩
      · exact absurd h3 h1
      · exact OR.mono hm (hold _ (h.dom _ _ h4).2) (h.obj _ _ _ h2 h4)
  · rcases hget hi with ⟨rfl, rfl⟩ | ⟨h1, h2⟩ <;> rcases hget hj with ⟨rfl, rfl⟩ | ⟨h3, h4⟩
    · exact absurd rfl hij
    · rcases hput hli with ⟨_, rfl⟩ | ⟨x, _⟩
      · rcases hput hlj with ⟨x, _⟩ | ⟨_, y⟩
        · exact absurd x h3
        · have := (h.dom _ _ y).2; omega
      · exact absurd rfl x
    · rcases hput hlj with ⟨_, rfl⟩ | ⟨x, _⟩
      · rcases hput hli with ⟨x, _⟩ | ⟨_, y⟩
        · exact absurd x h1
        · have := (h.dom _ _ y).2; omega
      · exact absurd rfl x
    · rcases hput hli with ⟨x, _⟩ | ⟨_, y⟩
      · exact absurd x h1
      · rcases hput hlj with ⟨x, _⟩ | ⟨_, z⟩
        · exact absurd x h3
        · exact h.excl _ _ _ _ _ _ h2 h4 y z hij hb
  · rcases hput hk with ⟨rfl, rfl⟩ | ⟨_, y⟩
    · exact ⟨by have := h.lt; simp; omega, hl2⟩
    · have := h.dom _ _ y; exact ⟨by simp; omega, by omega⟩
  · rcases hget hx with ⟨rfl, rfl⟩ | ⟨_, h2⟩
    · have := h.lt; simp; omega
    · have := h.nx _ _ h2; simp; omega
  · obtain ⟨k, h1, h2⟩ := h.glob g hg; exact ⟨k, hm _ _ h1, h2⟩
  · rcases hput hk with ⟨rfl, rfl⟩ | ⟨_, y⟩
    · exact .inr ⟨.inl rfl, by have := h.lt; simp; omega, .inl hl1⟩
    · exact .inl y
  · rcases hget hx with ⟨rfl, rfl⟩ | ⟨_, h2⟩
    · exact absurd rfl hid.1
    · exact ⟨x, h2, rfl⟩

/-- An object dies; a new one takes its block over. -/
theorem R.move (h : R P r s w) {a : Nat} {o o' : CObj} {l l' : Loc} {w' : World} (ho : s.h.get a = some o) (hr : r a = some l) (hro : o.ro = false) (hro' : o'.ro = false) (hlb : l'.b = l.b)
    (hsz : w'.heap.size = w.heap.size) (hother : ∀ k, k ≠ l.b → w'.heap[k]? = w.heap[k]?) (hnew : OR P (r.put s.nx l') w' l' o') (hrest : w'.os = w.os ∧ w'.output = w.output ∧ w'.tape = w.tape) :
    R P (r.put s.nx l') ⟨(s.h.del a).set s.nx o', s.up, s.up + 1⟩ w' ∧ Step r s w (r.put s.nx l') ⟨(s.h.del a).set s.nx o', s.up, s.up + 1⟩ w' := by
  have hm := h.put_mono l'
  have hput : ∀ {id k}, r.put s.nx l' id = some k → (id = s.nx ∧ k = l') ∨ (id ≠ s.nx ∧ r id = some k) := fun {id k} hk => by
    unfold Ren.put at hk; split at hk
    · exact .inl ⟨by assumption, (Option.some.inj hk).symm⟩
    · exact .inr ⟨by assumption, hk⟩
  have hget : ∀ {id x}, ((s.h.del a).set s.nx o').get id = some x → (id = s.nx ∧ x = o') ∨ (id ≠ s.nx ∧ id ≠ a ∧ s.h.get id = some x) := fun {id x} hx => by
    rw [PM.get_set, PM.get_del] at hx; split at hx
    · exact .inl ⟨by assumption, (Option.some.inj hx).symm⟩
    · split at hx
      · cases hx
      · exact .inr ⟨by assumption, by assumption, hx⟩
  have hne : ∀ {id x k}, s.h.get id = some x → r id = some k → id ≠ a → k.b ≠ l.b := fun {id x k} h1 h2 h3 h4 => by
    have := (h.excl id a x o k l h1 ho h2 hr h3 h4).2
    rw [hro] at this; cases this
  refine ⟨⟨fun id x k hx hk => ?_, fun i j oi oj li lj hi hj hli hlj hij hb => ?_, fun id k hk => ?_, fun id x hx => ?_, by simp, fun g hg => ?_⟩, ⟨hm, by simp, by omega, fun b hb hall => ?_, fun id k hk => ?_, fun id x hid hx => ?_, hrest⟩⟩
  · rcases hget hx with ⟨rfl, rfl⟩ | ⟨h1, h1', h2⟩
    · rcases hput hk with ⟨_, rfl⟩ | ⟨h3, _⟩
      · exact hnew
      · exact absurd rfl h3
    · rcases hput hk with ⟨h3, _⟩ | ⟨_, h4⟩
      · exact absurd h3 h1
      · exact OR.mono hm (hother _ (hne h2 h4 h1')) (h.obj _ _ _ h2 h4)
  · rcases hget hi with ⟨rfl, rfl⟩ | ⟨h1, h1', h2⟩ <;> rcases hget hj with ⟨rfl, rfl⟩ | ⟨h3, h3', h4⟩
    · exact absurd rfl hij
    · rcases hput hli with ⟨_, rfl⟩ | ⟨x, _⟩
      · rcases hput hlj with ⟨x, _⟩ | ⟨_, y⟩
        · exact absurd x h3
        · exact absurd (hb.symm.trans hlb) (hne h4 y h3')
      · exact absurd rfl x
    · rcases hput hlj with ⟨_, rfl⟩ | ⟨x, _⟩
      · rcases hput hli with ⟨x, _⟩ | ⟨_, y⟩
        · exact absurd x h1
        · exact absurd (hb.trans hlb) (hne h2 y h1')
      · exact absurd rfl x
    · rcases hput hli with ⟨x, _⟩ | ⟨_, y⟩
      · exact absurd x h1
      · rcases hput hlj with ⟨x, _⟩ | ⟨_, z⟩
        · exact absurd x h3
        · exact h.excl _ _ _ _ _ _ h2 h4 y z hij hb
  · rcases hput hk with ⟨rfl, rfl⟩ | ⟨_, y⟩
    · have := (h.dom _ _ hr).2; exact ⟨by have := h.lt; simp; omega, by omega⟩
    · have := h.dom _ _ y; exact ⟨by simp; omega, by omega⟩
  · rcases hget hx with ⟨rfl, rfl⟩ | ⟨_, _, h2⟩
    · have := h.lt; simp; omega
    · have := h.nx _ _ h2; simp; omega
  · obtain ⟨k, h1, h2⟩ := h.glob g hg; exact ⟨k, hm _ _ h1, h2⟩
  · refine hother b fun hbl => ?_
    have := hall a o l ho hr hbl.symm
    rw [hro] at this; cases this
  · rcases hput hk with ⟨rfl, rfl⟩ | ⟨_, y⟩
    · exact .inr ⟨.inl rfl, by have := h.lt; simp; omega, .inr ⟨a, o, l, ho, hr, hro, hlb.symm⟩⟩
    · exact .inl y
  · rcases hget hx with ⟨rfl, rfl⟩ | ⟨_, _, h2⟩
    · exact absurd rfl hid.1
    · exact ⟨x, h2, rfl⟩

/-- The same memory in another world: only what was drawn may differ. -/
theorem R.same (h : R P r s w) {w' : World} (hh : w'.heap = w.heap) : R P r s w' :=
  ⟨fun id o l ho hr => OR.mono (fun _ _ h => h) (by rw [hh]) (h.obj id o l ho hr), h.excl, fun id l hl => by rw [hh]; exact h.dom id l hl, h.nx, h.lt, h.glob⟩
theorem Step.same {w' : World} (hh : w'.heap = w.heap) (hrest : w'.os = w.os ∧ w'.output = w.output ∧ w'.tape = w.tape) : Step r s w r s w' :=
  ⟨fun _ _ h => h, ⟨.inl rfl, Nat.le_refl _⟩, by rw [hh]; exact Nat.le_refl _, fun _ _ _ => by rw [hh], fun _ _ h => .inl h, fun _ o _ h => ⟨o, h, rfl⟩, hrest⟩

/-- A dead object is forgotten. -/
theorem R.kill (h : R P r s w) (a : Nat) : R P r ⟨s.h.del a, s.nx, s.up⟩ w ∧ Step r s w r ⟨s.h.del a, s.nx, s.up⟩ w := by
  have hg : ∀ {id x}, (s.h.del a).get id = some x → s.h.get id = some x := fun {id x} hx => by
    rw [PM.get_del] at hx; split at hx
    · cases hx
    · exact hx
  exact ⟨⟨fun id o l ho hr => h.obj id o l (hg ho) hr, fun i j oi oj li lj hi hj => h.excl i j oi oj li lj (hg hi) (hg hj), h.dom, fun id o ho => h.nx id o (hg ho), h.lt, h.glob⟩,
    ⟨fun _ _ h => h, ⟨.inl rfl, Nat.le_refl _⟩, Nat.le_refl _, fun _ _ _ => rfl, fun _ _ h => .inl h, fun id o _ ho => ⟨o, hg ho, rfl⟩, rfl, rfl, rfl⟩⟩

/-- Cells are written. -/
theorem store_ok (h : R P r s w) {a : Nat} {l : Loc} {c vs vs' : List Value} {m : CMode} {sz off : Nat} (ho : s.h.get a = some (.cells c m sz)) (hr : r a = some l) (hm : m ≠ .ro)
    (hn : off + vs.length ≤ c.length) (hv : VL r vs vs') (h1 : vs.all (·.oneCell') = true) :
    ∃ w', (storeCells ⟨l.b, l.o + off, none⟩ vs').run P w = .ok () w' ∧
      R P r ⟨s.h.set a (.cells (c.take off ++ vs ++ c.drop (off + vs.length)) m sz), s.nx, s.up⟩ w' ∧ Step r s w r ⟨s.h.set a (.cells (c.take off ++ vs ++ c.drop (off + vs.length)) m sz), s.nx, s.up⟩ w' := by
  obtain ⟨cs, t, fr, hb, g1, g2, g3, g4, g5, g6⟩ := h.obj _ _ _ ho hr
  rw [g4 hm] at hb
  have hl := hv.length
  have hrun := run_storeCells_at (P := P) l.b (l.o + off) t vs' 0 cs w hb (by omega) (hv.oneCell h1)
  have hro : (CObj.cells c m sz).ro = false := by cases m <;> first | rfl | exact absurd rfl hm
  have hro' : (CObj.cells (c.take off ++ vs ++ c.drop (off + vs.length)) m sz).ro = false := by cases m <;> first | rfl | exact absurd rfl hm
  refine ⟨_, hrun, R.upd h ho hr hro hro' (by simp [World.setRow]) (fun k hk => setRow_other _ _ _ _ hk) ?_ ⟨by simp, by simp, by simp⟩⟩
  have hlen : (c.take off ++ vs ++ c.drop (off + vs.length)).length = c.length := by simp; omega
  refine ⟨_, t, _, setRow_heap _ _ _ _ _ _ hb, by rw [hlen]; exact g1, by simp; omega, ?_, fun _ => rfl, fun hs => by rw [hlen]; exact g5 hs, g6⟩
  rw [hlen]
  have e : ((cs.toList.take (l.o + off + 0) ++ vs' ++ cs.toList.drop (l.o + off + 0 + vs'.length)).drop l.o).take c.length =
      ((cs.toList.drop l.o).take c.length).take off ++ vs' ++ ((cs.toList.drop l.o).take c.length).drop (off + vs'.length) := by
    apply List.ext_getElem?
    intro i
    simp only [Nat.add_zero, List.getElem?_take, List.getElem?_drop, List.getElem?_append, List.length_take, List.length_append, List.length_drop, Array.length_toList]
    repeat' split
    all_goals first
      | rfl
      | omega
      | (congr 1; omega)
      | (rw [List.getElem?_eq_none (by simp; omega)])
      | (symm; rw [List.getElem?_eq_none (by simp; omega)])
  rw [e]
  exact ((g3.take off).append hv).append (by rw [hl]; exact g3.drop _)

end
end Go.Cl

/- Comparing values cell by cell: what '==' and a map's key check come to at types that are made of integers, bools and strings. -/
namespace Go.Cl
noncomputable section
variable {P : Program}

inductive CK where
  | i | b | s
  deriving DecidableEq
def cmp1 : CK → Value → Value → Option Bool
  | .i, .int k a, .int k' b => if k = k' then some (a == b) else none
  | .b, .bool a, .bool b => some (a == b)
  | .s, .string a, .string b => some (a.toList == b.toList)
  | _, _, _ => none
/-- Two rows of cells of some kinds, up to the first that differs. -/
def cmpL : List CK → List Value → List Value → Option Bool
  | [], [], [] => some true
  | k :: ks, x :: xs, y :: ys => match cmp1 k x y with
    | some true => cmpL ks xs ys
    | some false => some false
    | none => none
  | _, _, _ => none

theorem cmpL_append : ∀ {k l : List CK} {a b c d : List Value}, a.length = k.length → b.length = k.length → cmpL (k ++ l) (a ++ c) (b ++ d) = match cmpL k a b with | some true => cmpL l c d | x => x
  | [], _, [], [], _, _, _, _ => rfl
  | k :: ks, l, x :: a, y :: b, c, d, h, h' => by
    have ih := cmpL_append (k := ks) (l := l) (a := a) (b := b) (c := c) (d := d) (by simpa using h) (by simpa using h')
    simp only [List.cons_append, cmpL]
    cases cmp1 k x y with
    | none => rfl
    | some r => cases r <;> simp [ih]
  | [], _, _ :: _, _, _, _, h, _ => by simp at h
  | [], _, _, _ :: _, _, _, _, h => by simp at h
  | _ :: _, _, [], _, _, _, h, _ => by simp at h
  | _ :: _, _, _, [], _, _, _, h => by simp at h

def okFs (P : Program) (ok : TypeId → Option (List CK)) : Nat → List Field → Nat → Option (List CK)
  | off, [], n => if off = n then some [] else none
  | off, f :: fs, n => if f.name ≠ "_" ∧ f.offset = off then
      match ok f.type, okFs P ok (off + P.cellsOf f.type) fs n with
      | some a, some b => some (a ++ b)
      | _, _ => none
    else none
/-- The kinds of a type's cells, if it is made of integers, bools and strings, its cells in order. -/
def okEq (P : Program) : Nat → TypeId → Option (List CK)
  | 0, _ => none
  | n + 1, t => match P.underlying t with
    | some .bool => if P.cellsOf t = 1 then some [.b] else none
    | some (.int _) => if P.cellsOf t = 1 then some [.i] else none
    | some .string => if P.cellsOf t = 1 then some [.s] else none
    | some (.array len e) => match okEq P n e with
      | some l => if P.cellsOf t = len * P.cellsOf e then some (List.replicate len l).flatten else none
      | none => none
    | some (.struct fs) => if P.stoodInHeld t = false then okFs P (okEq P n) 0 fs.toList (P.cellsOf t) else none
    | _ => none

theorem info_of_und {t : TypeId} {d : TypeDesc} (h : P.underlying t = some d) : ∃ i, P.info? t = some i ∧ P.cellsOf t = i.size := by
  unfold Program.underlying at h
  split at h
  · rename_i i _ _ hi; exact ⟨_, hi, by simp [Program.cellsOf, hi]⟩
  · rename_i i _ hi; exact ⟨_, hi, by simp [Program.cellsOf, hi]⟩
  · cases h

theorem okEq_und {n : Nat} {t : TypeId} {l : List CK} (h : okEq P n t = some l) : ∃ d, P.underlying t = some d := by
  cases n with
  | zero => cases h
  | succ n => cases hu : P.underlying t with
    | none => simp [okEq, hu] at h
    | some d => exact ⟨d, rfl⟩

theorem run_isAgg {t : TypeId} {d : TypeDesc} (h : P.underlying t = some d) (w : World) : (isAgg t).run P w = .ok (isAggB P t) w := by
  simp only [isAgg, Sem.run_bind, run_underlying h, Result.andThen_ok, isAggB, h]
  cases d <;> rfl

theorem run_part_ok {t : TypeId} {d : TypeDesc} (h : P.underlying t = some d) (w : World) (cs : Array Value) (off : Nat) (c : List Value) (hc : (cs.toList.drop off).take (P.cellsOf t) = c) (hn : c.length = P.cellsOf t) (h1 : isAggB P t = false → P.cellsOf t = 1) :
    (part t cs off).run P w = .ok (valOf P t c) w := by
  obtain ⟨i, hi, hs⟩ := info_of_und h
  simp only [part, Sem.run_bind, run_isAgg h, Result.andThen_ok, valOf]
  cases hb : isAggB P t with
  | true =>
    simp only [if_true, Sem.run_bind, sizeOf, typeInfo, run_program, Result.andThen_ok, hi, Sem.run_pure]
    congr 2
    rw [← hc, hs, ← Array.toList_inj, Array.toList_extract]
    simp [List.extract]
  | false =>
    have hl := h1 hb
    rw [hl] at hn hc
    have : cs[off]? = some (c.getD 0 undef) := by
      rw [← Array.getElem?_toList, ← hc]
      have : off < cs.toList.length := by rw [← hc] at hn; simp at hn; simp; omega
      simp only [Array.length_toList] at this
      simp [List.getD, this]
    simp [this]

theorem okFs_len (ok : TypeId → Option (List CK)) (hok : ∀ t l, ok t = some l → l.length = P.cellsOf t) : ∀ (fs : List Field) (off n : Nat) (l : List CK), okFs P ok off fs n = some l → off + l.length = n
  | [], off, n, l, h => by simp only [okFs] at h; split at h <;> simp_all
  | f :: fs, off, n, l, h => by
    simp only [okFs] at h
    split at h
    · cases h1 : ok f.type with
      | none => simp [h1] at h
      | some a => cases h2 : okFs P ok (off + P.cellsOf f.type) fs n with
        | none => simp [h1, h2] at h
        | some b =>
          simp only [h1, h2, Option.some.injEq] at h
          have := okFs_len ok hok fs _ _ _ h2
          have := hok _ _ h1
          rw [← h]; simp; omega
    · cases h
theorem okEq_len : ∀ (n : Nat) (t : TypeId) (l : List CK), okEq P n t = some l → l.length = P.cellsOf t
  | 0, _, _, h => by cases h
  | n + 1, t, l, h => by
    simp only [okEq] at h
    split at h
    · split at h <;> simp_all; rw [← h]; rfl
    · split at h <;> simp_all; rw [← h]; rfl
    · split at h <;> simp_all; rw [← h]; rfl
    · rename_i len e _
      cases h1 : okEq P n e with
      | none => simp [h1] at h
      | some k =>
        have ih := okEq_len n e k h1
        simp only [h1] at h
        split at h
        · rename_i h2; simp only [Option.some.injEq] at h; rw [← h, h2]; simp [List.length_flatten, ih]
        · cases h
    · split at h
      · have := okFs_len _ (fun t l ht => okEq_len n t l ht) _ _ _ _ h; omega
      · cases h
    · cases h
theorem okEq_one {n : Nat} {t : TypeId} {l : List CK} (h : okEq P n t = some l) (hb : isAggB P t = false) : P.cellsOf t = 1 := by
  cases n with
  | zero => cases h
  | succ n =>
    simp only [okEq] at h
    unfold isAggB at hb
    cases hu : P.underlying t with
    | none => simp [hu] at h
    | some d => cases d <;> simp_all

/-- What a comparison at a type comes to. -/
def EqAt (P : Program) (d : Nat) (t : TypeId) (l : List CK) : Prop := ∀ (w : World) (a b : List Value) (x : Bool), a.length = P.cellsOf t → b.length = P.cellsOf t → cmpL l a b = some x →
  (Op.equalIn d t (valOf P t a) (valOf P t b)).run P w = .ok x w
def KeyAt (P : Program) (d : Nat) (t : TypeId) : Prop := ∀ (w : World) (a : List Value) (em : Bool), a.length = P.cellsOf t → a.all sca = true →
  (Instr.checkKey em d t (valOf P t a)).run P w = .ok () w

theorem eqFields_ok {d n : Nat} (ih : ∀ t l, okEq P n t = some l → EqAt P d t l) (xs ys : Array Value) (tot : Nat) (hx : xs.size = tot) (hy : ys.size = tot) (w : World) : ∀ (fs : List Field) (off : Nat) (l : List CK) (x : Bool), okFs P (okEq P n) off fs tot = some l →
    cmpL l (xs.toList.drop off) (ys.toList.drop off) = some x → (Op.eqFields d xs ys fs).run P w = .ok x w
  | [], off, l, x, h, hc => by
    simp only [okFs] at h
    split at h
    · simp only [Option.some.injEq] at h; subst h
      have e1 : xs.toList.drop off = [] := List.drop_eq_nil_of_le (by simp; omega)
      have e2 : ys.toList.drop off = [] := List.drop_eq_nil_of_le (by simp; omega)
      rw [e1, e2] at hc
      simp [cmpL] at hc
      simp [Op.eqFields, hc]
    · cases h
  | f :: fs, off, l, x, h, hc => by
    have hlen := okFs_len _ (fun t l ht => okEq_len n t l ht) _ _ _ _ h
    simp only [okFs] at h
    split at h
    case isFalse => cases h
    rename_i h12
    obtain ⟨h1, h2⟩ := h12
    cases h3 : okEq P n f.type with
    | none => simp [h3] at h
    | some k => cases h4 : okFs P (okEq P n) (off + P.cellsOf f.type) fs tot with
      | none => simp [h3, h4] at h
      | some m =>
        simp only [h3, h4, Option.some.injEq] at h
        subst h
        obtain ⟨dd, hu⟩ := okEq_und h3
        have hk := okEq_len _ _ _ h3
        simp only [List.length_append] at hlen
        let c := P.cellsOf f.type
        have l1 : ((xs.toList.drop off).take c).length = c := by simp [c]; omega
        have l2 : ((ys.toList.drop off).take c).length = c := by simp [c]; omega
        have p1 := run_part_ok hu w xs f.offset _ (by rw [h2]) l1 (okEq_one h3)
        have p2 := run_part_ok hu w ys f.offset _ (by rw [h2]) l2 (okEq_one h3)
        rw [← List.take_append_drop c (xs.toList.drop off), ← List.take_append_drop c (ys.toList.drop off), cmpL_append (by rw [l1, hk]) (by rw [l2, hk])] at hc
        simp only [Op.eqFields, h1, ne_eq, not_false_eq_true, if_true, Sem.run_bind, p1, p2, Result.andThen_ok]
        cases hr : cmpL k ((xs.toList.drop off).take c) ((ys.toList.drop off).take c) with
        | none => rw [hr] at hc; simp at hc
        | some b =>
          have := ih f.type k h3 w _ _ b l1 l2 hr
          rw [this]
          rw [hr] at hc
          cases b with
          | false => simp at hc; simp [hc]
          | true =>
            simp only [List.drop_drop] at hc
            simpa using eqFields_ok ih xs ys tot hx hy w fs (off + c) m x h4 hc

theorem eqItems_ok {d n : Nat} {e : TypeId} {l : List CK} (he : okEq P n e = some l) (ih : EqAt P d e l) (xs ys : Array Value) (len : Nat) (hx : xs.size = len * P.cellsOf e) (hy : ys.size = len * P.cellsOf e) (w : World) : ∀ (k i : Nat) (x : Bool), i + k = len →
    cmpL (List.replicate k l).flatten (xs.toList.drop (i * P.cellsOf e)) (ys.toList.drop (i * P.cellsOf e)) = some x → (Op.eqItems d e (P.cellsOf e) xs ys (List.range' i k)).run P w = .ok x w
  | 0, i, x, h, hc => by
    have e1 : xs.toList.drop (i * P.cellsOf e) = [] := List.drop_eq_nil_of_le (by simp [hx]; rw [show i = len by omega]; exact Nat.le_refl _)
    have e2 : ys.toList.drop (i * P.cellsOf e) = [] := List.drop_eq_nil_of_le (by simp [hy]; rw [show i = len by omega]; exact Nat.le_refl _)
    rw [e1, e2] at hc
    simp [cmpL] at hc
    simp [Op.eqItems, hc]
  | k + 1, i, x, h, hc => by
    obtain ⟨dd, hu⟩ := okEq_und he
    have hk := okEq_len _ _ _ he
    have hle : i * P.cellsOf e + P.cellsOf e ≤ len * P.cellsOf e := by
      rw [← Nat.succ_mul]; exact Nat.mul_le_mul_right _ (by omega)
    have l1 : ((xs.toList.drop (i * P.cellsOf e)).take (P.cellsOf e)).length = P.cellsOf e := by simp [hx]; omega
    have l2 : ((ys.toList.drop (i * P.cellsOf e)).take (P.cellsOf e)).length = P.cellsOf e := by simp [hy]; omega
    have p1 := run_part_ok hu w xs (i * P.cellsOf e) _ rfl l1 (okEq_one he)
    have p2 := run_part_ok hu w ys (i * P.cellsOf e) _ rfl l2 (okEq_one he)
    rw [List.replicate_succ, List.flatten_cons, ← List.take_append_drop (P.cellsOf e) (xs.toList.drop _), ← List.take_append_drop (P.cellsOf e) (ys.toList.drop _), cmpL_append (by rw [l1, hk]) (by rw [l2, hk])] at hc
    simp only [List.range'_succ, Op.eqItems, Sem.run_bind, p1, p2, Result.andThen_ok]
    cases hr : cmpL l ((xs.toList.drop (i * P.cellsOf e)).take (P.cellsOf e)) ((ys.toList.drop (i * P.cellsOf e)).take (P.cellsOf e)) with
    | none => rw [hr] at hc; simp at hc
    | some b =>
      rw [ih w _ _ b l1 l2 hr]
      rw [hr] at hc
      cases b with
      | false => simp at hc; simp [hc]
      | true =>
        simp only [List.drop_drop] at hc
        rw [← Nat.succ_mul] at hc
        simpa using eqItems_ok he ih xs ys len hx hy w k (i + 1) x (by omega) hc

theorem equalIn_ok : ∀ (n : Nat) (t : TypeId) (l : List CK) (d : Nat), okEq P n t = some l → n ≤ d → EqAt P d t l
  | 0, _, _, _, h, _ => by cases h
  | n + 1, t, l, d, h, hd => by
    intro w a b x ha hb hc
    obtain ⟨d, rfl⟩ : ∃ k, d = k + 1 := ⟨d - 1, by omega⟩
    have h0 := h
    simp only [okEq] at h
    cases hu : P.underlying t with
    | none => simp [hu] at h
    | some u =>
      have one : ∀ k, isAggB P t = false → l = [k] → ∃ p q, valOf P t a = p ∧ valOf P t b = q ∧ cmp1 k p q = some x := fun k hz hl => by
        have h1 := okEq_one h0 hz
        rw [h1] at ha hb
        match a, b, ha, hb with
        | [p], [q], _, _ =>
          refine ⟨p, q, by simp [valOf, hz], by simp [valOf, hz], ?_⟩
          simp only [hl, cmpL] at hc
          cases hq : cmp1 k p q with
          | none => simp [hq] at hc
          | some z => cases z <;> simp [hq] at hc <;> simp [hc]
      cases u <;> simp only [hu, reduceCtorEq] at h
      case bool =>
        split at h <;> simp only [Option.some.injEq, reduceCtorEq] at h
        obtain ⟨p, q, e1, e2, e3⟩ := one .b (by simp [isAggB, hu]) h.symm
        rw [e1, e2]
        cases p <;> cases q <;> simp [cmp1] at e3
        simp [Op.equalIn, run_underlying hu, e3]
      case int k =>
        split at h <;> simp only [Option.some.injEq, reduceCtorEq] at h
        obtain ⟨p, q, e1, e2, e3⟩ := one .i (by simp [isAggB, hu]) h.symm
        rw [e1, e2]
        cases p <;> cases q <;> simp [cmp1] at e3
        simp [Op.equalIn, run_underlying hu, e3.1, e3.2]
      case string =>
        split at h <;> simp only [Option.some.injEq, reduceCtorEq] at h
        obtain ⟨p, q, e1, e2, e3⟩ := one .s (by simp [isAggB, hu]) h.symm
        rw [e1, e2]
        cases p <;> cases q <;> simp only [cmp1, reduceCtorEq, Option.some.injEq] at e3
        rw [run_equalIn_string w d t _ _ hu, e3]
      case array len e =>
        have hz : isAggB P t = true := by simp [isAggB, hu]
        cases h1 : okEq P n e with
        | none => simp [h1] at h
        | some k =>
          simp only [h1] at h
          split at h <;> simp only [Option.some.injEq, reduceCtorEq] at h
          rename_i h2
          subst h
          obtain ⟨ud, hud⟩ := okEq_und h1
          obtain ⟨i, hi, _⟩ := info_of_und hud
          simp only [valOf, hz, if_true]
          rw [run_equalIn_array w d _ _ hu hi, List.range_eq_range']
          exact eqItems_ok h1 (equalIn_ok n e k d h1 (by omega)) _ _ len (by simp [ha, h2]) (by simp [hb, h2]) w len 0 x (by omega) (by simpa using hc)
      case struct fs =>
        have hz : isAggB P t = true := by simp [isAggB, hu]
        split at h
        case isFalse => cases h
        rename_i h1
        simp only [valOf, hz, if_true]
        have hf : P.underlying t = some (.struct (P.fieldsOf t)) := by simp [hu, Program.fieldsOf]
        have hfs : P.fieldsOf t = fs := by simp [Program.fieldsOf, hu]
        rw [run_equalIn_struct w d t _ _ hf h1, hfs]
        exact eqFields_ok (fun t' l' ht' => equalIn_ok n t' l' d ht' (by omega)) _ _ (P.cellsOf t) (by simp [ha]) (by simp [hb]) w fs.toList 0 l x h (by simpa using hc)

theorem okFs_mem (ok : TypeId → Option (List CK)) : ∀ (fs : List Field) (off n : Nat) (l : List CK), okFs P ok off fs n = some l → ∀ f ∈ fs, f.name ≠ "_" ∧ (∃ k, ok f.type = some k) ∧ off ≤ f.offset
  | [], _, _, _, _, f, hf => by cases hf
  | g :: fs, off, n, l, h, f, hf => by
    simp only [okFs] at h
    split at h
    case isFalse => cases h
    rename_i h12
    cases h1 : ok g.type with
    | none => simp [h1] at h
    | some a => cases h2 : okFs P ok (off + P.cellsOf g.type) fs n with
      | none => simp [h1, h2] at h
      | some b =>
        rcases List.mem_cons.1 hf with rfl | hf
        · exact ⟨h12.1, ⟨a, h1⟩, by omega⟩
        · have := okFs_mem ok fs _ _ _ h2 f hf
          exact ⟨this.1, this.2.1, by omega⟩

theorem okEq_guard : ∀ (n : Nat) (t : TypeId) (l : List CK) (d : Nat), okEq P n t = some l → n ≤ d → P.eqGuardType d t = false
  | 0, _, _, _, h, _ => by cases h
  | n + 1, t, l, d, h, hd => by
    obtain ⟨d, rfl⟩ : ∃ k, d = k + 1 := ⟨d - 1, by omega⟩
    simp only [okEq] at h
    simp only [Program.eqGuardType]
    cases hu : P.underlying t with
    | none => simp [hu] at h
    | some u =>
      cases u <;> simp only [hu, reduceCtorEq] at h <;> try rfl
      case array len e =>
        cases h1 : okEq P n e with
        | none => simp [h1] at h
        | some k => exact okEq_guard n e k d h1 (by omega)
      case struct fs =>
        split at h
        case isFalse => cases h
        have := okFs_mem _ _ _ _ _ h
        simp only [Array.any_eq_false]
        intro i hi
        obtain ⟨k, hk⟩ := (this fs[i] (by simp)).2.1
        rw [okEq_guard n _ k d hk (by omega)]
        simp

theorem run_forIn_unit {α : Type} {f : α → PUnit → Sem (ForInStep PUnit)} {w : World} : ∀ (l : List α), (∀ x ∈ l, (f x PUnit.unit).run P w = .ok (ForInStep.yield PUnit.unit) w) → (forIn l PUnit.unit f).run P w = .ok PUnit.unit w
  | [], _ => by simp
  | x :: l, h => by
    simp only [List.forIn_cons, Sem.run_bind, h x (by simp), Result.andThen_ok]
    exact run_forIn_unit l fun y hy => h y (by simp [hy])

theorem checkKey_ok : ∀ (n : Nat) (t : TypeId) (l : List CK) (d : Nat), okEq P n t = some l → n ≤ d → KeyAt P d t
  | 0, _, _, _, h, _ => by cases h
  | n + 1, t, l, d, h, hd => by
    intro w a em ha hs
    obtain ⟨d, rfl⟩ : ∃ k, d = k + 1 := ⟨d - 1, by omega⟩
    have h0 := h
    simp only [okEq] at h
    cases hu : P.underlying t with
    | none => simp [hu] at h
    | some u =>
      have one : isAggB P t = false → ∃ p, sca p = true ∧ valOf P t a = p := fun hz => by
        have h1 := okEq_one h0 hz
        rw [h1] at ha
        match a, ha with
        | [p], _ => exact ⟨p, by simpa using hs, by simp [valOf, hz]⟩
      have hall : ∀ off c, ((a.drop off).take c).all sca = true := fun off c => by
        simp only [List.all_eq_true] at hs ⊢
        exact fun x hx => hs x (List.mem_of_mem_drop (List.mem_of_mem_take hx))
      cases u <;> simp only [hu, reduceCtorEq] at h
      case bool =>
        obtain ⟨p, e1, e2⟩ := one (by simp [isAggB, hu])
        rw [e2]; cases p <;> simp [sca] at e1 <;> simp [Instr.checkKey, run_underlying hu]
      case int k =>
        obtain ⟨p, e1, e2⟩ := one (by simp [isAggB, hu])
        rw [e2]; cases p <;> simp [sca] at e1 <;> simp [Instr.checkKey, run_underlying hu]
      case string =>
        obtain ⟨p, e1, e2⟩ := one (by simp [isAggB, hu])
        rw [e2]; cases p <;> simp [sca] at e1 <;> simp [Instr.checkKey, run_underlying hu]
      case array len e =>
        have hz : isAggB P t = true := by simp [isAggB, hu]
        cases h1 : okEq P n e with
        | none => simp [h1] at h
        | some k =>
          simp only [h1] at h
          split at h <;> simp only [Option.some.injEq, reduceCtorEq] at h
          rename_i h2
          obtain ⟨ud, hue⟩ := okEq_und h1
          obtain ⟨i, hi, hsz⟩ := info_of_und hue
          have ih := checkKey_ok n e k d h1 (by omega)
          simp only [valOf, hz, if_true, Instr.checkKey, Sem.run_bind, run_underlying hu, Result.andThen_ok]
          rw [Std.Legacy.Range.forIn_eq_forIn_range']
          simp only [Std.Legacy.Range.size, Nat.sub_zero, Nat.add_one_sub_one, Nat.div_one]
          rw [run_forIn_unit _ fun j hj => ?_]
          · rfl
          · have hj' : j < len := by simpa using hj
            have hle : j * P.cellsOf e + P.cellsOf e ≤ len * P.cellsOf e := by
              rw [← Nat.succ_mul]; exact Nat.mul_le_mul_right _ (by omega)
            have lc : ((a.drop (j * P.cellsOf e)).take (P.cellsOf e)).length = P.cellsOf e := by simp [ha, h2]; omega
            have p1 := run_part_ok hue w a.toArray (j * P.cellsOf e) _ rfl (by simpa using lc) (okEq_one h1)
            have hszr : (sizeOf e).run P w = .ok (P.cellsOf e) w := by simp [sizeOf, typeInfo, hi, hsz]
            simp only [Sem.run_bind, hszr, Result.andThen_ok, p1]
            rw [ih w _ em lc (hall _ _)]
            rfl
      case struct fs =>
        have hz : isAggB P t = true := by simp [isAggB, hu]
        split at h
        case isFalse => cases h
        have hmem := okFs_mem _ _ _ _ _ h
        have hlen : ∀ (fs : List Field) (off n' : Nat) (l : List CK), okFs P (okEq P n) off fs n' = some l → ∀ f ∈ fs, f.offset + P.cellsOf f.type ≤ n' := by
          intro fs
          induction fs with
          | nil => intro _ _ _ _ f hf; cases hf
          | cons g gs ihg =>
            intro off n' l h f hf
            have hl := okFs_len _ (fun t l ht => okEq_len n t l ht) _ _ _ _ h
            simp only [okFs] at h
            split at h
            case isFalse => cases h
            rename_i h12
            cases h1 : okEq P n g.type with
            | none => simp [h1] at h
            | some a => cases h2 : okFs P (okEq P n) (off + P.cellsOf g.type) gs n' with
              | none => simp [h1, h2] at h
              | some b =>
                rcases List.mem_cons.1 hf with rfl | hf
                · have := okFs_len _ (fun t l ht => okEq_len n t l ht) _ _ _ _ h2
                  omega
                · exact ihg _ _ _ h2 f hf
        simp only [valOf, hz, if_true, Instr.checkKey, Sem.run_bind, run_underlying hu, Result.andThen_ok]
        rw [← Array.forIn_toList, run_forIn_unit _ fun f hf => ?_]
        · rfl
        · obtain ⟨k, hk⟩ := (hmem f hf).2.1
          obtain ⟨ud, hue⟩ := okEq_und hk
          have lc : ((a.drop f.offset).take (P.cellsOf f.type)).length = P.cellsOf f.type := by
            have := hlen _ _ _ _ h f hf
            simp [ha]; omega
          have p1 := run_part_ok hue w a.toArray f.offset _ rfl (by simpa using lc) (okEq_one hk)
          simp only [(hmem f hf).1, ne_eq, not_false_eq_true, if_true, Sem.run_bind, p1, Result.andThen_ok]
          rw [checkKey_ok n f.type k d hk (by omega) w _ em lc (hall _ _)]
          rfl

end
end Go.Cl

/- Operations of the clean machine that read, and that make or write rows of cells; each with what it says of the model's operation. -/
namespace Go.Cl
noncomputable section
variable {P : Program} {r : Ren} {s : CS} {w : World}

/-- What the clean machine knows of a type. -/
structure TI where
  u : TypeDesc
  size : Nat
  bytes : Nat
  zero : Option Value
  agg : Bool
  eq : Option (List CK)

def zeroOk (z : Value) (n : Nat) : Bool := constOk z && z.cells.size == n && z.cells.toList.all (fun v => v.oneCell' && cst v)
structure TOk (P : Program) (t : TypeId) (i : TI) : Prop where
  und : P.underlying t = some i.u
  info : ∃ j, P.info? t = some j ∧ j.size = i.size ∧ j.bytes = i.bytes ∧ (∀ z, i.zero = some z → j.zero = some z)
  agg : i.agg = isAggB P t
  eq : ∀ l, i.eq = some l → ∃ n, n ≤ 10000 ∧ n ≤ P.depth ∧ okEq P n t = some l
  zero : ∀ z, i.zero = some z → zeroOk z i.size = true

theorem TOk.run_und {t : TypeId} {i : TI} (h : TOk P t i) : (underlying t).run P w = .ok i.u w := run_underlying h.und w
theorem TOk.run_size {t : TypeId} {i : TI} (h : TOk P t i) : (sizeOf t).run P w = .ok i.size w := by
  obtain ⟨j, h1, h2, _⟩ := h.info
  simp [sizeOf, typeInfo, h1, h2]
theorem TOk.run_agg {t : TypeId} {i : TI} (h : TOk P t i) : (isAgg t).run P w = .ok i.agg w := by rw [h.agg]; exact run_isAgg h.und w
theorem TOk.run_zero {t : TypeId} {i : TI} {z : Value} (h : TOk P t i) (hz : i.zero = some z) : (zeroValue t).run P w = .ok z w := by
  obtain ⟨j, h1, _, _, h2⟩ := h.info
  simp [zeroValue, typeInfo, h1, h2 z hz]
theorem TOk.cells {t : TypeId} {i : TI} (h : TOk P t i) : P.cellsOf t = i.size := by
  obtain ⟨j, h1, h2, _⟩ := h.info
  simp [Program.cellsOf, h1, h2]
theorem cells_vr {v v' : Value} (h : VR r v v') : VL r v.cells.toList v'.cells.toList := by
  cases v <;> first
    | (obtain ⟨cs', rfl, hc⟩ := VR.agg_iff.1 h; exact hc)
    | (cases h <;> exact ⟨by constructor <;> assumption, trivial⟩)
    | (obtain ⟨cs', rfl, hc⟩ := VR.tuple_iff.1 h; exact ⟨VR.tuple_iff.2 ⟨cs', rfl, hc⟩, trivial⟩)
    | (cases h <;> refine ⟨?_, trivial⟩ <;> first | (exact .func _ _ _ _ _ (by assumption) (by assumption) (by assumption) (by assumption)) | (exact .yield (by assumption)))

/-- A variable is read. -/
def ld (s : CS) (i : TI) : Value → Option Value
  | .pointer (some ⟨a, off, none⟩) => match s.h.get a with
    | some (.cells c _ _) => if i.agg then
        let ys := (c.drop off).take i.size
        if ys.length = i.size then some (.agg ys.toArray) else none
      else c[off]?
    | _ => none
  | _ => none

theorem ld_inv {i : TI} {p v : Value} (h : ld s i p = some v) : ∃ a off c m sz, p = .pointer (some ⟨a, off, none⟩) ∧ s.h.get a = some (.cells c m sz) ∧
    (if i.agg then off + i.size ≤ c.length ∧ v = .agg ((c.drop off).take i.size).toArray ∨ i.size = 0 ∧ v = .agg #[] else c[off]? = some v) := by
  unfold ld at h
  split at h
  · rename_i a off
    split at h
    · rename_i c m sz hc
      refine ⟨a, off, c, m, sz, rfl, hc, ?_⟩
      split at h
      · rename_i hi
        simp only [hi, if_true]
        dsimp only at h
        split at h
        · rename_i hl
          simp only [Option.some.injEq] at h
          simp at hl
          by_cases h0 : i.size = 0
          · right; exact ⟨h0, by rw [← h]; simp [h0]⟩
          · left; exact ⟨by omega, h.symm⟩
        · cases h
      · rename_i hi
        simpa [hi] using h
    · cases h
  · cases h

theorem ld_ok (hR : R P r s w) {t : TypeId} {i : TI} (ht : TOk P t i) {p p' v : Value} (hp : VR r p p') (h : ld s i p = some v) : ∃ v', (Instr.loadAt t p').run P w = .ok v' w ∧ VR r v v' := by
  obtain ⟨a, off, c, m, sz, rfl, hc, hv⟩ := ld_inv h
  cases hp with
  | @ptr _ l _ hr =>
    simp only [Instr.loadAt, Instr.sureAddr, loadVar, Sem.run_bind, Sem.run_pure, Result.andThen_ok, ht.run_agg]
    cases hi : i.agg with
    | true =>
      simp only [hi, if_true, Sem.run_bind, ht.run_size, Result.andThen_ok, Sem.run_pure]
      simp only [hi, if_true] at hv
      rcases hv with ⟨hl, rfl⟩ | ⟨h0, rfl⟩
      · obtain ⟨ys, h1, h2⟩ := load_ok (P := P) hR hc hr hl
        rw [h2]
        exact ⟨_, rfl, VR.agg_iff.2 ⟨_, rfl, by simpa using h1⟩⟩
      · rw [h0]
        exact ⟨.agg #[], rfl, VR.agg_iff.2 ⟨_, rfl, trivial⟩⟩
    | false =>
      simp only [hi, Bool.false_eq_true, if_false] at hv ⊢
      obtain ⟨v', h1, h2⟩ := load1_ok (P := P) hR hc hr hv
      exact ⟨v', h2, h1⟩

/-- A variable is written. -/
def stv (s : CS) (i : TI) (v : Value) : Value → Option CS
  | .pointer (some ⟨a, off, none⟩) => match s.h.get a with
    | some (.cells c m sz) =>
      let vs := v.cells.toList
      if m ≠ .ro ∧ vs.length = i.size ∧ vs.all (·.oneCell') = true ∧ off + vs.length ≤ c.length then
        some ⟨s.h.set a (.cells (c.take off ++ vs ++ c.drop (off + vs.length)) m sz), s.nx, s.up⟩
      else none
    | _ => none
  | _ => none
theorem stv_ok (hR : R P r s w) {t : TypeId} {i : TI} (ht : TOk P t i) {p p' v v' : Value} {s' : CS} (hp : VR r p p') (hv : VR r v v') (h : stv s i v p = some s') :
    ∃ w', (Instr.storeAt t p' v').run P w = .ok () w' ∧ R P r s' w' ∧ Step r s w r s' w' := by
  unfold stv at h
  split at h
  · rename_i a off
    split at h
    · rename_i c m sz hc
      dsimp only at h
      split at h
      · rename_i hx
        obtain ⟨h1, h2, h3, h4⟩ := hx
        simp only [Option.some.injEq] at h
        subst h
        cases hp with
        | @ptr _ l _ hr =>
          have hcv := cells_vr hv
          have hsz : v'.cells.size = i.size := by rw [← h2, ← Array.length_toList, hcv.length]
          obtain ⟨w', g1, g2, g3⟩ := store_ok (P := P) hR hc hr h1 h4 hcv h3
          refine ⟨w', ?_, g2, g3⟩
          simp only [Instr.storeAt, Instr.sureAddr, storeVar, Sem.run_bind, Sem.run_pure, Result.andThen_ok, ht.run_size, hsz, ne_eq, not_true_eq_false, if_false]
          exact g1
      · cases h
    · cases h
  · cases h

/-- A new row of cells. -/
def newc (s : CS) (c : List Value) : Value × CS := (.pointer (some ⟨s.nx, 0, none⟩), ⟨s.h.set s.nx (.cells c .shut 0), s.up, s.up + 1⟩)
theorem newrow_ok (hR : R P r s w) (t : TypeId) {c c' : List Value} (hc : VL r c c') (m : CMode) (e sz : Nat) (hm : m = .shut → c'.length = c.length ∧ e = c.length) (x : List Value) (he : c.length ≤ e ∧ e = (c' ++ x).length) :
    ∃ w' l, (newRow t (c' ++ x).toArray).run P w = .ok ⟨l.b, 0, none⟩ w' ∧ l = ⟨w.heap.size, 0, e, sz⟩ ∧ R P (r.put s.nx l) ⟨s.h.set s.nx (.cells c m sz), s.up, s.up + 1⟩ w' ∧ Step r s w (r.put s.nx l) ⟨s.h.set s.nx (.cells c m sz), s.up, s.up + 1⟩ w' := by
  have hl := hc.length
  refine ⟨{ w with heap := w.heap.push (.cells (c' ++ x).toArray t) }, ⟨w.heap.size, 0, e, sz⟩, by simp [newRow], rfl, ?_⟩
  refine R.alloc hR (by simp) (fun k hk => by simp [Array.getElem?_push, show k ≠ w.heap.size by omega]) (Nat.le_refl _) (by simp) ?_ ⟨rfl, rfl, rfl⟩
  refine ⟨(c' ++ x).toArray, t, (0, 0), by simp, by simp; exact he.1, by simp [he.2], ?_, fun _ => rfl, fun h => by simp [(hm h).2], rfl⟩
  have : ((c' ++ x).toArray.toList.drop 0).take c.length = c' := by simp [hl]
  rw [this]; exact hc.mono (hR.put_mono _)

theorem newc_ok (hR : R P r s w) (t : TypeId) {c c' : List Value} (hc : VL r c c') : ∃ v' r' w', (newRow t c'.toArray).run P w = .ok v' w' ∧ VR r' (newc s c).1 (.pointer (some v')) ∧ R P r' (newc s c).2 w' ∧ Step r s w r' (newc s c).2 w' := by
  obtain ⟨w', l, h1, h2, h3, h4⟩ := newrow_ok (P := P) hR t hc .shut c.length 0 (fun _ => ⟨hc.length, rfl⟩) [] ⟨Nat.le_refl _, by simp [hc.length]⟩
  refine ⟨_, _, w', by simpa using h1, ?_, h3, h4⟩
  have := VR.ptr (r := r.put s.nx l) (a := s.nx) (l := l) 0 (Ren.put_same _ _ _)
  simpa [newc, h2] using this

/-- Parts are filled in. -/
theorem fill_ok {place : Nat → Option (Nat × Nat)} : ∀ (ps ps' : List (Nat × Value)) (c c' : Array Value) (res : Array Value), ps'.length = ps.length → (∀ (k : Nat) (p p' : Nat × Value), ps[k]? = some p → ps'[k]? = some p' → p'.1 = p.1 ∧ VR r p.2 p'.2) → VL r c.toList c'.toList →
    Instr.fill place c ps = some res → ∃ res', Instr.fill place c' ps' = some res' ∧ VL r res.toList res'.toList
  | [], [], c, c', res, _, _, hc, h => by simp [Instr.fill] at h; subst h; exact ⟨c', rfl, hc⟩
  | (k, v) :: ps, (k', v') :: ps', c, c', res, hl, hp, hc, h => by
    obtain ⟨e1, e2⟩ := hp 0 _ _ rfl rfl
    simp only at e1 e2
    subst e1
    simp only [Instr.fill] at h ⊢
    cases hk : place k' with
    | none => simp [hk] at h
    | some os =>
      obtain ⟨off, size⟩ := os
      simp only [hk] at h ⊢
      have hcv := cells_vr e2
      have hlv : v'.cells.size = v.cells.size := by simpa using hcv.length
      have hlc : c'.size = c.size := by simpa using hc.length
      rw [hlv, hlc]
      split at h
      · cases h
      · rename_i hx
        rw [if_neg hx]
        refine fill_ok ps ps' _ _ res (by simpa using hl) (fun j p p' h1 h2 => hp (j + 1) p p' (by simpa using h1) (by simpa using h2)) ?_ h
        have key : ∀ (xs ys : List Value) (n : Nat) (a b : Array Value), VL r xs ys → VL r a.toList b.toList →
            VL r ((xs.zipIdx n).foldl (fun cs (c, j) => cs.setIfInBounds (off + j) c) a).toList ((ys.zipIdx n).foldl (fun cs (c, j) => cs.setIfInBounds (off + j) c) b).toList := by
          intro xs
          induction xs with
          | nil => intro ys n a b h1 h2; cases ys with | nil => simpa using h2 | cons _ _ => exact h1.elim
          | cons x xs ih =>
            intro ys n a b h1 h2
            cases ys with
            | nil => exact h1.elim
            | cons y ys =>
              simp only [List.zipIdx_cons, List.foldl_cons]
              exact ih ys _ _ _ h1.2 (by simp only [Array.toList_setIfInBounds]; exact h2.set _ h1.1)
        have e : ∀ (v : Value) (a : Array Value), v.cells.zipIdx.foldl (fun cs (c, j) => cs.setIfInBounds (off + j) c) a = (v.cells.toList.zipIdx 0).foldl (fun cs (c, j) => cs.setIfInBounds (off + j) c) a := by
          intro v a
          rw [← Array.foldl_toList, Array.toList_zipIdx]
        rw [e, e]
        exact key _ _ 0 _ _ hcv hc
  | [], _ :: _, _, _, _, hl, _, _, _ => by simp at hl
  | _ :: _, [], _, _, _, hl, _, _, _ => by simp at hl

end
end Go.Cl

/- Operations on values: parts, addresses, slices, arithmetic, comparison; each with what it says of the model's operation. -/
namespace Go.Cl
noncomputable section
variable {P : Program} {r : Ren} {s : CS} {w : World}

/-- An operation of the model comes to what the clean machine says. -/
def VOk (P : Program) (r : Ren) (s : CS) (w : World) (sem : Sem Value) (v : Value) (s' : CS) : Prop :=
  ∃ v' r' w', sem.run P w = .ok v' w' ∧ VR r' v v' ∧ R P r' s' w' ∧ Step r s w r' s' w'
/-- The same of one that leaves memory alone. -/
def POk (P : Program) (r : Ren) (w : World) (sem : Sem Value) (v : Value) : Prop := ∃ v', sem.run P w = .ok v' w ∧ VR r v v'
theorem POk.vok {sem : Sem Value} {v : Value} (h : POk P r w sem v) (hR : R P r s w) : VOk P r s w sem v s :=
  let ⟨v', h1, h2⟩ := h; ⟨v', r, w, h1, h2, hR, Step.refl _ _ _⟩

def cPart (i : TI) (cs : List Value) (off : Nat) : Option Value :=
  if i.agg then
    let ys := (cs.drop off).take i.size
    if ys.length = i.size then some (.agg ys.toArray) else none
  else cs[off]?
theorem cPart_ok {t : TypeId} {i : TI} (ht : TOk P t i) {cs cs' : Array Value} {off : Nat} {v : Value} (hc : VL r cs.toList cs'.toList) (h : cPart i cs.toList off = some v) : POk P r w (part t cs' off) v := by
  unfold cPart at h
  simp only [POk, part, Sem.run_bind, ht.run_agg, Result.andThen_ok]
  cases hi : i.agg with
  | true =>
    simp only [hi, if_true] at h
    split at h
    · simp only [Option.some.injEq] at h
      subst h
      simp only [if_true, Sem.run_bind, ht.run_size, Result.andThen_ok, Sem.run_pure]
      refine ⟨_, rfl, VR.agg_iff.2 ⟨_, rfl, ?_⟩⟩
      simp only [Array.toList_extract, List.extract, Nat.add_sub_cancel_left]
      exact (hc.drop off).take i.size
    · cases h
  | false =>
    simp only [hi, Bool.false_eq_true, if_false] at h ⊢
    obtain ⟨y, hy, hv⟩ := hc.get h
    rw [Array.getElem?_toList] at hy
    simp only [hy]
    exact ⟨y, rfl, hv⟩

variable (tt : Nat → Option TI)

def cField (t : TypeId) (x : Value) (f : Nat) : Option Value :=
  match tt t, x with
  | some ⟨.struct fs, _, _, _, _, _⟩, .agg cs => match fs[f]? with
    | some fd => match tt fd.type with
      | some i => cPart i cs.toList fd.offset
      | none => none
    | none => none
  | _, _ => none
def cIndex (t : TypeId) (x ix : Value) : Option Value :=
  match tt t, x, ix with
  | some ⟨.array len e, _, _, _, _, _⟩, .agg cs, .int _ n => match tt e with
    | some i => if 0 ≤ n ∧ n < len then cPart i cs.toList (n.toNat * i.size) else none
    | none => none
  | some ⟨.string, _, _, _, _, _⟩, .string b, .int _ n => if 0 ≤ n then match b[n.toNat]? with
      | some c => some (.int .u8 c.toNat)
      | none => none
    else none
  | _, _, _ => none
def cFieldAddr (t : TypeId) (x : Value) (f : Nat) : Option Value :=
  match tt t, x with
  | some ⟨.struct fs, _, _, _, _, _⟩, .pointer (some ⟨a, off, none⟩) => match fs[f]? with
    | some fd => match tt fd.type with
      | some i => if i.size = 0 then none else some (.pointer (some ⟨a, off + fd.offset, none⟩))
      | none => none
    | none => none
  | _, _ => none
def cIndexAddr (t : TypeId) (x ix : Value) : Option Value :=
  match tt t, x, ix with
  | some ⟨.array len e, _, _, _, _, _⟩, .pointer (some ⟨a, off, none⟩), .int _ n => match tt e with
    | some i => if 0 ≤ n ∧ n < len then some (.pointer (some ⟨a, off + n.toNat * i.size, none⟩)) else none
    | none => none
  | some ⟨.slice e, _, _, _, _, _⟩, .slice (some ⟨a, off, none⟩) len _, .int _ n => match tt e with
    | some i => if 0 ≤ n ∧ n < len then some (.pointer (some ⟨a, off + n.toNat * i.size, none⟩)) else none
    | none => none
  | _, _, _ => none
variable {tt}

theorem cField_ok (hT : ∀ t i, tt t = some i → TOk P t i) {t : TypeId} {x x' v : Value} {f : Nat} (hx : VR r x x') (h : cField tt t x f = some v) : POk P r w (Instr.field t x' f) v := by
  unfold cField at h
  split at h
  · rename_i fs _ _ _ _ _ cs ht
    obtain ⟨cs', rfl, hc⟩ := VR.agg_iff.1 hx
    split at h
    · rename_i fd hf
      split at h
      · rename_i i hi
        have hu := (hT _ _ ht).run_und (w := w)
        simp only at hu
        obtain ⟨v', h1, h2⟩ := cPart_ok (w := w) (hT _ _ hi) hc h
        exact ⟨v', by simp [Instr.field, hu, hf, asAgg, h1], h2⟩
      · cases h
    · cases h
  · cases h

theorem cIndex_ok (hT : ∀ t i, tt t = some i → TOk P t i) {t : TypeId} {x x' ix ix' v : Value} (hx : VR r x x') (hi : VR r ix ix') (h : cIndex tt t x ix = some v) : POk P r w (Instr.index t x' ix') v := by
  unfold cIndex at h
  split at h
  · rename_i len e _ _ _ _ _ cs k n ht
    obtain ⟨cs', rfl, hc⟩ := VR.agg_iff.1 hx
    cases hi
    split at h
    · rename_i i hi
      split at h
      · rename_i hn
        have hu := (hT _ _ ht).run_und (w := w)
        simp only at hu
        obtain ⟨v', h1, h2⟩ := cPart_ok (w := w) (hT _ _ hi) hc h
        exact ⟨v', by simp [Instr.index, asIntOf, hu, hn, (hT _ _ hi).run_size, h1], h2⟩
      · cases h
    · cases h
  · rename_i b k n ht
    cases hx; cases hi
    split at h
    · rename_i hn
      split at h
      · rename_i c hc
        simp only [Option.some.injEq] at h
        subst h
        have hu := (hT _ _ ht).run_und (w := w)
        simp only at hu
        exact ⟨_, by simp [Instr.index, asIntOf, hu, hn, hc], .int _ _⟩
      · cases h
    · cases h
  · cases h

theorem cFieldAddr_ok (hT : ∀ t i, tt t = some i → TOk P t i) {t : TypeId} {x x' v : Value} {f : Nat} (hx : VR r x x') (h : cFieldAddr tt t x f = some v) : POk P r w (Instr.fieldAt t x' f) v := by
  unfold cFieldAddr at h
  split at h
  · rename_i fs _ _ _ _ _ a off ht
    split at h
    · rename_i fd hf
      split at h
      · rename_i i hi
        split at h
        · cases h
        · rename_i hz
          simp only [Option.some.injEq] at h
          subst h
          have hu := (hT _ _ ht).run_und (w := w)
          simp only at hu
          cases hx with
          | @ptr _ l _ hr =>
            refine ⟨_, by simp [Instr.fieldAt, hu, hf, Instr.sureAddr, fieldPlace, (hT _ _ hi).run_size, hz, add_mk]; rfl, ?_⟩
            rw [Nat.add_assoc]; exact .ptr _ hr
      · cases h
    · cases h
  · cases h

theorem cIndexAddr_ok (hT : ∀ t i, tt t = some i → TOk P t i) {t : TypeId} {x x' ix ix' v : Value} (hx : VR r x x') (hi : VR r ix ix') (h : cIndexAddr tt t x ix = some v) : POk P r w (Instr.indexAt t x' ix') v := by
  unfold cIndexAddr at h
  split at h
  · rename_i len e _ _ _ _ _ a off k n ht
    cases hi
    split at h
    · rename_i i hi
      split at h
      · rename_i hn
        simp only [Option.some.injEq] at h
        subst h
        have hu := (hT _ _ ht).run_und (w := w)
        simp only at hu
        cases hx with
        | @ptr _ l _ hr =>
          refine ⟨_, by simp [Instr.indexAt, asIntOf, hu, Instr.sureAddr, hn, (hT _ _ hi).run_size, add_mk]; rfl, ?_⟩
          rw [Nat.add_assoc]; exact .ptr _ hr
      · cases h
    · cases h
  · rename_i e _ _ _ _ _ a off len cap k n ht
    cases hi
    split at h
    · rename_i i hi
      split at h
      · rename_i hn
        simp only [Option.some.injEq] at h
        subst h
        have hu := (hT _ _ ht).run_und (w := w)
        simp only at hu
        have fin : ∀ {l : Loc} (p : Addr) (c : Nat), r a = some l → (p = ⟨l.b, l.o + off, none⟩) → POk P r w (Instr.indexAt t (.slice (some p) len c) (.int k n)) (.pointer (some ⟨a, off + n.toNat * i.size, none⟩)) := by
          rintro l p c hr rfl
          refine ⟨_, by simp [Instr.indexAt, asIntOf, hu, hn, (hT _ _ hi).run_size, add_mk]; rfl, ?_⟩
          rw [Nat.add_assoc]; exact .ptr _ hr
        cases hx with
        | slice _ _ _ p hr hp hl hc => exact fin p _ hr (hp (by omega))
        | sliceU _ _ c p hr hp he hl hz => exact fin p _ hr (hp (by omega))
      · cases h
    · cases h
  · cases h

end
end Go.Cl

/- Slicing, building, arithmetic, comparisons of the clean machine. -/
namespace Go.Cl
noncomputable section
variable {P : Program} {r : Ren} {s : CS} {w : World}
variable (tt : Nat → Option TI)

/-- A bound of a slice expression: none given, or a number in range. -/
def cBound (x : Option Value) (dflt top : Nat) : Option Nat :=
  match x with
  | none => some dflt
  | some (.int _ n) => if 0 ≤ n ∧ n ≤ top then some n.toNat else none
  | some _ => none
/-- low, high, max, of a length and a known capacity. -/
def cBounds (len cap : Nat) (lo hi mx : Option Value) : Option (Nat × Nat × Nat) :=
  match cBound mx cap cap with
  | none => none
  | some m => match (if mx.isSome && hi.isNone then none else cBound hi len m) with
    | none => none
    | some h => match cBound lo 0 h with
      | none => none
      | some l => some (l, h, m)
def cSlice (s : CS) (t : TypeId) (x : Value) (lo hi mx : Option Value) : Option Value :=
  match tt t, x with
  | some ⟨.string, _, _, _, _, _⟩, .string b => if mx.isSome then none else match cBounds b.size b.size lo hi none with
    | some (l, h, _) => some (.string (b.extract l h))
    | none => none
  | some ⟨.slice e, _, _, _, _, _⟩, .slice none 0 0 => match tt e with
    | none => none
    | some _ => match cBounds 0 0 lo hi mx with
      | some _ => some (.slice none 0 0)
      | none => none
  | some ⟨.slice e, _, _, _, _, _⟩, .slice (some ⟨a, off, none⟩) len cap => match tt e with
    | none => none
    | some i =>
      if cap < big then match cBounds len cap lo hi mx with
        | some (l, h, m) => some (.slice (some ⟨a, off + l * i.size, none⟩) (h - l) (m - l))
        | none => none
      else if cap = big then
        match cBounds len len lo hi mx with
        | some (l, h, m) => if mx.isSome then if m - l < big then some (.slice (some ⟨a, off + l * i.size, none⟩) (h - l) (m - l)) else none else
            match s.h.get a with
            | some (.cells _ _ sz) => if sz = i.size then some (.slice (some ⟨a, off + l * i.size, none⟩) (h - l) big) else none
            | _ => none
        | none => none
      else none
  | some ⟨.array n e, _, _, _, _, _⟩, .pointer (some ⟨a, off, none⟩) => match tt e with
    | none => none
    | some i => match cBounds n n lo hi mx with
      | some (l, h, m) => if n < big then some (.slice (some ⟨a, off + l * i.size, none⟩) (h - l) (m - l)) else none
      | none => none
  | _, _ => none
variable {tt}

def OR1 (r : Ren) : Option Value → Option Value → Prop
  | none, none => True
  | some x, some y => VR r x y
  | _, _ => False
theorem cBound_ok {x x' : Option Value} {dflt top n : Nat} (hx : OR1 r x x') (h : cBound x dflt top = some n) :
    (x = none ∧ x' = none ∧ n = dflt) ∨ (∃ k y, x = some y ∧ x' = some (.int k n) ∧ n ≤ top ∧ ∀ code w top', n ≤ top' → (Instr.sliceBound (.int k n) top' code).run P w = .ok n w) := by
  unfold cBound at h
  split at h
  · cases x' with
    | none => simp at h; exact .inl ⟨rfl, rfl, h.symm⟩
    | some _ => exact hx.elim
  · rename_i k n'
    split at h
    · rename_i hn
      simp only [Option.some.injEq] at h
      cases x' with
      | none => exact hx.elim
      | some y =>
        cases hx
        right
        have e : n' = (n : Int) := by omega
        subst e
        exact ⟨k, _, rfl, rfl, by omega, fun code w top' ht => by simp [Instr.sliceBound, asIntOf]; omega⟩
    · cases h
  · cases h

/-- The model's bounds, at a capacity that is at least the one that the clean machine knows. -/
theorem cBounds_ok {len cap cap' : Nat} {lo hi mx lo' hi' mx' : Option Value} (hl : OR1 r lo lo') (hh : OR1 r hi hi') (hm : OR1 r mx mx') {l h m : Nat} (hb : cBounds len cap lo hi mx = some (l, h, m)) (hlc : len ≤ cap) (isS : Bool) (hcc : cap ≤ cap') :
    (Instr.sliceBounds isS len cap' lo' hi' mx').run P w = .ok (l, h, if mx.isSome then m else cap') w ∧ l ≤ h ∧ h ≤ m ∧ m ≤ cap ∧ (mx = none → m = cap) := by
  unfold cBounds at hb
  cases h1 : cBound mx cap cap with
  | none => simp [h1] at hb
  | some m1 =>
    simp only [h1] at hb
    cases h2 : (if (mx.isSome && hi.isNone) = true then none else cBound hi len m1) with
    | none => rw [h2] at hb; cases hb
    | some h' =>
      rw [h2] at hb
      dsimp only at hb
      cases h3 : cBound lo 0 h' with
      | none => simp [h3] at hb
      | some l' =>
        simp only [h3, Option.some.injEq, Prod.mk.injEq] at hb
        obtain ⟨rfl, rfl, rfl⟩ := hb
        split at h2
        · cases h2
        · rename_i hno
          rcases cBound_ok (P := P) hm h1 with ⟨rfl, rfl, rfl⟩ | ⟨km, ym, rfl, rfl, em1, em2⟩
          · rcases cBound_ok (P := P) hh h2 with ⟨rfl, rfl, rfl⟩ | ⟨kh, yh, rfl, rfl, eh1, eh2⟩
            · rcases cBound_ok (P := P) hl h3 with ⟨rfl, rfl, rfl⟩ | ⟨kl, yl, rfl, rfl, el1, el2⟩
              · exact ⟨by simp [Instr.sliceBounds], Nat.zero_le _, hlc, Nat.le_refl _, fun _ => rfl⟩
              · exact ⟨by simp [Instr.sliceBounds, el2 _ w _ el1], el1, hlc, Nat.le_refl _, fun _ => rfl⟩
            · rcases cBound_ok (P := P) hl h3 with ⟨rfl, rfl, rfl⟩ | ⟨kl, yl, rfl, rfl, el1, el2⟩
              · exact ⟨by simp [Instr.sliceBounds, eh2 _ w cap' (by omega)], Nat.zero_le _, eh1, Nat.le_refl _, fun _ => rfl⟩
              · exact ⟨by simp [Instr.sliceBounds, eh2 _ w cap' (by omega), el2 _ w _ el1], el1, eh1, Nat.le_refl _, fun _ => rfl⟩
          · rcases cBound_ok (P := P) hh h2 with ⟨rfl, rfl, rfl⟩ | ⟨kh, yh, rfl, rfl, eh1, eh2⟩
            · simp at hno
            · rcases cBound_ok (P := P) hl h3 with ⟨rfl, rfl, rfl⟩ | ⟨kl, yl, rfl, rfl, el1, el2⟩
              · exact ⟨by simp [Instr.sliceBounds, em2 _ w cap' (by omega), eh2 _ w m1 eh1], Nat.zero_le _, eh1, em1, fun h => by cases h⟩
              · exact ⟨by simp [Instr.sliceBounds, em2 _ w cap' (by omega), eh2 _ w m1 eh1, el2 _ w _ el1], el1, eh1, em1, fun h => by cases h⟩

theorem cSlice_ok (hT : ∀ t i, tt t = some i → TOk P t i) (hR : R P r s w) {t : TypeId} {x x' v : Value} {lo hi mx lo' hi' mx' : Option Value} (hx : VR r x x') (hl : OR1 r lo lo') (hh : OR1 r hi hi') (hm : OR1 r mx mx') (h : cSlice tt s t x lo hi mx = some v) :
    POk P r w (Instr.sliceAt t x' lo' hi' mx') v := by
  have emx : ∀ {m cap : Nat}, (mx = none → m = cap) → (if mx.isSome then m else cap) = m := fun {m cap} h => by cases mx with | none => simp [h rfl] | some _ => simp
  unfold cSlice at h
  split at h
  · rename_i b ht
    cases hx
    have hu := (hT _ _ ht).run_und (w := w)
    simp only at hu
    split at h
    · cases h
    · rename_i hmx
      have : mx = none := by cases mx with | none => rfl | some _ => simp at hmx
      subst this
      cases mx' with
      | some _ => exact hm.elim
      | none =>
        split at h
        · rename_i l h' m hb
          simp only [Option.some.injEq] at h
          subst h
          obtain ⟨e1, _⟩ := cBounds_ok (P := P) (w := w) hl hh hm hb (Nat.le_refl _) false (Nat.le_refl _)
          exact ⟨_, by simp [Instr.sliceAt, Instr.slice, hu, e1], .string _⟩
        · cases h
  · rename_i e _ _ _ _ _ ht
    have hu := (hT _ _ ht).run_und (w := w)
    simp only at hu
    cases hx
    split at h
    · cases h
    · rename_i i hi
      have hsz := (hT _ _ hi).run_size (w := w)
      split at h
      · rename_i q hb
        obtain ⟨l, h', m⟩ := q
        simp only [Option.some.injEq] at h
        subst h
        obtain ⟨e1, e2, e3, e4, e5⟩ := cBounds_ok (P := P) (w := w) hl hh hm hb (Nat.le_refl _) true (Nat.le_refl _)
        have : l = 0 ∧ h' = 0 ∧ m = 0 := ⟨by omega, by omega, by omega⟩
        obtain ⟨rfl, rfl, rfl⟩ := this
        exact ⟨_, by simp [Instr.sliceAt, Instr.slice, hu, e1, hsz], .nilSlice⟩
      · cases h
  · rename_i e _ _ _ _ _ a off len cap _ ht
    have hu := (hT _ _ ht).run_und (w := w)
    simp only at hu
    split at h
    · cases h
    · rename_i i hi
      have hsz := (hT _ _ hi).run_size (w := w)
      split at h
      · rename_i hcap
        split at h
        · rename_i l h' m hb
          simp only [Option.some.injEq] at h
          subst h
          cases hx with
          | @slice _ k _ _ _ p hr hp hlc hc =>
            obtain ⟨e1, e2, e3, e4, e5⟩ := cBounds_ok (P := P) (w := w) hl hh hm hb hlc true (Nat.le_refl _)
            refine ⟨.slice (some (if m = l then p else p.add (l * i.size))) (h' - l) (m - l), ?_, ?_⟩
            · simp only [Instr.sliceAt, Instr.slice, hu, e1, emx e5, hsz, Sem.run_bind, Result.andThen_ok, Sem.run_pure]
              split <;> rfl
            · refine .slice _ _ _ _ hr (fun h0 => ?_) (by omega) (by omega)
              rw [if_neg (by omega), hp (by omega), add_mk, Nat.add_assoc]
          | sliceU => exact absurd hcap (by simp)
        · cases h
      · split at h
        · rename_i hn hcap
          subst hcap
          split at h
          · rename_i l h' m hb
            cases hx with
            | slice _ _ _ p hr hp hlc hc => exact absurd hc hn
            | @sliceU _ k _ _ c p hr hp he hlc hz =>
              obtain ⟨e1, e2, e3, e4, e5⟩ := cBounds_ok (P := P) (w := w) hl hh hm hb (Nat.le_refl _) true hlc
              split at h
              · rename_i hmx
                split at h
                case isFalse => cases h
                rename_i hbg
                simp only [Option.some.injEq] at h
                subst h
                simp only [hmx, if_true] at e1
                refine ⟨.slice (some (if m = l then p else p.add (l * i.size))) (h' - l) (m - l), ?_, ?_⟩
                · simp only [Instr.sliceAt, Instr.slice, hu, e1, hsz, Sem.run_bind, Result.andThen_ok, Sem.run_pure]
                  split <;> rfl
                · refine .slice _ _ _ _ hr (fun h0 => ?_) (by omega) hbg
                  rw [if_neg (by omega), hp (by omega), add_mk, Nat.add_assoc]
              · rename_i hmx
                split at h
                · rename_i cc mm sz hcell
                  split at h
                  · rename_i hsz2
                    simp only [Option.some.injEq] at h
                    subst h
                    have e6 : (if mx.isSome then m else c) = c := by simp [hmx]
                    rw [e6] at e1
                    have hk : k.sz = i.size := by
                      obtain ⟨_, _, _, _, _, _, _, _, _, g⟩ := hR.obj _ _ _ hcell hr
                      exact g.trans hsz2
                    refine ⟨.slice (some (if c = l then p else p.add (l * i.size))) (h' - l) (c - l), ?_, ?_⟩
                    · simp only [Instr.sliceAt, Instr.slice, hu, e1, hsz, Sem.run_bind, Result.andThen_ok, Sem.run_pure]
                      split <;> rfl
                    · refine .sliceU _ _ _ _ hr (fun h0 => ?_) ?_ (by omega) hz
                      · rw [if_neg (by omega), hp (by omega), add_mk, Nat.add_assoc]
                      · rw [← he, hk, Nat.sub_mul]
                        have : l * i.size ≤ c * i.size := Nat.mul_le_mul_right _ (by omega)
                        omega
                  · cases h
                · cases h
          · cases h
        · cases h
  · rename_i n e _ _ _ _ _ a off ht
    have hu := (hT _ _ ht).run_und (w := w)
    simp only at hu
    split at h
    · cases h
    · rename_i i hi
      have hsz := (hT _ _ hi).run_size (w := w)
      split at h
      · rename_i l h' m hb
        split at h
        · rename_i hbg
          simp only [Option.some.injEq] at h
          subst h
          cases hx with
          | @ptr _ k _ hr =>
            obtain ⟨e1, e2, e3, e4, e5⟩ := cBounds_ok (P := P) (w := w) hl hh hm hb (Nat.le_refl _) false (Nat.le_refl _)
            refine ⟨.slice (some (if m = l then ⟨k.b, k.o + off, none⟩ else (⟨k.b, k.o + off, none⟩ : Addr).add (l * i.size))) (h' - l) (m - l), ?_, ?_⟩
            · simp only [Instr.sliceAt, Instr.sureAddr, hu, e1, emx e5, hsz, Sem.run_bind, Result.andThen_ok, Sem.run_pure]
            · refine .slice _ _ _ _ hr (fun h0 => ?_) (by omega) (by omega)
              rw [if_neg (by omega), add_mk, Nat.add_assoc]
        · cases h
      · cases h
  · cases h

/-- Building a struct or an array by its parts. -/
def cBuild (tt : Nat → Option TI) (t : TypeId) (ps : List (Nat × Value)) : Option Value :=
  match tt t with
  | some ⟨.struct fs, _, _, some z, _, _⟩ =>
    if fs.toList.all (fun f => (tt f.type).isSome) then
      (Instr.fill (fun (i : Nat) => (fs[i]?).map fun (f : Field) => (f.offset, ((tt f.type).map (·.size)).getD 0)) z.cells ps).map .agg
    else none
  | some ⟨.array _ e, _, _, some z, _, _⟩ => match tt e with
    | some i => (Instr.fill (fun k => some (k * i.size, i.size)) z.cells ps).map .agg
    | none => none
  | _ => none

def PR (r : Ren) : List (Nat × Value) → List (Nat × Value) → Prop
  | [], [] => True
  | x :: xs, y :: ys => (y.1 = x.1 ∧ VR r x.2 y.2) ∧ PR r xs ys
  | _, _ => False
theorem PR.length : ∀ {xs ys : List (Nat × Value)}, PR r xs ys → ys.length = xs.length
  | [], [], _ => rfl
  | _ :: _, _ :: _, h => by simp [PR.length h.2]
  | [], _ :: _, h => h.elim
  | _ :: _, [], h => h.elim
theorem PR.get : ∀ {xs ys : List (Nat × Value)}, PR r xs ys → ∀ (k : Nat) (p p' : Nat × Value), xs[k]? = some p → ys[k]? = some p' → p'.1 = p.1 ∧ VR r p.2 p'.2
  | [], [], _, k, p, p', h, _ => by simp at h
  | x :: _, y :: _, h, 0, p, p', h1, h2 => by simp at h1 h2; subst h1; subst h2; exact h.1
  | _ :: _, _ :: _, h, k + 1, p, p', h1, h2 => PR.get h.2 k p p' (by simpa using h1) (by simpa using h2)
  | [], _ :: _, h, _, _, _, _, _ => h.elim
  | _ :: _, [], h, _, _, _, _, _ => h.elim

theorem zero_vl {z : Value} {n : Nat} (h : zeroOk z n = true) : VL r z.cells.toList z.cells.toList := by
  simp only [zeroOk, Bool.and_eq_true, List.all_eq_true] at h
  exact VL.of_cst (List.all_eq_true.2 fun x hx => (h.2 x hx).2)
theorem zero_vr {z : Value} {n : Nat} (h : zeroOk z n = true) : VR r z z := by
  simp only [zeroOk, Bool.and_eq_true] at h
  exact .of_const h.1.1
theorem zero_size {z : Value} {n : Nat} (h : zeroOk z n = true) : z.cells.size = n := by
  simp only [zeroOk, Bool.and_eq_true, beq_iff_eq] at h
  exact h.1.2

theorem run_mapM_list {α β : Type} {f : α → Sem β} {g : α → β} : ∀ (l : List α), (∀ x ∈ l, (f x).run P w = .ok (g x) w) → (l.mapM f).run P w = .ok (l.map g) w
  | [], _ => by simp
  | x :: l, h => by simp [List.mapM_cons, h x (by simp), run_mapM_list l fun y hy => h y (by simp [hy])]
theorem run_mapM_array {α β : Type} {f : α → Sem β} {g : α → β} (l : Array α) (h : ∀ x ∈ l.toList, (f x).run P w = .ok (g x) w) : (l.mapM f).run P w = .ok (l.map g) w := by
  rw [Array.mapM_eq_mapM_toList]
  simp only [Sem.run_map, run_mapM_list l.toList h, Result.andThen_ok]
  congr 1
  simp [← Array.toList_map]

theorem cBuild_ok {tt : Nat → Option TI} (hT : ∀ t i, tt t = some i → TOk P t i) {t : TypeId} {ps ps' : List (Nat × Value)} {v : Value} (hp : PR r ps ps') (h : cBuild tt t ps = some v) : POk P r w (Instr.build t ps'.toArray) v := by
  unfold cBuild at h
  split at h
  · rename_i fs sz by_ z ag eq ht
    have hu := (hT _ _ ht).run_und (w := w)
    simp only at hu
    have hz := (hT _ _ ht).zero z rfl
    split at h
    · rename_i hall
      simp only [Option.map_eq_some_iff] at h
      obtain ⟨c, hc, rfl⟩ := h
      obtain ⟨c', hc', hcc⟩ := fill_ok ps ps' _ _ c hp.length hp.get (zero_vl hz) hc
      have hm : (fs.mapM fun (f : Field) => do pure (f.offset, ← sizeOf f.type) : Sem _).run P w = .ok (fs.map fun (f : Field) => (f.offset, ((tt f.type).map (·.size)).getD 0)) w := by
        refine run_mapM_array fs fun f hf => ?_
        simp only [List.all_eq_true] at hall
        obtain ⟨i, hi⟩ := Option.isSome_iff_exists.1 (hall f hf)
        simp [(hT _ _ hi).run_size, hi]
      refine ⟨.agg c', ?_, VR.agg_iff.2 ⟨c', rfl, hcc⟩⟩
      simp only [Instr.build, Sem.run_bind, (hT _ _ ht).run_zero rfl, Result.andThen_ok, hu, hm]
      have e : (fun x => (fs.map fun (f : Field) => (f.offset, ((tt f.type).map (·.size)).getD 0))[x]?) = fun (i : Nat) => (fs[i]?).map fun (f : Field) => (f.offset, ((tt f.type).map (·.size)).getD 0) := by
        funext i; simp
      rw [e, hc']
      rfl
    · cases h
  · rename_i n e sz by_ z ag eq ht
    have hu := (hT _ _ ht).run_und (w := w)
    simp only at hu
    have hz := (hT _ _ ht).zero z rfl
    split at h
    · rename_i i hi
      simp only [Option.map_eq_some_iff] at h
      obtain ⟨c, hc, rfl⟩ := h
      obtain ⟨c', hc', hcc⟩ := fill_ok ps ps' _ _ c hp.length hp.get (zero_vl hz) hc
      refine ⟨.agg c', ?_, VR.agg_iff.2 ⟨c', rfl, hcc⟩⟩
      simp only [Instr.build, Sem.run_bind, (hT _ _ ht).run_zero rfl, Result.andThen_ok, hu, (hT _ _ hi).run_size, hc', Sem.run_pure]
    · cases h
  · cases h

/-- So many zero values, one behind the other. -/
def rep (n : Nat) (z : List Value) : List Value := (List.replicate n z).flatten
theorem rep_length (n : Nat) (z : List Value) : (rep n z).length = n * z.length := by simp [rep, List.length_flatten]
theorem rep_get (z : List Value) : ∀ (n i : Nat), i < n * z.length → (rep n z)[i]? = z[i % z.length]?
  | 0, i, h => by omega
  | n + 1, i, h => by
    have e : rep (n + 1) z = z ++ rep n z := by simp [rep, List.replicate_succ]
    rw [e, List.getElem?_append]
    split
    · rename_i hi; rw [Nat.mod_eq_of_lt hi]
    · rename_i hi
      rw [rep_get z n (i - z.length) (by rw [Nat.succ_mul] at h; omega), Nat.mod_eq_sub_mod (by omega : i ≥ z.length)]
theorem rep_eq (n : Nat) (z : Array Value) : ((Array.range (n * z.size)).map (z[· % z.size]!)) = (rep n z.toList).toArray := by
  rw [← Array.toList_inj]
  apply List.ext_getElem?
  intro i
  by_cases hi : i < n * z.size
  · have hz : 0 < z.size := by
      rcases Nat.eq_zero_or_pos z.size with h | h
      · simp [h] at hi
      · exact h
    have hm : i % z.size < z.size := Nat.mod_lt _ hz
    have h1 := rep_get z.toList n i (by simpa using hi)
    simp only [Array.length_toList] at h1
    rw [h1]
    simp [hi, hm]
  · have h1 := rep_length n z.toList
    simp only [Array.length_toList] at h1
    rw [List.getElem?_eq_none (by simp; omega), List.getElem?_eq_none (by simp; omega)]
theorem rep_vl {z : List Value} (h : VL r z z) : ∀ n, VL r (rep n z) (rep n z)
  | 0 => trivial
  | n + 1 => by
    have e : rep (n + 1) z = z ++ rep n z := by simp [rep, List.replicate_succ]
    rw [e]; exact h.append (rep_vl h n)

/-- A slice's literal. -/
def cBuildSlice (tt : Nat → Option TI) (s : CS) (t : TypeId) (len : Nat) (ps : List (Nat × Value)) : Option (Value × CS) :=
  match tt t with
  | some ⟨.slice e, _, _, _, _, _⟩ => match tt e with
    | some ⟨_, size, _, some z, _, _⟩ =>
      if 0 < len ∧ 0 < size ∧ len * size ≤ 16777216 ∧ len < big then match Instr.fill (fun k => some (k * size, size)) (rep len z.cells.toList).toArray ps with
        | some c => some (.slice (some ⟨s.nx, 0, none⟩) len len, (newc s c.toList).2)
        | none => none
      else if len = 0 ∧ ps.isEmpty then some (.slice (some ⟨s.nx, 0, none⟩) 0 0, (newc s []).2)
      else none
    | _ => none
  | _ => none
theorem cBuildSlice_ok {tt : Nat → Option TI} (hT : ∀ t i, tt t = some i → TOk P t i) (hR : R P r s w) {t : TypeId} {len : Nat} {ps ps' : List (Nat × Value)} {v : Value} {s' : CS} (hp : PR r ps ps') (h : cBuildSlice tt s t len ps = some (v, s')) :
    VOk P r s w (Instr.buildSlice t len ps'.toArray) v s' := by
  have slc : ∀ {v' : Addr} {r' : Ren} {c : List Value}, VR r' (newc s c).1 (.pointer (some v')) → len < big → VR r' (.slice (some ⟨s.nx, 0, none⟩) len len) (.slice (some v') len len) := fun {v' r' c} h1 hb => by
    cases h1 with
    | @ptr _ l _ hr => exact .slice 0 len len _ hr (fun _ => rfl) (Nat.le_refl _) hb
  unfold cBuildSlice at h
  split at h
  · rename_i e _ _ _ _ _ ht
    have hu := (hT _ _ ht).run_und (w := w)
    simp only at hu
    split at h
    · rename_i ue size bt z ag eq hi
      have hsz := (hT _ _ hi).run_size (w := w)
      simp only at hsz
      have hz := (hT _ _ hi).zero z rfl
      have hzs := zero_size hz
      simp only at hzs
      have hzr := (hT _ _ hi).run_zero (w := w) (z := z) rfl
      split at h
      · rename_i hx
        obtain ⟨h1, h2, h3, h4⟩ := hx
        split at h
        · rename_i c hc
          simp only [Option.some.injEq, Prod.mk.injEq] at h
          obtain ⟨rfl, rfl⟩ := h
          obtain ⟨c', hc', hcc⟩ := fill_ok ps ps' _ (rep len z.cells.toList).toArray c hp.length hp.get (rep_vl (zero_vl hz) len) hc
          obtain ⟨v', r', w', g1, g2, g3, g4⟩ := newc_ok (P := P) hR e hcc
          refine ⟨.slice (some v') len len, r', w', ?_, slc g2 h4, g3, g4⟩
          have hne : len * size ≠ 0 := by
            have := Nat.mul_pos h1 h2; omega
          have hrep := rep_eq len z.cells
          rw [hzs] at hrep
          simp only [Instr.buildSlice, Sem.run_bind, hu, Result.andThen_ok, hsz]
          rw [if_neg (by omega), if_neg hne]
          simp only [Sem.run_bind, hzr, Result.andThen_ok, Sem.run_pure, hzs, hrep, hc']
          rw [g1]
          rfl
        · cases h
      · split at h
        · rename_i hx
          obtain ⟨rfl, hps⟩ := hx
          have : ps = [] := by simpa using hps
          subst this
          cases ps' with
          | cons _ _ => exact hp.elim
          | nil =>
            simp only [Option.some.injEq, Prod.mk.injEq] at h
            obtain ⟨rfl, rfl⟩ := h
            obtain ⟨v', r', w', g1, g2, g3, g4⟩ := newc_ok (P := P) hR e (c := []) (c' := []) trivial
            refine ⟨.slice (some v') 0 0, r', w', ?_, slc g2 (by decide), g3, g4⟩
            have ha : ∀ a : Array Value, (Array.range 0).map (fun x => a[x % a.size]!) = #[] := fun a => by
              simp
            simp only [Instr.buildSlice, Sem.run_bind, hu, Result.andThen_ok, hsz]
            simp only [Nat.zero_mul, Nat.not_lt_zero, gt_iff_lt, if_false, if_true, ha, Instr.fill, Sem.run_bind, Sem.run_pure, Result.andThen_ok]
            simp only [g1, Result.andThen_ok]
        · cases h
    · cases h
  · cases h

end
end Go.Cl

/- Comparison, arithmetic, conversion, interfaces, 'make' of slices and maps, of the clean machine. -/
namespace Go.Cl
noncomputable section
variable {P : Program} {r : Ren} {s : CS} {w : World} {tt : Nat → Option TI}

/-- What a computation of the model comes to that asks nothing. -/
def pureRun {α : Type} : Sem α → Option α
  | .pure a => some a
  | _ => none
theorem pureRun_ok {α : Type} {x : Sem α} {a : α} (h : pureRun x = some a) : x.run P w = .ok a w := by
  cases x <;> simp [pureRun] at h
  subst h; rfl

def cEq (tt : Nat → Option TI) (s : CS) (t : TypeId) (k : Bool) (x y : Value) : Option Bool :=
  match tt t with
  | none => none
  | some i => match i.u, x, y with
    | .bool, .bool a, .bool b => some (a == b)
    | .pointer _, .pointer none, .pointer b => some b.isNone
    | .pointer _, .pointer (some _), .pointer none => some false
    | .pointer e, .pointer (some ⟨a, oa, none⟩), .pointer (some ⟨b, ob, none⟩) => match tt e with
      | some ie => if ie.size = 0 then none else if a = b then some (oa == ob) else match s.h.get a, s.h.get b with
        | some (.cells _ ma _), some (.cells _ mb _) => if ma ≠ .ro ∧ mb ≠ .ro then some false else none
        | _, _ => none
      | none => none
    | .slice _, .slice none _ _, .slice b _ _ => some b.isNone
    | .slice _, .slice (some _) _ _, .slice none _ _ => some false
    | .map _ _, .map none, .map b => some b.isNone
    | .map _ _, .map (some _), .map none => some false
    | .func _ _ _, .nilFunc, .nilFunc => some true
    | .func _ _ _, .nilFunc, .func _ _ _ => some false
    | .func _ _ _, .func _ _ _, .nilFunc => some false
    | .interface _, .nilIface, .nilIface => if k then some true else none
    | .interface _, .nilIface, .iface _ _ => some false
    | .interface _, .iface _ _, .nilIface => some false
    | .struct _, .agg xs, .agg ys => match i.eq with
      | some l => if xs.size = i.size ∧ ys.size = i.size then cmpL l xs.toList ys.toList else none
      | none => none
    | .array _ _, .agg xs, .agg ys => match i.eq with
      | some l => if xs.size = i.size ∧ ys.size = i.size then cmpL l xs.toList ys.toList else none
      | none => none
    | _, _, _ => none

theorem cmp1_sca {k : CK} {x y : Value} {b : Bool} (h : cmp1 k x y = some b) : sca x = true ∧ sca y = true := by
  cases k <;> cases x <;> simp [cmp1] at h <;> cases y <;> simp at h <;> exact ⟨rfl, rfl⟩
theorem cmpL_vr : ∀ {l : List CK} {a b a' b' : List Value} {x : Bool}, VL r a a' → VL r b b' → cmpL l a b = some x → cmpL l a' b' = some x
  | [], [], [], [], [], _, _, _, h => h
  | k :: l, x :: a, y :: b, x' :: a', y' :: b', z, h1, h2, h => by
    simp only [cmpL] at h ⊢
    cases hc : cmp1 k x y with
    | none => simp [hc] at h
    | some c =>
      obtain ⟨sx, sy⟩ := cmp1_sca hc
      rw [VR.eq_of_sca sx h1.1, VR.eq_of_sca sy h2.1, hc]
      rw [hc] at h
      cases c with
      | true => exact cmpL_vr h1.2 h2.2 h
      | false => exact h
  | [], [], [], _ :: _, _, _, h, _, _ => h.elim
  | [], [], [], [], _ :: _, _, _, h, _ => h.elim
  | [], [], _ :: _, _, _, _, _, _, h => by simp [cmpL] at h
  | [], _ :: _, _, _, _, _, _, _, h => by simp [cmpL] at h
  | _ :: _, [], _, _, _, _, _, _, h => by simp [cmpL] at h
  | _ :: _, _ :: _, [], _, _, _, _, _, h => by simp [cmpL] at h
  | _ :: _, _ :: _, _ :: _, [], _, _, h, _, _ => h.elim
  | _ :: _, _ :: _, _ :: _, _ :: _, [], _, _, h, _ => h.elim

theorem agg_eq_ok {t : TypeId} {i : TI} (ht : TOk P t i) (hagg : isAggB P t = true) {l : List CK} (he : i.eq = some l) {xs ys xs' ys' : Array Value} (hx : VL r xs.toList xs'.toList) (hy : VL r ys.toList ys'.toList) {b : Bool}
    (h1 : xs.size = i.size) (h2 : ys.size = i.size) (h : cmpL l xs.toList ys.toList = some b) :
    (Op.equal t (.agg xs') (.agg ys')).run P w = .ok b w ∧ ∀ op xo yo, (eqGuard op t xo yo (.agg xs') (.agg ys')).run P w = .ok () w := by
  obtain ⟨n, hn, hd, hk⟩ := ht.eq l he
  have e := equalIn_ok n t l 10000 hk hn w xs'.toList ys'.toList b (by rw [ht.cells, hx.length]; simpa using h1) (by rw [ht.cells, hy.length]; simpa using h2) (cmpL_vr hx hy h)
  simp only [valOf, hagg, if_true, Array.toArray_toList] at e
  exact ⟨e, fun op xo yo => run_eqGuard_agg w op t xo yo xs' ys' (okEq_guard n t l P.depth hk hd)⟩

theorem eqS {t : TypeId} {x y : Value} {b : Bool} (h : ∀ d, (Op.equalIn (d + 1) t x y).run P w = .ok b w) : (Op.equal t x y).run P w = .ok b w := h 9999

theorem ptr_same {t e : TypeId} {j : TypeInfo} (hu : P.underlying t = some (.pointer e)) (hj : P.info? e = some j) (hz : j.size ≠ 0) (b o1 o2 : Nat) :
    (Op.equal t (.pointer (some ⟨b, o1, none⟩)) (.pointer (some ⟨b, o2, none⟩))).run P w = .ok (o1 == o2) w := by
  refine eqS fun d => ?_
  have : ((⟨b, o1, none⟩ : Addr) == ⟨b, o2, none⟩) = (o1 == o2) := by
    rw [Bool.eq_iff_iff, beq_iff_eq, beq_iff_eq, Addr.mk.injEq]; simp
  simp only [Op.equalIn, Sem.run_bind, run_underlying hu, Result.andThen_ok, sizeOf, typeInfo, run_program, hj, Sem.run_pure]
  rw [if_pos hz]
  simp only [sameAddr, beq_self_eq_true, if_true, this]
  rfl
theorem ptr_diff {t e : TypeId} {j : TypeInfo} (hu : P.underlying t = some (.pointer e)) (hj : P.info? e = some j) (hz : j.size ≠ 0) {a b oa ob : Nat} {ca cb : Array Value} {ta tb : TypeId} (hab : a ≠ b)
    (ha : w.heap[a]? = some (.cells ca ta (0, 0))) (hb : w.heap[b]? = some (.cells cb tb (0, 0))) :
    (Op.equal t (.pointer (some ⟨a, oa, none⟩)) (.pointer (some ⟨b, ob, none⟩))).run P w = .ok false w := by
  refine eqS fun d => ?_
  have hbe : (a == b) = false := by simpa using hab
  simp only [Op.equalIn, Sem.run_bind, run_underlying hu, Result.andThen_ok, sizeOf, typeInfo, run_program, hj, Sem.run_pure]
  rw [if_pos hz]
  simp [sameAddr, hbe, World.frozen?, ha, hb, noView, viewAt, World.shape?, mayBeOne, stringish]

set_option maxHeartbeats 1600000 in
theorem cEq_ok (hT : ∀ t i, tt t = some i → TOk P t i) (hR : R P r s w) {t : TypeId} {k : Bool} {x y x' y' : Value} {b : Bool} (hx : VR r x x') (hy : VR r y y') (h : cEq tt s t k x y = some b) :
    (Op.equal t x' y').run P w = .ok b w ∧ ∀ op xo yo, (k = true → (match xo with | .const _ => true | _ => false) = true ∨ (match yo with | .const _ => true | _ => false) = true) → (eqGuard op t xo yo x' y').run P w = .ok () w := by
  unfold cEq at h
  split at h
  · cases h
  · rename_i i ht
    have hu := (hT _ _ ht).und
    have easy : ∀ op xo yo, (match x', y' with | .nilIface, .nilIface => false | .agg _, .agg _ => false | _, _ => true) = true → (eqGuard op t xo yo x' y').run P w = .ok () w := fun op xo yo hq => by
      cases op <;> try rfl
      all_goals (cases x' <;> cases y' <;> first | rfl | (simp at hq))
    split at h <;> rename_i hiu
    · cases hx; cases hy
      simp only [Option.some.injEq] at h
      rw [hiu] at hu
      exact ⟨eqS fun d => by simp [Op.equalIn, run_underlying hu, h], fun op xo yo _ => easy op xo yo rfl⟩
    · simp only [Option.some.injEq] at h
      rw [hiu] at hu
      cases hx
      cases hy <;> (refine ⟨eqS fun d => by simp [Op.equalIn, run_underlying hu, ← h], fun op xo yo _ => easy op xo yo rfl⟩)
    · simp only [Option.some.injEq] at h
      rw [hiu] at hu
      cases hx; cases hy
      refine ⟨eqS fun d => by simp [Op.equalIn, run_underlying hu, ← h], fun op xo yo _ => easy op xo yo rfl⟩
    · rename_i e a oa b' ob
      rw [hiu] at hu
      cases hx with
      | @ptr _ la _ ha =>
        cases hy with
        | @ptr _ lb _ hb =>
          split at h
          · rename_i ie hie
            obtain ⟨j, hj, hjs, _⟩ := (hT _ _ hie).info
            split at h
            · cases h
            · rename_i hz
              split at h
              · rename_i hab
                subst hab
                rw [ha] at hb; cases hb
                simp only [Option.some.injEq] at h
                refine ⟨?_, fun op xo yo _ => easy op xo yo rfl⟩
                have e := ptr_same (w := w) hu hj (by rw [hjs]; exact hz) la.b (la.o + oa) (la.o + ob)
                rw [e, ← h]
                congr 1
                rw [Bool.eq_iff_iff, beq_iff_eq, beq_iff_eq]; omega
              · rename_i hab
                split at h
                · rename_i ca ma sa cb mb sb ga gb
                  split at h
                  · rename_i hm
                    simp only [Option.some.injEq] at h
                    subst h
                    obtain ⟨xa, ta, fa, e1, _, _, _, fe1, _⟩ := hR.obj _ _ _ ga ha
                    obtain ⟨xb, tb, fb, e2, _, _, _, fe2, _⟩ := hR.obj _ _ _ gb hb
                    rw [fe1 hm.1] at e1
                    rw [fe2 hm.2] at e2
                    have hne : la.b ≠ lb.b := fun hh => by
                      have := (hR.excl _ _ _ _ _ _ ga gb ha hb hab hh).1
                      cases ma <;> first | (cases this; done) | exact absurd rfl hm.1
                    refine ⟨?_, fun op xo yo _ => easy op xo yo rfl⟩
                    exact ptr_diff hu hj (by rw [hjs]; exact hz) hne e1 e2
                  · cases h
                · cases h
          · cases h
    · simp only [Option.some.injEq] at h
      rw [hiu] at hu
      cases hx
      cases hy <;> (refine ⟨eqS fun d => by simp [Op.equalIn, run_underlying hu, ← h], fun op xo yo _ => easy op xo yo rfl⟩)
    · simp only [Option.some.injEq] at h
      rw [hiu] at hu
      cases hy
      cases hx <;> (refine ⟨eqS fun d => by simp [Op.equalIn, run_underlying hu, ← h], fun op xo yo _ => easy op xo yo rfl⟩)
    · simp only [Option.some.injEq] at h
      rw [hiu] at hu
      cases hx
      cases hy <;> (refine ⟨eqS fun d => by simp [Op.equalIn, run_underlying hu, ← h], fun op xo yo _ => easy op xo yo rfl⟩)
    · simp only [Option.some.injEq] at h
      rw [hiu] at hu
      cases hy
      cases hx <;> (refine ⟨eqS fun d => by simp [Op.equalIn, run_underlying hu, ← h], fun op xo yo _ => easy op xo yo rfl⟩)
    · simp only [Option.some.injEq] at h
      rw [hiu] at hu
      cases hx; cases hy
      exact ⟨eqS fun d => by simp [Op.equalIn, run_underlying hu, ← h], fun op xo yo _ => easy op xo yo rfl⟩
    · simp only [Option.some.injEq] at h
      rw [hiu] at hu
      cases hx
      cases hy <;> (refine ⟨eqS fun d => by simp [Op.equalIn, run_underlying hu, ← h], fun op xo yo _ => easy op xo yo rfl⟩)
    · simp only [Option.some.injEq] at h
      rw [hiu] at hu
      cases hy
      cases hx <;> (refine ⟨eqS fun d => by simp [Op.equalIn, run_underlying hu, ← h], fun op xo yo _ => easy op xo yo rfl⟩)
    · rw [hiu] at hu
      cases hx; cases hy
      split at h
      · rename_i hk
        simp only [Option.some.injEq] at h
        refine ⟨eqS fun d => by simp [Op.equalIn, run_underlying hu, ← h], fun op xo yo hc => ?_⟩
        have hc := hc hk
        cases op <;> first | rfl | (cases xo <;> cases yo <;> simp at hc <;> rfl)
      · cases h
    · simp only [Option.some.injEq] at h
      rw [hiu] at hu
      cases hx
      cases hy
      refine ⟨eqS fun d => by simp [Op.equalIn, run_underlying hu, ← h], fun op xo yo _ => easy op xo yo rfl⟩
    · simp only [Option.some.injEq] at h
      rw [hiu] at hu
      cases hy
      cases hx
      refine ⟨eqS fun d => by simp [Op.equalIn, run_underlying hu, ← h], fun op xo yo _ => easy op xo yo rfl⟩
    · obtain ⟨xs', rfl, hxs⟩ := VR.agg_iff.1 hx
      obtain ⟨ys', rfl, hys⟩ := VR.agg_iff.1 hy
      rw [hiu] at hu
      split at h
      · rename_i l he
        split at h
        · rename_i hsz
          obtain ⟨e1, e2⟩ := agg_eq_ok (w := w) (hT _ _ ht) (by simp [isAggB, hu]) he hxs hys hsz.1 hsz.2 h
          exact ⟨e1, fun op xo yo _ => e2 op xo yo⟩
        · cases h
      · cases h
    · obtain ⟨xs', rfl, hxs⟩ := VR.agg_iff.1 hx
      obtain ⟨ys', rfl, hys⟩ := VR.agg_iff.1 hy
      rw [hiu] at hu
      split at h
      · rename_i l he
        split at h
        · rename_i hsz
          obtain ⟨e1, e2⟩ := agg_eq_ok (w := w) (hT _ _ ht) (by simp [isAggB, hu]) he hxs hys hsz.1 hsz.2 h
          exact ⟨e1, fun op xo yo _ => e2 op xo yo⟩
        · cases h
      · cases h
    · cases h

end
end Go.Cl

/- Arithmetic, conversion, interfaces, 'make' of slices and maps, variables' boxes, of the clean machine. -/
namespace Go.Cl
noncomputable section
variable {P : Program} {r : Ren} {s : CS} {w : World} {tt : Nat → Option TI}

def isConst : Operand → Bool
  | .const _ => true
  | _ => false
/-- A result without an address in it. -/
def scaOnly : Option Value → Option Value
  | some v => if sca v then some v else none
  | none => none
theorem scaOnly_some {o : Option Value} {v : Value} (h : scaOnly o = some v) : o = some v ∧ sca v = true := by
  unfold scaOnly at h
  split at h
  · split at h
    · simp only [Option.some.injEq] at h; subst h; exact ⟨rfl, by assumption⟩
    · cases h
  · cases h
/-- Wrapping, without powers. -/
def wrapF : IntKind → Int → Int
  | .u8, n => n % 256
  | .u16, n => n % 65536
  | .u32, n => n % 4294967296
  | .u64, n => n % 18446744073709551616
  | .i64, n => if -9223372036854775808 ≤ n then (if n < 9223372036854775808 then n else IntKind.i64.wrap n) else IntKind.i64.wrap n
  | k, n => k.wrap n
theorem wrapF_eq (k : IntKind) (n : Int) : wrapF k n = k.wrap n := by
  cases k <;> simp only [wrapF]
  · split
    · split
      · unfold IntKind.wrap IntKind.bits IntKind.signed
        dsimp only
        split
        · rename_i hh; simp at hh; omega
        · rename_i hh; simp at hh; omega
      · rfl
    · rfl
  all_goals (unfold IntKind.wrap IntKind.bits IntKind.signed; simp)
def bitsF (f : Nat → Nat → Nat) (top : Int) (k : IntKind) (a b : Int) : Option Value :=
  if 0 ≤ a then if 0 ≤ b then if a < top then if b < top then some (.int k (Int.ofNat (f a.toNat b.toNat))) else none else none else none else none
def topF : IntKind → Option Int
  | .u8 => some 256
  | .u32 => some 4294967296
  | .u64 => some 18446744073709551616
  | _ => none
def cBits (op : BinOp) (k : IntKind) (a b : Int) : Option Value := match topF k with
  | some t => (match op with
    | .and => bitsF Nat.land t k a b
    | .or => bitsF Nat.lor t k a b
    | .xor => bitsF Nat.xor t k a b
    | _ => none)
  | none => none
def cShift (op : BinOp) (k : IntKind) (a b : Int) : Option Value :=
  if 0 ≤ a then if 0 ≤ b then
    (match op with
    | .shl => some (.int k (wrapF k (Int.ofNat (a.toNat * 2 ^ (min b.toNat k.bits)))))
    | .shr => some (.int k (Int.ofNat (a.toNat / 2 ^ (min b.toNat k.bits))))
    | _ => none)
  else none else none
def cArith (op : BinOp) (k : IntKind) (a b : Int) : Option Value := match op with
  | .add => some (.int k (wrapF k (a + b)))
  | .sub => some (.int k (wrapF k (a - b)))
  | .mul => some (.int k (wrapF k (a * b)))
  | .eql => some (.bool (a == b))
  | .neq => some (.bool (a != b))
  | .lss => some (.bool (a < b))
  | .leq => some (.bool (a ≤ b))
  | .gtr => some (.bool (a > b))
  | .geq => some (.bool (a ≥ b))
  | op => cBits op k a b
/-- Two integers, the common ways first. -/
def cInt (op : BinOp) (t : TypeId) (k : IntKind) (a : Int) (k' : IntKind) (b : Int) : Option Value :=
  match op with
  | .shl => (match cShift .shl k a b with
    | some v => some v
    | none => scaOnly (pureRun (binOp .shl t (.int k a) (.int k' b))))
  | .shr => (match cShift .shr k a b with
    | some v => some v
    | none => scaOnly (pureRun (binOp .shr t (.int k a) (.int k' b))))
  | op => if k = k' then (match cArith op k a b with
      | some v => some v
      | none => scaOnly (pureRun (binOp op t (.int k a) (.int k' b)))) else none
theorem bitsF_some {f : Nat → Nat → Nat} {top : Int} {k : IntKind} {a b : Int} {v : Value} (h : bitsF f top k a b = some v) : 0 ≤ a ∧ a < top ∧ 0 ≤ b ∧ b < top ∧ v = .int k (Int.ofNat (f a.toNat b.toNat)) := by
  unfold bitsF at h
  repeat' split at h
  all_goals first | cases h; done | (simp only [Option.some.injEq] at h; exact ⟨by assumption, by assumption, by assumption, by assumption, h.symm⟩)
theorem wrap_small {k : IntKind} {t : Int} (ht : topF k = some t) {n : Nat} (hn : (n : Int) < t) : k.wrap (n : Int) = n := by
  rw [← wrapF_eq]
  cases k <;> simp [topF] at ht <;> subst ht <;> simp only [wrapF] <;> omega
theorem cBits_ok {op : BinOp} {k : IntKind} {a b : Int} {v : Value} (h : cBits op k a b = some v) : (Op.intBits op k a b).run P w = .ok v w ∧ sca v = true := by
  unfold cBits at h
  split at h
  case h_2 => cases h
  rename_i t ht
  have hb : ((2 ^ k.bits : Nat) : Int) = t := by cases k <;> simp [topF] at ht <;> subst ht <;> rfl
  have key : ∀ x : Int, 0 ≤ x → x < t → (BitVec.ofInt k.bits x).toNat = x.toNat := fun x h0 h1 => by
    rw [BitVec.toNat_ofInt, Int.emod_eq_of_lt h0 (by rw [hb]; exact h1)]
  have lt2 : ∀ x : Int, 0 ≤ x → x < t → x.toNat < 2 ^ k.bits := fun x h0 h1 => by have := hb; omega
  split at h
  · obtain ⟨h1, h2, h3, h4, rfl⟩ := bitsF_some h
    refine ⟨?_, rfl⟩
    simp only [Op.intBits, BitVec.toNat_and, key a h1 h2, key b h3 h4, Sem.run_pure]
    have : ((a.toNat &&& b.toNat : Nat) : Int) < t := by rw [← hb]; exact_mod_cast Nat.and_lt_two_pow a.toNat (lt2 b h3 h4)
    rw [wrap_small ht this]; rfl
  · obtain ⟨h1, h2, h3, h4, rfl⟩ := bitsF_some h
    refine ⟨?_, rfl⟩
    simp only [Op.intBits, BitVec.toNat_or, key a h1 h2, key b h3 h4, Sem.run_pure]
    have : ((a.toNat ||| b.toNat : Nat) : Int) < t := by rw [← hb]; exact_mod_cast Nat.or_lt_two_pow (lt2 a h1 h2) (lt2 b h3 h4)
    rw [wrap_small ht this]; rfl
  · obtain ⟨h1, h2, h3, h4, rfl⟩ := bitsF_some h
    refine ⟨?_, rfl⟩
    simp only [Op.intBits, BitVec.toNat_xor, key a h1 h2, key b h3 h4, Sem.run_pure]
    have : ((a.toNat ^^^ b.toNat : Nat) : Int) < t := by rw [← hb]; exact_mod_cast Nat.xor_lt_two_pow (lt2 a h1 h2) (lt2 b h3 h4)
    rw [wrap_small ht this]; rfl
  · cases h
theorem cShift_ok {op : BinOp} {k k' : IntKind} {a b : Int} {v : Value} (h : cShift op k a b = some v) : (Op.shift op k a k' b).run P w = .ok v w ∧ sca v = true := by
  unfold cShift at h
  split at h
  case isFalse => cases h
  rename_i h0
  split at h
  case isFalse => cases h
  rename_i h1
  have hb : ¬ b < 0 := by omega
  have ha : ((a.toNat : Nat) : Int) = a := by omega
  split at h
  · simp only [Option.some.injEq] at h; subst h
    refine ⟨?_, rfl⟩
    simp only [Op.shift, hb, if_false, Sem.run_pure, wrapF_eq]
    congr 3
    simp [ha]
  · simp only [Option.some.injEq] at h; subst h
    refine ⟨?_, rfl⟩
    simp only [Op.shift, hb, if_false, Sem.run_pure]
    congr 2
    rw [Int.fdiv_eq_ediv_of_nonneg _ (by exact_mod_cast Nat.zero_le _)]
    conv => lhs; rw [← ha]
    simp
  · cases h
theorem cInt_ok {op : BinOp} {t : TypeId} {k k' : IntKind} {a b : Int} {v : Value} (h : cInt op t k a k' b = some v) : (binOp op t (.int k a) (.int k' b)).run P w = .ok v w ∧ sca v = true := by
  unfold cInt at h
  split at h
  · split at h
    · rename_i u hu
      simp only [Option.some.injEq] at h; subst h
      exact cShift_ok (k' := k') hu
    · obtain ⟨h1, h2⟩ := scaOnly_some h
      exact ⟨pureRun_ok h1, h2⟩
  · split at h
    · rename_i u hu
      simp only [Option.some.injEq] at h; subst h
      exact cShift_ok (k' := k') hu
    · obtain ⟨h1, h2⟩ := scaOnly_some h
      exact ⟨pureRun_ok h1, h2⟩
  · split at h
    case isFalse => cases h
    rename_i op n1 n2 hk
    subst hk
    split at h
    · rename_i u hu
      simp only [Option.some.injEq] at h; subst h
      unfold cArith at hu
      split at hu
      all_goals first
        | (simp only [Option.some.injEq] at hu; subst hu; exact ⟨by simp [binOp, Op.intArith, Op.intCmp, wrapF_eq], rfl⟩)
        | skip
      have := cBits_ok (P := P) (w := w) hu
      refine ⟨?_, this.2⟩
      unfold cBits at hu
      split at hu
      case h_2 => cases hu
      split at hu
      · simpa [binOp] using this.1
      · simpa [binOp] using this.1
      · simpa [binOp] using this.1
      · cases hu
    · obtain ⟨h1, h2⟩ := scaOnly_some h
      exact ⟨pureRun_ok h1, h2⟩
def cBin (tt : Nat → Option TI) (s : CS) (op : BinOp) (t : TypeId) (k : Bool) (x y : Value) : Option Value :=
  match x, y with
  | .int a m, .int b n => cInt op t a m b n
  | .string a, .string b => scaOnly (pureRun (binOp op t (.string a) (.string b)))
  | x, y => match op with
    | .eql => (cEq tt s t k x y).map .bool
    | .neq => (cEq tt s t k x y).map fun b => .bool !b
    | _ => none
theorem eqGuard_str {op : BinOp} {t : TypeId} {x y : Operand} {a b : ByteArray} : eqGuard op t x y (.string a) (.string b) = pure () := by cases op <;> rfl
theorem binOp_eql {t : TypeId} {x y : Value} (hi : ∀ a m b n, ¬ (x = .int a m ∧ y = .int b n)) (hs : ∀ a b, ¬ (x = .string a ∧ y = .string b)) (hf : ∀ k a l b, ¬ (x = .float k a ∧ y = .float l b)) :
    binOp .eql t x y = (do pure (.bool (← Op.equal t x y))) ∧ binOp .neq t x y = (do pure (.bool (!(← Op.equal t x y)))) ∨ (∃ k a b l c d, x = .complex k a b ∧ y = .complex l c d) := by
  cases x <;> cases y <;> first
    | (left; exact ⟨rfl, rfl⟩)
    | (exact absurd ⟨rfl, rfl⟩ (hi _ _ _ _))
    | (exact absurd ⟨rfl, rfl⟩ (hs _ _))
    | (exact absurd ⟨rfl, rfl⟩ (hf _ _ _ _))
    | (right; exact ⟨_, _, _, _, _, _, rfl, rfl⟩)
theorem cEq_no {t : TypeId} {k : Bool} {x y : Value} {b : Bool} (h : cEq tt s t k x y = some b) : (∀ a m b n, ¬ (x = .int a m ∧ y = .int b n)) ∧ (∀ a b, ¬ (x = .string a ∧ y = .string b)) ∧ (∀ k a l b, ¬ (x = .float k a ∧ y = .float l b)) ∧ ¬ (∃ k a b l c d, x = .complex k a b ∧ y = .complex l c d) := by
  unfold cEq at h
  split at h
  · cases h
  · refine ⟨fun a m b n e => ?_, fun a b e => ?_, fun a b c d e => ?_, fun e => ?_⟩
    · rw [e.1, e.2] at h; simp at h
    · rw [e.1, e.2] at h; simp at h
    · rw [e.1, e.2] at h; simp at h
    · obtain ⟨_, _, _, _, _, _, e1, e2⟩ := e; rw [e1, e2] at h; simp at h
theorem VR.shape {x x' : Value} (h : VR r x x') : (∀ a m, x' = .int a m → x = .int a m) ∧ (∀ a, x' = .string a → x = .string a) ∧ (∀ k a, x' = .float k a → x = .float k a) ∧ (∀ k a b, x' ≠ .complex k a b) := by
  cases h <;> refine ⟨?_, ?_, ?_, ?_⟩ <;> intros <;> simp_all

theorem cBin_ok (hT : ∀ t i, tt t = some i → TOk P t i) (hR : R P r s w) {op : BinOp} {t : TypeId} {xo yo : Operand} {x y x' y' v : Value} (hx : VR r x x') (hy : VR r y y')
    (h : cBin tt s op t (isConst xo || isConst yo) x y = some v) : POk P r w (do eqGuard op t xo yo x' y'; binOp op t x' y') v := by
  unfold cBin at h
  split at h
  · cases hx; cases hy
    obtain ⟨h1, h2⟩ := cInt_ok (P := P) (w := w) h
    exact ⟨v, by simp [eqGuard_at_int, h1], .of_sca h2⟩
  · cases hx; cases hy
    obtain ⟨h1, h2⟩ := scaOnly_some h
    exact ⟨v, by simp [eqGuard_str, pureRun_ok h1], .of_sca h2⟩
  · split at h
    · simp only [Option.map_eq_some_iff] at h
      obtain ⟨b, hb, rfl⟩ := h
      obtain ⟨n1, n2, n3, n4⟩ := cEq_no hb
      obtain ⟨e1, e2⟩ := cEq_ok (w := w) hT hR hx hy hb
      have g := e2 .eql xo yo (fun hk => by cases xo <;> cases yo <;> simp_all [isConst])
      obtain ⟨a1, a2, a3, a4⟩ := hx.shape
      obtain ⟨b1, b2, b3, b4⟩ := hy.shape
      rcases binOp_eql (t := t) (x := x') (y := y') (fun a m b n e => n1 a m b n ⟨a1 _ _ e.1, b1 _ _ e.2⟩) (fun a b e => n2 a b ⟨a2 _ e.1, b2 _ e.2⟩) (fun k a l b e => n3 k a l b ⟨a3 _ _ e.1, b3 _ _ e.2⟩) with ⟨q, _⟩ | ⟨_, _, _, _, _, _, q, _⟩
      · exact ⟨.bool b, by simp [g, q, e1], .bool b⟩
      · exact absurd q (a4 _ _ _)
    · simp only [Option.map_eq_some_iff] at h
      obtain ⟨b, hb, rfl⟩ := h
      obtain ⟨n1, n2, n3, n4⟩ := cEq_no hb
      obtain ⟨e1, e2⟩ := cEq_ok (w := w) hT hR hx hy hb
      have g := e2 .neq xo yo (fun hk => by cases xo <;> cases yo <;> simp_all [isConst])
      obtain ⟨a1, a2, a3, a4⟩ := hx.shape
      obtain ⟨b1, b2, b3, b4⟩ := hy.shape
      rcases binOp_eql (t := t) (x := x') (y := y') (fun a m b n e => n1 a m b n ⟨a1 _ _ e.1, b1 _ _ e.2⟩) (fun a b e => n2 a b ⟨a2 _ e.1, b2 _ e.2⟩) (fun k a l b e => n3 k a l b ⟨a3 _ _ e.1, b3 _ _ e.2⟩) with ⟨_, q⟩ | ⟨_, _, _, _, _, _, q, _⟩
      · exact ⟨.bool !b, by simp [g, q, e1], .bool _⟩
      · exact absurd q (a4 _ _ _)
    · cases h

def cUn (op : UnOp) (x : Value) : Option Value := if sca x then scaOnly (pureRun (Op.unary op x)) else none
theorem cUn_ok {op : UnOp} {x x' v : Value} (hx : VR r x x') (h : cUn op x = some v) : POk P r w (Op.unary op x') v := by
  unfold cUn at h
  split at h
  · rename_i hs
    rw [VR.eq_of_sca hs hx]
    obtain ⟨h1, h2⟩ := scaOnly_some h
    exact ⟨v, pureRun_ok h1, .of_sca h2⟩
  · cases h

/-- The bytes of cells that hold bytes. -/
def byte1 : Value → Option UInt8
  | .int .u8 n => some (UInt8.ofNat n.toNat)
  | _ => none
def bytesOf : List Value → ByteArray → Option ByteArray
  | [], b => some b
  | c :: l, b => match byte1 c with
    | some u => bytesOf l (b.push u)
    | none => none
theorem byte1_inv {v : Value} {u : UInt8} (h : byte1 v = some u) : ∃ n, v = .int .u8 n ∧ u = UInt8.ofNat n.toNat := by
  unfold byte1 at h
  split at h
  · simp only [Option.some.injEq] at h; exact ⟨_, rfl, h.symm⟩
  · cases h
def cConv (tt : Nat → Option TI) (s : CS) (src dst : TypeId) (x : Value) : Option Value :=
  match tt src, tt dst, x with
  | some _, some ⟨.int k, _, _, _, _, _⟩, .int _ n => some (.int k (k.wrap n))
  | some ⟨.string, _, _, _, _, _⟩, some ⟨.string, _, _, _, _, _⟩, .string b => some (.string b)
  | some ⟨.slice e, _, _, _, _, _⟩, some ⟨.string, _, _, _, _, _⟩, .slice none 0 0 => match tt e with
    | some ⟨.int .u8, _, _, _, _, _⟩ => some (.string .empty)
    | _ => none
  | some ⟨.slice e, _, _, _, _, _⟩, some ⟨.string, _, _, _, _, _⟩, .slice (some ⟨a, off, none⟩) len _ => match tt e with
    | some ⟨.int .u8, _, _, _, _, _⟩ => if len = 0 then some (.string .empty) else match s.h.get a with
      | some (.cells c _ _) => if off + len ≤ c.length then (bytesOf ((c.drop off).take len) .empty).map .string else none
      | _ => none
    | _ => none
  | _, _, _ => none

theorem bytesOf_vr : ∀ {l l' : List Value} {b b' : ByteArray}, VL r l l' → bytesOf l b = some b' → bytesOf l' b = some b'
  | [], [], _, _, _, h => h
  | x :: l, y :: l', b, b', hv, h => by
    unfold bytesOf at h ⊢
    split at h
    · rename_i u hu
      obtain ⟨n, rfl, rfl⟩ := byte1_inv hu
      cases hv.1
      simp only [byte1]
      exact bytesOf_vr hv.2 h
    · cases h
  | [], _ :: _, _, _, h, _ => h.elim
  | _ :: _, [], _, _, h, _ => h.elim
theorem bytes_loop {f : Value → ByteArray → Sem (ForInStep ByteArray)} (hf : ∀ n b, (f (.int .u8 n) b).run P w = .ok (.yield (b.push (UInt8.ofNat n.toNat))) w) : ∀ (l : List Value) (b b' : ByteArray), bytesOf l b = some b' →
    (forIn l b f).run P w = .ok b' w
  | [], b, b', h => by simp [bytesOf] at h; simp [h]
  | c :: l, b, b', h => by
    unfold bytesOf at h
    split at h
    · rename_i u hu
      obtain ⟨n, rfl, rfl⟩ := byte1_inv hu
      simp only [List.forIn_cons, Sem.run_bind, hf, Result.andThen_ok]
      exact bytes_loop hf _ _ _ h
    · cases h

theorem cConv_ok (hT : ∀ t i, tt t = some i → TOk P t i) (hR : R P r s w) {src dst : TypeId} {x x' v : Value} (hx : VR r x x') (h : cConv tt s src dst x = some v) : POk P r w (convert src dst x') v := by
  unfold cConv at h
  split at h
  · rename_i i k _ _ _ _ _ q n h1 h2
    cases hx
    simp only [Option.some.injEq] at h; subst h
    have e1 := (hT _ _ h1).run_und (w := w)
    have e2 := (hT _ _ h2).run_und (w := w)
    simp only at e2
    exact ⟨_, by simp [convert, e1, e2, Conv.intToInt], .int _ _⟩
  · rename_i b h1 h2
    cases hx
    simp only [Option.some.injEq] at h; subst h
    have e1 := (hT _ _ h1).run_und (w := w)
    have e2 := (hT _ _ h2).run_und (w := w)
    simp only at e1 e2
    exact ⟨_, by simp [convert, e1, e2], .string _⟩
  · rename_i e _ _ _ _ _ _ _ _ _ _ h1 h2
    cases hx
    have e1 := (hT _ _ h1).run_und (w := w)
    have e2 := (hT _ _ h2).run_und (w := w)
    simp only at e1 e2
    split at h
    · rename_i h3
      have e3 := (hT _ _ h3).run_und (w := w)
      simp only at e3
      simp only [Option.some.injEq] at h; subst h
      exact ⟨_, by simp [convert, e1, e2, e3, Conv.bytesToString], .string _⟩
    · cases h
  · rename_i e _ _ _ _ _ _ _ _ _ _ a off len cap h1 h2
    have e1 := (hT _ _ h1).run_und (w := w)
    have e2 := (hT _ _ h2).run_und (w := w)
    simp only at e1 e2
    split at h
    · rename_i h3
      have e3 := (hT _ _ h3).run_und (w := w)
      simp only at e3
      have main : ∀ (p : Addr) (c' : Nat) (ys : List Value) (b : ByteArray), (loadCells p len).run P w = .ok ys.toArray w → bytesOf ys .empty = some b → (convert src dst (.slice (some p) len c')).run P w = .ok (.string b) w := by
        intro p c' ys b hl hb
        simp only [convert, Sem.run_bind, e1, e2, e3, Result.andThen_ok, Conv.bytesToString, hl]
        rw [← Array.forIn_toList]
        rw [bytes_loop (fun n b => by rfl) ys .empty b hb]
        rfl
      split at h
      · rename_i h0
        subst h0
        simp only [Option.some.injEq] at h; subst h
        cases hx with
        | slice _ _ _ p => exact ⟨_, main p _ [] .empty rfl rfl, .string _⟩
        | sliceU _ _ c p => exact ⟨_, main p _ [] .empty rfl rfl, .string _⟩
      · rename_i h0
        split at h
        · rename_i c m sz hc
          split at h
          · rename_i hl
            simp only [Option.map_eq_some_iff] at h
            obtain ⟨b, hb, rfl⟩ := h
            have fin : ∀ {l : Loc}, r a = some l → ∃ ys : List Value, (loadCells ⟨l.b, l.o + off, none⟩ len).run P w = .ok ys.toArray w ∧ bytesOf ys .empty = some b := fun {l} hr => by
              obtain ⟨ys, g1, g2⟩ := load_ok (P := P) hR hc hr hl
              exact ⟨ys, g2, bytesOf_vr g1 hb⟩
            cases hx with
            | slice _ _ _ p hr hp hlc hcb =>
              obtain ⟨ys, g1, g2⟩ := fin hr
              rw [← hp (by omega)] at g1
              exact ⟨_, main p _ ys b g1 g2, .string _⟩
            | sliceU _ _ cc p hr hp he hlc hz =>
              obtain ⟨ys, g1, g2⟩ := fin hr
              rw [← hp (by omega)] at g1
              exact ⟨_, main p _ ys b g1 g2, .string _⟩
          · cases h
        · cases h
    · cases h
  · cases h

def cExtract (x : Value) (i : Nat) : Option Value := match x with
  | .tuple vs => vs[i]?
  | _ => none
theorem cExtract_ok {x x' v : Value} {i : Nat} (hx : VR r x x') (h : cExtract x i = some v) : POk P r w (Instr.extract x' i) v := by
  unfold cExtract at h
  split at h
  · obtain ⟨cs', rfl, hc⟩ := VR.tuple_iff.1 hx
    obtain ⟨y, hy, hv⟩ := hc.get (i := i) (x := v) (by simpa using h)
    rw [Array.getElem?_toList] at hy
    exact ⟨y, by simp [Instr.extract, hy], hv⟩
  · cases h

def cNilCheck (x : Value) : Option Value := match x with
  | .pointer (some a) => some (.pointer (some a))
  | .func (.func f) a b => some (.func (.func f) a b)
  | .func (.yield l) a b => if a.size = 0 ∧ b.size = 0 then some (.func (.yield l) a b) else none
  | _ => none
theorem cNilCheck_ok {x x' v : Value} (hx : VR r x x') (h : cNilCheck x = some v) : VR r v x' ∧ ((∃ a, x' = .pointer (some a)) ∨ (∃ f a b, x' = .func (.func f) a b) ∨ (∃ l, x' = .func (.yield l) #[] #[])) := by
  unfold cNilCheck at h
  split at h
  · simp only [Option.some.injEq] at h; subst h
    refine ⟨hx, .inl ?_⟩
    cases hx; exact ⟨_, rfl⟩
  · simp only [Option.some.injEq] at h; subst h
    refine ⟨hx, .inr (.inl ?_)⟩
    obtain ⟨fi', ca', rfl, _⟩ := VR.func_iff.1 hx
    exact ⟨_, _, _, rfl⟩
  · split at h
    · simp only [Option.some.injEq] at h; subst h
      refine ⟨hx, .inr (.inr ?_)⟩
      cases hx; exact ⟨_, rfl⟩
    · cases h
  · cases h

def cIface (tt : Nat → Option TI) (t : TypeId) (x : Value) : Option Value := match tt t with
  | some i => (match i.u with | .interface _ => none | _ => some (.iface t x))
  | none => none
theorem cIface_ok (hT : ∀ t i, tt t = some i → TOk P t i) {t : TypeId} {x x' v : Value} (hx : VR r x x') (h : cIface tt t x = some v) : POk P r w (Instr.makeInterface t x') v := by
  unfold cIface at h
  split at h
  · rename_i i hi
    have hu := (hT _ _ hi).run_und (w := w)
    split at h
    · cases h
    · rename_i hn
      simp only [Option.some.injEq] at h; subst h
      refine ⟨.iface t x', ?_, .iface _ _ _ hx⟩
      simp only [Instr.makeInterface, Sem.run_bind, hu, Result.andThen_ok, Sem.run_pure]
  · cases h

def cAssert (tt : Nat → Option TI) (x : Value) (ty : TypeId) (ok : Bool) : Option Value := match tt ty, x with
  | some i, .iface t v => (match i.u with
    | .interface _ => none
    | _ => if t = ty then some (if ok then .tuple #[v, .bool true] else v) else if ok then i.zero.map fun z => .tuple #[z, .bool false] else none)
  | _, _ => none
theorem cAssert_ok (hT : ∀ t i, tt t = some i → TOk P t i) {x x' v : Value} {xt ty : TypeId} {ok : Bool} (hx : VR r x x') (h : cAssert tt x ty ok = some v) : POk P r w (Instr.typeAssert x' xt ty ok) v := by
  unfold cAssert at h
  split at h
  · rename_i i t u hi
    have hu := (hT _ _ hi).run_und (w := w)
    cases hx with
    | iface _ _ u' hv =>
      split at h
      · cases h
      · rename_i hn
        split at h
        · rename_i ht
          simp only [Option.some.injEq] at h; subst h
          refine ⟨if ok then .tuple #[u', .bool true] else u', ?_, ?_⟩
          · simp only [Instr.typeAssert, Sem.run_bind, hu, Result.andThen_ok]
            rw [if_pos ht]; rfl
          · cases ok
            · exact hv
            · exact VR.tuple_iff.2 ⟨_, rfl, hv, .bool _, trivial⟩
        · rename_i ht
          split at h
          · rename_i hok
            simp only [Option.map_eq_some_iff] at h
            obtain ⟨z, hz, rfl⟩ := h
            refine ⟨.tuple #[z, .bool false], ?_, VR.tuple_iff.2 ⟨_, rfl, zero_vr ((hT _ _ hi).zero z hz), .bool _, trivial⟩⟩
            simp only [Instr.typeAssert, Sem.run_bind, hu, Result.andThen_ok]
            rw [if_neg ht]
            simp [hok, (hT _ _ hi).run_zero hz]
          · cases h
  · cases h

end
end Go.Cl

