/- the clean machine's operations (2). -/
import Derived.Test.YtodagfkndlpdpaaGreatDoorMa
import Derived.TacticsIn
/- New variables, 'make', 'len', 'append', 'copy', 'clear' of the clean machine. -/
namespace Go.Cl
noncomputable section
variable {P : Program} {r : Ren} {s : CS} {w : World} {tt : Nat → Option TI}

def cBox (s : CS) (x : Value) : Value × CS := newc s x.cells.toList
theorem cBox_ok (hR : R P r s w) {t : TypeId} {x x' : Value} (hx : VR r x x') : VOk P r s w (Instr.box t x') (cBox s x).1 (cBox s x).2 := by
  obtain ⟨v', r', w', h1, h2, h3, h4⟩ := newc_ok (P := P) hR t (cells_vr hx)
  exact ⟨.pointer (some v'), r', w', by simpa [Instr.box, newVar] using by rw [show x'.cells = x'.cells.toList.toArray by simp, h1]; rfl, h2, h3, h4⟩
def cAlloc (tt : Nat → Option TI) (s : CS) (t : TypeId) : Option (Value × CS) := match tt t with
  | some i => i.zero.map fun z => newc s z.cells.toList
  | none => none
theorem cAlloc_ok (hT : ∀ t i, tt t = some i → TOk P t i) (hR : R P r s w) {t : TypeId} {v : Value} {s' : CS} (h : cAlloc tt s t = some (v, s')) : VOk P r s w (Instr.alloc t true (.tuple #[])) v s' := by
  unfold cAlloc at h
  split at h
  · rename_i i hi
    simp only [Option.map_eq_some_iff] at h
    obtain ⟨z, hz, h⟩ := h
    have hz' := (hT _ _ hi).zero z hz
    obtain ⟨v', r', w', h1, h2, h3, h4⟩ := newc_ok (P := P) hR t (zero_vl (r := r) hz')
    rw [h] at h2 h3 h4
    refine ⟨.pointer (some v'), r', w', ?_, h2, h3, h4⟩
    simp only [Instr.alloc, Sem.run_bind, (hT _ _ hi).run_zero hz, Result.andThen_ok, newVar]
    rw [show z.cells = z.cells.toList.toArray by simp, h1]
    rfl
  · cases h

def cMakeMap (tt : Nat → Option TI) (s : CS) (t : TypeId) (r : Option Value) : Option (Value × CS) := match tt t with
  | some ⟨.map k _, _, _, _, _, _⟩ => (match r with
    | none => some (.map (some s.nx), ⟨s.h.set s.nx (.map [] 0 k), s.up, s.up + 1⟩)
    | some (.int _ _) => some (.map (some s.nx), ⟨s.h.set s.nx (.map [] 0 k), s.up, s.up + 1⟩)
    | _ => none)
  | _ => none
theorem newobj_ok (hR : R P r s w) (o : CObj) (ob : Obj) (e sz : Nat) (h : OR P (r.put s.nx ⟨w.heap.size, 0, e, sz⟩) { w with heap := w.heap.push ob } ⟨w.heap.size, 0, e, sz⟩ o) :
    R P (r.put s.nx ⟨w.heap.size, 0, e, sz⟩) ⟨s.h.set s.nx o, s.up, s.up + 1⟩ { w with heap := w.heap.push ob } ∧ Step r s w (r.put s.nx ⟨w.heap.size, 0, e, sz⟩) ⟨s.h.set s.nx o, s.up, s.up + 1⟩ { w with heap := w.heap.push ob } :=
  R.alloc hR (by simp) (fun k hk => by simp [Array.getElem?_push, show k ≠ w.heap.size by omega]) (Nat.le_refl _) (by simp) h ⟨rfl, rfl, rfl⟩
theorem cMakeMap_ok (hT : ∀ t i, tt t = some i → TOk P t i) (hR : R P r s w) {t : TypeId} {x x' : Option Value} (hx : OR1 r x x') {v : Value} {s' : CS} (h : cMakeMap tt s t x = some (v, s')) : VOk P r s w (Instr.makeMap t x') v s' := by
  unfold cMakeMap at h
  split at h
  case h_2 => cases h
  rename_i k e _ _ _ _ _ ht
  have hun := (hT _ _ ht).run_und (w := w)
  simp only at hun
  obtain ⟨h3, h4⟩ := newobj_ok hR (.map [] 0 k) (.map #[] 0) 0 0 ⟨#[], by simp, trivial⟩
  have hv : VR (r.put s.nx ⟨w.heap.size, 0, 0, 0⟩) (.map (some s.nx)) (.map (some w.heap.size)) := .map (l := ⟨w.heap.size, 0, 0, 0⟩) (Ren.put_same _ _ _)
  split at h
  · simp only [Option.some.injEq, Prod.mk.injEq] at h
    obtain ⟨rfl, rfl⟩ := h
    cases x' with
    | some _ => exact hx.elim
    | none => exact ⟨_, _, _, by simp [Instr.makeMap], hv, h3, h4⟩
  · simp only [Option.some.injEq, Prod.mk.injEq] at h
    obtain ⟨rfl, rfl⟩ := h
    cases x' with
    | none => exact hx.elim
    | some _ =>
      cases hx
      exact ⟨_, _, _, by simp [Instr.makeMap, hun, asInt, asIntOf], hv, h3, h4⟩
  · cases h

def cMakeSlice (tt : Nat → Option TI) (s : CS) (t : TypeId) (len cap : Value) : Option (Value × CS) :=
  match tt t, len, cap with
  | some ⟨.slice e, _, _, _, _, _⟩, .int _ l, .int _ c => match tt e with
    | some ⟨_, size, bytes, some z, _, _⟩ =>
      if 0 ≤ l ∧ l ≤ c ∧ c < 9223372036854775808 ∧ bytes * c ≤ 281474976710656 then
        some (.slice (some ⟨s.nx, 0, none⟩) l.toNat c.toNat, (newc s (if size = 0 then [] else rep c.toNat z.cells.toList)).2)
      else none
    | _ => none
  | _, _, _ => none
theorem wrap_i64 {n : Int} (h0 : 0 ≤ n) (h1 : n < 9223372036854775808) : IntKind.i64.wrap n = n := by
  unfold IntKind.wrap IntKind.bits IntKind.signed
  dsimp only
  split
  · rename_i hh
    simp at hh
    omega
  · omega
theorem cMakeSlice_ok (hT : ∀ t i, tt t = some i → TOk P t i) (hR : R P r s w) {t : TypeId} {l l' c c' v : Value} {s' : CS} (hl : VR r l l') (hc : VR r c c') (h : cMakeSlice tt s t l c = some (v, s')) : VOk P r s w (Instr.makeSlice t l' c') v s' := by
  unfold cMakeSlice at h
  split at h
  · rename_i e _ _ _ _ _ k1 n k2 m ht
    cases hl; cases hc
    have hu := (hT _ _ ht).run_und (w := w)
    simp only at hu
    split at h
    · rename_i ue size bytes z ag eq he
      obtain ⟨j, hj, _, hjb, _⟩ := (hT _ _ he).info
      simp only at hjb
      have hz := (hT _ _ he).zero z rfl
      have hzs := zero_size hz
      simp only at hzs
      split at h
      · rename_i hx
        obtain ⟨h0, h1, h2, h3⟩ := hx
        simp only [Option.some.injEq, Prod.mk.injEq] at h
        obtain ⟨rfl, rfl⟩ := h
        have hrow : VL r (if size = 0 then [] else rep m.toNat z.cells.toList) (if size = 0 then [] else rep m.toNat z.cells.toList) := by
          split
          · trivial
          · exact rep_vl (zero_vl hz) _
        obtain ⟨v', r', w', g1, g2, g3, g4⟩ := newc_ok (P := P) hR e hrow
        refine ⟨.slice (some v') n.toNat m.toNat, r', w', ?_, ?_, g3, g4⟩
        · have hw1 := wrap_i64 h0 (by omega)
          have hw2 := wrap_i64 (by omega : 0 ≤ m) h2
          have c1 : ¬ ((bytes : Int) * m > 2 ^ 48) := by
            have : (2 : Int) ^ 48 = 281474976710656 := by decide
            omega
          have hti : (typeInfo e).run P w = .ok j w := by simp [typeInfo, hj]
          have hcond : (decide (m < 0) || decide ((bytes : Int) * m > 2 ^ 48) || decide (n < 0) || decide (n > m)) = false := by
            simp only [Bool.or_eq_false_iff, decide_eq_false_iff_not]
            exact ⟨⟨⟨by omega, c1⟩, by omega⟩, by omega⟩
          simp only [Instr.makeSlice, Sem.run_bind, hu, Result.andThen_ok, asInt, asIntOf, Sem.run_pure, hti, hjb, hw1, hw2, hcond, Bool.false_eq_true, if_false, run_askRoom, (hT _ _ he).run_size, Sem.run_ite]
          have harr : ∀ a : Array Value, (Array.range 0).map (fun x => a[x % a.size]!) = #[] := fun a => by simp
          by_cases hs0 : size = 0
          · rw [if_pos (by simp [hs0])]
            simp only [hs0, if_true] at g1
            simp only [hs0, Nat.mul_zero, harr, Result.andThen_ok]
            rw [g1]; rfl
          · by_cases hm0 : m.toNat = 0
            · rw [if_pos (by simp [hm0])]
              simp only [hs0, if_false, hm0, rep, List.replicate_zero, List.flatten_nil] at g1
              simp only [hm0, Nat.zero_mul, harr, Result.andThen_ok]
              rw [g1]; rfl
            · have hne : ¬ (m.toNat * size = 0) := fun hh => by rcases Nat.mul_eq_zero.1 hh with h | h <;> contradiction
              rw [if_neg hne]
              simp only [hs0, if_false] at g1
              have hrep := rep_eq m.toNat z.cells
              rw [hzs] at hrep
              have hzr := (hT _ _ he).run_zero (w := w) (z := z) rfl
              simp only [hzr, Result.andThen_ok, hzs, hrep]
              rw [g1]; rfl
        · cases g2 with
          | @ptr _ q _ hr => exact .slice 0 _ _ _ hr (fun _ => rfl) (by omega) (by unfold big; omega)
      · cases h
    · cases h
  · cases h

def cLen (tt : Nat → Option TI) (s : CS) (t : TypeId) (x : Value) : Option Value :=
  match tt t with
  | none => none
  | some i => match i.u, x with
    | .string, .string b => some (goInt b.size)
    | .array n _, _ => some (goInt n)
    | .pointer a, _ => (match tt a with
      | some ⟨.array n _, _, _, _, _, _⟩ => some (goInt n)
      | _ => none)
    | .slice _, .slice _ n _ => some (goInt n)
    | .map _ _, .map none => some (goInt 0)
    | .map _ _, .map (some m) => (match s.h.get m with
      | some (.map es _ _) => some (goInt es.length)
      | _ => none)
    | _, _ => none
theorem ER.length {kt : TypeId} : ∀ {xs ys : List MapEntry}, ER P kt r xs ys → ys.length = xs.length
  | [], [], _ => rfl
  | _ :: _, _ :: _, h => by simp [ER.length h.2]
  | [], _ :: _, h => h.elim
  | _ :: _, [], h => h.elim
theorem map_obj (hR : R P r s w) {m : Nat} {l : Loc} {es : List MapEntry} {c : Nat} {kt : TypeId} (ho : s.h.get m = some (.map es c kt)) (hr : r m = some l) : ∃ es', w.heap[l.b]? = some (.map es' c) ∧ ER P kt r es es'.toList ∧ (getObj l.b).run P w = .ok (.map es' c) w := by
  obtain ⟨es', h1, h2⟩ := hR.obj _ _ _ ho hr
  exact ⟨es', h1, h2, by simp [getObj, Sem.run, h1]⟩
theorem cLen_ok (hT : ∀ t i, tt t = some i → TOk P t i) (hR : R P r s w) {t ty : TypeId} {x x' v : Value} {at2 : Array TypeId} (hat : at2[0]? = some t) (hx : VR r x x') (h : cLen tt s t x = some v) : POk P r w (Builtin.len_ at2 ty #[x']) v := by
  unfold cLen at h
  split at h
  · cases h
  · rename_i i ht
    have hu := (hT _ _ ht).run_und (w := w)
    split at h <;> rename_i hiu <;> (try rw [hiu] at hu)
    · cases hx
      simp only [Option.some.injEq] at h; subst h
      exact ⟨_, by simp [goInt, Builtin.len_, hat, hu], .int _ _⟩
    · simp only [Option.some.injEq] at h; subst h
      exact ⟨_, by simp [goInt, Builtin.len_, hat, hu], .int _ _⟩
    · split at h
      · rename_i ha
        have hu2 := (hT _ _ ha).run_und (w := w)
        simp only at hu2
        simp only [Option.some.injEq] at h; subst h
        exact ⟨_, by simp [goInt, Builtin.len_, hat, hu, hu2], .int _ _⟩
      · cases h
    · simp only [Option.some.injEq] at h; subst h
      cases hx <;> exact ⟨_, by simp [goInt, Builtin.len_, hat, hu], .int _ _⟩
    · cases hx
      simp only [Option.some.injEq] at h; subst h
      exact ⟨_, by simp [goInt, Builtin.len_, hat, hu], .int _ _⟩
    · split at h
      · rename_i es c kt ho
        simp only [Option.some.injEq] at h; subst h
        cases hx with
        | map hr =>
          obtain ⟨es', g1, g2, g3⟩ := map_obj (P := P) hR ho hr
          have := g2.length
          simp only [Array.length_toList] at this
          exact ⟨_, by simp [goInt, Builtin.len_, hat, hu, g3, this], .int _ _⟩
      · cases h
    · cases h

def cCap (x : Value) : Option Value := match x with
  | .slice none 0 0 => some (goInt 0)
  | .slice (some _) _ c => if c < big then some (goInt c) else none
  | _ => none
theorem cCap_ok (hT : ∀ t i, tt t = some i → TOk P t i) {t ty e : TypeId} {i : TI} (ht : tt t = some i) (hi : i.u = .slice e) {x x' v : Value} {at2 : Array TypeId} (hat : at2[0]? = some t) (hx : VR r x x') (h : cCap x = some v) : POk P r w (Builtin.cap_ at2 ty #[x']) v := by
  have hu := (hT _ _ ht).run_und (w := w)
  rw [hi] at hu
  unfold cCap at h
  split at h
  · cases hx
    simp only [Option.some.injEq] at h; subst h
    exact ⟨_, by simp [goInt, Builtin.cap_, hat, hu], .int _ _⟩
  · split at h
    · rename_i hc
      simp only [Option.some.injEq] at h; subst h
      cases hx with
      | slice => exact ⟨_, by simp [goInt, Builtin.cap_, hat, hu], .int _ _⟩
      | sliceU => exact absurd hc (by simp)
    · cases h
  · cases h

end
end Go.Cl

/- 'append', 'copy', 'clear', 'min', 'max' of the clean machine. -/
namespace Go.Cl
noncomputable section
variable {P : Program} {r : Ren} {s : CS} {w : World} {tt : Nat → Option TI}

def strCells (b : ByteArray) : List Value := b.data.toList.map fun c => .int .u8 c.toNat
/-- How many elements a slice or a string has, and their cells. -/
def cElems (tt : Nat → Option TI) (s : CS) (size : Nat) (t : TypeId) (x : Value) : Option (Nat × List Value) :=
  match tt t, x with
  | some ⟨.slice _, _, _, _, _, _⟩, .slice none 0 0 => some (0, [])
  | some ⟨.slice _, _, _, _, _, _⟩, .slice (some ⟨a, off, none⟩) n _ => if n = 0 then some (0, []) else match s.h.get a with
    | some (.cells c _ _) => if off + n * size ≤ c.length then some (n, (c.drop off).take (n * size)) else none
    | _ => none
  | some ⟨.string, _, _, _, _, _⟩, .string b => if size = 1 then some (b.size, strCells b) else none
  | _, _ => none
theorem strCells_vl (b : ByteArray) : VL r (strCells b) (strCells b) := by
  refine VL.of_cst (List.all_eq_true.2 fun x hx => ?_)
  simp only [strCells, List.mem_map] at hx
  obtain ⟨c, _, rfl⟩ := hx
  rfl
theorem cElems_ok (hT : ∀ t i, tt t = some i → TOk P t i) (hR : R P r s w) {size : Nat} {t : TypeId} {x x' : Value} {n : Nat} {xs : List Value} (hx : VR r x x') (h : cElems tt s size t x = some (n, xs)) :
    ∃ ys d, VL r xs ys ∧ ys.length = n * size ∧ (Builtin.lenOf x').run P w = .ok n w ∧ (∀ w' : World, w'.heap = w.heap → (Builtin.firstCells size n x').run P w' = .ok ys.toArray w') ∧ (underlying t).run P w = .ok d w ∧ ((∃ q, d = .slice q) ∨ d = .string) := by
  unfold cElems at h
  split at h
  · rename_i ht
    cases hx
    simp only [Option.some.injEq, Prod.mk.injEq] at h
    obtain ⟨rfl, rfl⟩ := h
    exact ⟨[], _, trivial, by simp, rfl, fun _ _ => rfl, (hT _ _ ht).run_und, .inl ⟨_, rfl⟩⟩
  · rename_i e _ _ _ _ _ a off m c0 ht
    have hlen : ∀ p c, (Builtin.lenOf (.slice (some p) m c)).run P w = .ok m w := fun _ _ => rfl
    split at h
    · rename_i h0
      simp only [Option.some.injEq, Prod.mk.injEq] at h
      obtain ⟨rfl, rfl⟩ := h
      subst h0
      cases hx with
      | slice _ _ _ p => exact ⟨[], _, trivial, by simp, rfl, fun _ _ => by simp [Builtin.firstCells, loadCells, loadCellsFrom], (hT _ _ ht).run_und, .inl ⟨_, rfl⟩⟩
      | sliceU _ _ _ p => exact ⟨[], _, trivial, by simp, rfl, fun _ _ => by simp [Builtin.firstCells, loadCells, loadCellsFrom], (hT _ _ ht).run_und, .inl ⟨_, rfl⟩⟩
    · rename_i h0
      split at h
      · rename_i c mm sz hc
        split at h
        · rename_i hl
          simp only [Option.some.injEq, Prod.mk.injEq] at h
          obtain ⟨rfl, rfl⟩ := h
          have fin : ∀ {l : Loc} {p : Addr} {cc : Nat}, r a = some l → p = ⟨l.b, l.o + off, none⟩ → ∃ ys d, VL r ((c.drop off).take (m * size)) ys ∧ ys.length = m * size ∧ (Builtin.lenOf (.slice (some p) m cc)).run P w = .ok m w ∧ (∀ w' : World, w'.heap = w.heap → (Builtin.firstCells size m (.slice (some p) m cc)).run P w' = .ok ys.toArray w') ∧ (underlying t).run P w = .ok d w ∧ ((∃ q, d = .slice q) ∨ d = .string) := by
            rintro l p cc hr rfl
            obtain ⟨ys, g1, g2⟩ := load_at (P := P) hR hc hr hl
            exact ⟨ys, _, g1, by rw [g1.length]; simp; omega, rfl, fun w' hw' => by simpa [Builtin.firstCells] using g2 w' hw', (hT _ _ ht).run_und, .inl ⟨_, rfl⟩⟩
          cases hx with
          | slice _ _ _ p hr hp hlc _ => exact fin hr (hp (by omega))
          | sliceU _ _ _ p hr hp he hlc _ => exact fin hr (hp (by omega))
        · cases h
      · cases h
  · rename_i b ht
    cases hx
    split at h
    · rename_i h1
      simp only [Option.some.injEq, Prod.mk.injEq] at h
      obtain ⟨rfl, rfl⟩ := h
      refine ⟨strCells b, _, strCells_vl b, by simp [strCells, h1], rfl, ?_, (hT _ _ ht).run_und, .inr rfl⟩
      intro w' _
      have : (b.extract 0 b.size).data = b.data := by simp
      simp [Builtin.firstCells, strCells, ← Array.toList_map]
    · cases h
  · cases h

def cAppend (tt : Nat → Option TI) (s : CS) (sT xT : TypeId) (x y : Value) : Option (Value × CS) :=
  match tt sT with
  | some ⟨.slice e, _, _, _, _, _⟩ => match tt e with
    | some ⟨_, size, bytes, some _, _, _⟩ => match cElems tt s size xT y with
      | some (n, ys) =>
        if n = 0 then (match x with
          | .slice none 0 0 => some (x, s)
          | .slice (some ⟨a, off, none⟩) len cap => some (.slice (some ⟨a, off, none⟩) len cap, s)
          | _ => none)
        else if 0 < size ∧ 0 < bytes ∧ ys.all (·.oneCell') = true then (match x with
          | .slice none 0 0 => if (2 * n + 192) * bytes ≤ 281474976710656 then
              some (.slice (some ⟨s.nx, 0, none⟩) n big, ⟨s.h.set s.nx (.cells ys .opn size), s.up, s.up + 1⟩)
            else none
          | .slice (some ⟨a, off, none⟩) len cap => (match s.h.get a with
            | some (.cells c m sz) =>
              if cap < big ∧ len + n ≤ cap then
                if m ≠ .ro ∧ off + len * size + n * size ≤ c.length then
                  some (.slice (some ⟨a, off, none⟩) (len + n) cap, ⟨s.h.set a (.cells (c.take (off + len * size) ++ ys ++ c.drop (off + len * size + ys.length)) m sz), s.nx, s.up⟩)
                else none
              else if (2 * (len + n) + 192) * bytes ≤ 281474976710656 then
                if cap < big then
                  if off + len * size ≤ c.length ∨ len = 0 then
                    some (.slice (some ⟨s.nx, 0, none⟩) (len + n) big, ⟨s.h.set s.nx (.cells ((c.drop off).take (len * size) ++ ys) .opn size), s.up, s.up + 1⟩)
                  else none
                else if cap = big ∧ m = .opn ∧ sz = size ∧ off + len * size = c.length then
                  some (.slice (some ⟨s.nx, 0, none⟩) (len + n) big, ⟨(s.h.del a).set s.nx (.cells (c.drop off ++ ys) .opn size), s.up, s.up + 1⟩)
                else none
              else none
            | _ => none)
          | _ => none)
        else none
      | none => none
    | _ => none
  | _ => none

theorem growBy_le (n : Nat) : ∀ (k c : Nat), c ≤ 2 * n + 192 → Builtin.growBy n k c ≤ 2 * n + 192
  | 0, c, h => h
  | k + 1, c, h => by
    simp only [Builtin.growBy]
    split
    · exact h
    · exact growBy_le n k _ (by omega)
theorem nextcap_le {n c : Nat} (h : c < n) : Builtin.nextslicecap n c ≤ 2 * n + 192 := by
  unfold Builtin.nextslicecap
  split
  · omega
  · split
    · omega
    · exact growBy_le n 4 c (by omega)

/-- 'append' where there is room. -/
theorem append_room {sT xT e ty : TypeId} {size n len cap : Nat} {p : Addr} {y : Value} {ys : List Value} {d : TypeDesc} {w' : World} (hs : (underlying sT).run P w = .ok (.slice e) w) (hsz : (sizeOf e).run P w = .ok size w)
    (hd : (underlying xT).run P w = .ok d w) (hdi : ((∃ q, d = .slice q) ∨ d = .string)) (hl : (Builtin.lenOf y).run P w = .ok n w) (hf : (Builtin.firstCells size n y).run P w = .ok ys.toArray w) (hroom : len + n ≤ cap)
    (hst : (storeCells (p.add (len * size)) ys).run P w = .ok () w') :
    (Builtin.append_ #[sT, xT] ty #[.slice (some p) len cap, y]).run P w = .ok (.slice (some p) (len + n) cap) w' := by
  rcases hdi with ⟨q, rfl⟩ | rfl
  all_goals
    simp only [Builtin.append_, List.getElem?_toArray, List.getElem?_cons_zero, List.getElem?_cons_succ, Sem.run_bind, hs, Result.andThen_ok, hsz, hd, Sem.run_pure, Bool.false_eq_true, if_false, hl, Bool.not_false, if_true, hf]
    rw [if_pos hroom]
    simp only [Sem.run_bind, hf, Result.andThen_ok, hst, Sem.run_pure]
/-- 'append' of nothing to nil. -/
theorem append_nil0 {sT xT e ty : TypeId} {size : Nat} {y : Value} {ys : List Value} {d : TypeDesc} (hs : (underlying sT).run P w = .ok (.slice e) w) (hsz : (sizeOf e).run P w = .ok size w)
    (hd : (underlying xT).run P w = .ok d w) (hdi : ((∃ q, d = .slice q) ∨ d = .string)) (hl : (Builtin.lenOf y).run P w = .ok 0 w) (hf : (Builtin.firstCells size 0 y).run P w = .ok ys.toArray w) :
    (Builtin.append_ #[sT, xT] ty #[.slice none 0 0, y]).run P w = .ok (.slice none 0 0) w := by
  rcases hdi with ⟨q, rfl⟩ | rfl
  all_goals
    simp only [Builtin.append_, List.getElem?_toArray, List.getElem?_cons_zero, List.getElem?_cons_succ, Sem.run_bind, hs, Result.andThen_ok, hsz, hd, Sem.run_pure, Bool.false_eq_true, if_false, hl, Bool.not_false, if_true, hf]
    rw [if_pos (by omega)]
    simp only [Sem.run_bind, hf, Result.andThen_ok, Sem.run_pure]
/-- 'append' where there is none: a new row, of some capacity. -/
theorem append_grow {sT xT e ty : TypeId} {size n len cap : Nat} {b : Option Addr} {y z : Value} {ys os : List Value} {d : TypeDesc} {j : TypeInfo} (hs : (underlying sT).run P w = .ok (.slice e) w) (hsz : (sizeOf e).run P w = .ok size w)
    (hd : (underlying xT).run P w = .ok d w) (hdi : ((∃ q, d = .slice q) ∨ d = .string)) (hl : (Builtin.lenOf y).run P w = .ok n w) (hroom : ¬ len + n ≤ cap)
    (hj : P.info? e = some j) (hjb : j.bytes ≠ 0) (hsmall : (2 * (len + n) + 192) * j.bytes ≤ 281474976710656) (hz : ∀ w : World, (zeroValue e).run P w = .ok z w)
    (hf : ∀ w' : World, w'.heap = w.heap → (Builtin.firstCells size n y).run P w' = .ok ys.toArray w') (ho : ∀ w' : World, w'.heap = w.heap → (Builtin.firstCells size len (.slice b len cap)).run P w' = .ok os.toArray w') :
    ∃ nc w1, len + n ≤ nc ∧ w1.heap = w.heap ∧ (w1.os = w.os ∧ w1.output = w.output ∧ w1.tape = w.tape) ∧
      (Builtin.append_ #[sT, xT] ty #[.slice b len cap, y]).run P w = ((newRow e (os ++ ys ++ rep (nc - (len + n)) z.cells.toList).toArray).run P w1).andThen fun a w' => .ok (.slice (some a) (len + n) nc) w' := by
  let q := Question.appendCap (len + n) cap e
  refine ⟨q.cut (w.tape w.drawn q), { w with drawn := w.drawn + 1 }, by simp [q, Question.cut], rfl, ⟨rfl, rfl, rfl⟩, ?_⟩
  have hti : ∀ w : World, (typeInfo e).run P w = .ok j w := fun w => by simp [typeInfo, hj]
  rcases hdi with ⟨q0, rfl⟩ | rfl
  all_goals
    simp only [Builtin.append_, List.getElem?_toArray, List.getElem?_cons_zero, List.getElem?_cons_succ, Sem.run_bind, hs, Result.andThen_ok, hsz, hd, Sem.run_pure, Bool.false_eq_true, if_false, hl, Bool.not_false, if_true]
    rw [if_neg hroom]
    have c1 : ¬ (Builtin.nextslicecap (len + n) cap * j.bytes > 2 ^ 48) := by
      have := Nat.mul_le_mul_right j.bytes (nextcap_le (n := len + n) (c := cap) (by omega))
      have e : (2 : Nat) ^ 48 = 281474976710656 := by decide
      omega
    have c2 : ¬ (((len + n : Nat) : Int) > IntKind.i64.max ∧ (False ∨ j.bytes = 0)) := by simp [hjb]
    simp only [Sem.run_bind, hti, Result.andThen_ok, Sem.run_ite, Bool.false_eq_true]
    rw [if_neg c2]
    simp only [Sem.run_pure, Result.andThen_ok]
    rw [if_neg c1]
    simp only [Sem.run_pure, Result.andThen_ok, run_choose, show Question.forced (Question.appendCap (len + n) cap e) = false from rfl, Bool.false_eq_true, if_false, run_askRoom]
    have hf' := hf { w with drawn := w.drawn + 1 } rfl
    have ho' := ho { w with drawn := w.drawn + 1 } rfl
    simp only [ho', hf', hz, Result.andThen_ok]
    have er : (os.toArray ++ ys.toArray ++ Builtin.zeroCells z.cells (q.cut (w.tape w.drawn q) - (len + n))) = (os ++ ys ++ rep (q.cut (w.tape w.drawn q) - (len + n)) z.cells.toList).toArray := by
      have := rep_eq (q.cut (w.tape w.drawn q) - (len + n)) z.cells
      simp only [Builtin.zeroCells, this]
      simp
    rw [er]

/-- What a grown slice lies in. -/
theorem grown_ok (hR : R P r s w) {e : TypeId} {size k nc : Nat} {c c' : List Value} {z : List Value} (hz : z.length = size) (hsz : 0 < size) (hc : VL r c c') (hl : c.length = k * size) (hk : k ≤ nc) {w1 : World} (hw : w1.heap = w.heap)
    (hrest : w1.os = w.os ∧ w1.output = w.output ∧ w1.tape = w.tape) {sem : Sem Value} (hrun : sem.run P w = ((newRow e (c' ++ rep (nc - k) z).toArray).run P w1).andThen fun a w' => .ok (.slice (some a) k nc) w') :
    VOk P r s w sem (.slice (some ⟨s.nx, 0, none⟩) k big) ⟨s.h.set s.nx (.cells c .opn size), s.up, s.up + 1⟩ := by
  have hlc := hc.length
  have hlen : (c' ++ rep (nc - k) z).length = nc * size := by
    rw [List.length_append, rep_length, hlc, hl, hz, ← Nat.add_mul]; congr 1; omega
  have hle : c.length ≤ nc * size := by rw [hl]; exact Nat.mul_le_mul_right _ hk
  obtain ⟨w', l, h1, h2, h3, h4⟩ := newrow_ok (P := P) (hR.same hw) e hc .opn (nc * size) size (fun h => by cases h) (rep (nc - k) z) ⟨hle, hlen.symm⟩
  refine ⟨_, _, w', by rw [hrun, h1]; rfl, ?_, h3, Step.trans (fun id l hl => (hR.dom id l hl).1) (Step.same hw hrest) h4⟩
  refine VR.sliceU (l := l) 0 k nc _ (Ren.put_same _ _ _) (fun _ => by rw [h2]) (by rw [h2]; simp) hk (by rw [h2]; exact hsz)

theorem cAppend_ok (hT : ∀ t i, tt t = some i → TOk P t i) (hR : R P r s w) {sT xT ty : TypeId} {x x' y y' v : Value} {s' : CS} (hx : VR r x x') (hy : VR r y y') (h : cAppend tt s sT xT x y = some (v, s')) :
    VOk P r s w (Builtin.append_ #[sT, xT] ty #[x', y']) v s' := by
  unfold cAppend at h
  split at h
  case h_2 => cases h
  rename_i e _ _ _ _ _ hsT
  have hs := (hT _ _ hsT).run_und (w := w)
  simp only at hs
  split at h
  case h_2 => cases h
  rename_i ue size bytes z ag eqk he
  have hsz := (hT _ _ he).run_size (w := w)
  simp only at hsz
  obtain ⟨j, hj, _, hjb, _⟩ := (hT _ _ he).info
  simp only at hjb
  have hzl : z.cells.toList.length = size := by simpa using zero_size ((hT _ _ he).zero z rfl)
  have hz : ∀ w : World, (zeroValue e).run P w = .ok z w := fun w => (hT _ _ he).run_zero rfl
  split at h
  case h_2 => cases h
  rename_i n ys hel
  obtain ⟨ys', d, hv, hyl, hlen, hfc2, hd, hdi⟩ := cElems_ok (P := P) hT hR hy hel
  have hfc := hfc2 w rfl
  split at h
  · rename_i h0
    subst h0
    have hnil : ys' = [] := List.eq_nil_of_length_eq_zero (by simpa using hyl)
    split at h
    · simp only [Option.some.injEq, Prod.mk.injEq] at h
      obtain ⟨rfl, rfl⟩ := h
      cases hx
      exact (POk.vok ⟨_, append_nil0 hs hsz hd hdi hlen hfc, .nilSlice⟩ hR)
    · rename_i a off len cap
      simp only [Option.some.injEq, Prod.mk.injEq] at h
      obtain ⟨rfl, rfl⟩ := h
      subst hnil
      cases hx with
      | slice _ _ _ p hr hp hlc hcb => exact (POk.vok ⟨_, append_room hs hsz hd hdi hlen hfc (by omega) rfl, .slice _ _ _ _ hr hp hlc hcb⟩ hR)
      | sliceU _ _ c p hr hp hee hlc hzz => exact (POk.vok ⟨_, append_room hs hsz hd hdi hlen hfc (by omega) rfl, .sliceU _ _ _ _ hr hp hee hlc hzz⟩ hR)
    · cases h
  · rename_i hn0
    split at h
    case isFalse => cases h
    rename_i hpos
    obtain ⟨hsize, hbytes, hone⟩ := hpos
    have hjb0 : j.bytes ≠ 0 := by rw [hjb]; omega
    have hyl2 : ys.length = n * size := by rw [← hv.length]; exact hyl
    split at h
    · split at h
      · rename_i hsm
        simp only [Option.some.injEq, Prod.mk.injEq] at h
        obtain ⟨rfl, rfl⟩ := h
        cases hx
        obtain ⟨nc, w1, g1, g2, g3, g4⟩ := append_grow (P := P) (ty := ty) (b := none) (len := 0) (cap := 0) (os := []) hs hsz hd hdi hlen (by omega) hj hjb0 (by rw [hjb]; simpa using hsm) hz hfc2 (fun _ _ => rfl)
        simp only [Nat.zero_add, List.nil_append] at g1 g4
        exact grown_ok hR hzl hsize hv hyl2 g1 g2 g3 g4
      · cases h
    · rename_i a off len cap
      split at h
      case h_2 => cases h
      rename_i c m sz hc
      split at h
      · rename_i hroom
        obtain ⟨hcap, hroom⟩ := hroom
        split at h
        case isFalse => cases h
        rename_i hmw
        obtain ⟨hm, hfit⟩ := hmw
        simp only [Option.some.injEq, Prod.mk.injEq] at h
        obtain ⟨rfl, rfl⟩ := h
        cases hx with
        | sliceU => exact absurd hcap (by simp)
        | @slice _ l _ _ _ p hr hp hlc hcb =>
          obtain ⟨w', q1, q2, q3⟩ := store_ok (P := P) hR hc hr hm (by rw [hyl2]; exact hfit) hv hone
          refine ⟨_, r, w', append_room hs hsz hd hdi hlen hfc hroom ?_, .slice _ _ _ _ hr hp (by omega) hcb, q2, q3⟩
          rw [hp (by omega), add_mk, Nat.add_assoc]
          exact q1
      · rename_i hnr
        split at h
        case isFalse => cases h
        rename_i hsm
        split at h
        · rename_i hcap
          split at h
          case isFalse => cases h
          rename_i hfit
          simp only [Option.some.injEq, Prod.mk.injEq] at h
          obtain ⟨rfl, rfl⟩ := h
          cases hx with
          | sliceU => exact absurd hcap (by simp)
          | @slice _ l _ _ _ p hr hp hlc hcb =>
            have hos : ∃ os, VL r ((c.drop off).take (len * size)) os ∧ ((c.drop off).take (len * size)).length = len * size ∧ ∀ w' : World, w'.heap = w.heap → (Builtin.firstCells size len (.slice (some p) len cap)).run P w' = .ok os.toArray w' := by
              by_cases hl0 : len = 0
              · subst hl0
                exact ⟨[], by simp [VL], by simp, fun _ _ => by simp [Builtin.firstCells, loadCells, loadCellsFrom]⟩
              · have hfit' : off + len * size ≤ c.length := by rcases hfit with h | h <;> omega
                obtain ⟨os, o1, o2⟩ := load_at (P := P) hR hc hr hfit'
                refine ⟨os, o1, by simp; omega, fun w' hw' => ?_⟩
                rw [hp (by omega)]
                simpa [Builtin.firstCells] using o2 w' hw'
            obtain ⟨os, o1, o2, o3⟩ := hos
            obtain ⟨nc, w1, g1, g2, g3, g4⟩ := append_grow (P := P) (ty := ty) (b := some p) (len := len) (cap := cap) (os := os) hs hsz hd hdi hlen (by omega) hj hjb0 (by rw [hjb]; exact hsm) hz hfc2 o3
            exact grown_ok hR hzl hsize (o1.append hv) (by rw [List.length_append, o2, hyl2, Nat.add_mul]) g1 g2 g3 g4
        · rename_i hcap
          split at h
          case isFalse => cases h
          rename_i hq
          obtain ⟨rfl, rfl, rfl, hfr⟩ := hq
          simp only [Option.some.injEq, Prod.mk.injEq] at h
          obtain ⟨rfl, rfl⟩ := h
          cases hx with
          | slice _ _ _ p hr hp hlc hcb => exact absurd hcb hcap
          | @sliceU _ l _ _ cap' p hr hp hee hlc hzz =>
            obtain ⟨cs, t, fr, hb, h1, h2, h3, h4, h5, h6⟩ := hR.obj _ _ _ hc hr
            rw [h4 (by simp)] at hb
            have hdl : (c.drop off).length = len * sz := by simp; omega
            have hos : ∃ os, VL r (c.drop off) os ∧ ∀ w' : World, w'.heap = w.heap → (Builtin.firstCells sz len (.slice (some p) len cap')).run P w' = .ok os.toArray w' := by
              by_cases hl0 : len = 0
              · subst hl0
                have : c.drop off = [] := List.eq_nil_of_length_eq_zero (by rw [hdl]; simp)
                rw [this]
                exact ⟨[], trivial, fun _ _ => by simp [Builtin.firstCells, loadCells, loadCellsFrom]⟩
              · obtain ⟨os, o1, o2⟩ := load_at (P := P) hR hc hr (off := off) (n := len * sz) (by omega)
                refine ⟨os, by rwa [List.take_of_length_le (by omega)] at o1, fun w' hw' => ?_⟩
                rw [hp (by omega)]
                simpa [Builtin.firstCells] using o2 w' hw'
            obtain ⟨os, o1, o3⟩ := hos
            by_cases hroom : len + n ≤ cap'
            · have hcap : (len + n) * l.sz ≤ cap' * l.sz := Nat.mul_le_mul_right _ hroom
              rw [h6, Nat.add_mul] at hcap
              rw [h6] at hee
              have hst := run_storeCells_at (P := P) l.b (l.o + off + len * sz) t ys' 0 cs w hb (by omega) (hv.oneCell hone)
              rw [Nat.add_zero] at hst
              have hpe := hp (by omega)
              have hmv := R.move (o' := .cells (c.drop off ++ ys) .opn sz) (l' := ⟨l.b, l.o + off, l.e, l.sz⟩) (w' := w.setRow l.b (cs.toList.take (l.o + off + len * sz) ++ ys' ++ cs.toList.drop (l.o + off + len * sz + ys'.length)).toArray) hR hc hr rfl rfl rfl (by simp [World.setRow]) (fun k hk => setRow_other _ _ _ _ hk) ?_ ⟨by simp, by simp, by simp⟩
              · refine ⟨_, _, _, append_room hs hsz hd hdi hlen hfc hroom (by rw [hpe, add_mk]; exact hst), ?_, hmv.1, hmv.2⟩
                refine VR.sliceU (l := ⟨l.b, l.o + off, l.e, l.sz⟩) 0 _ _ _ (Ren.put_same _ _ _) (fun _ => by rw [hpe]; rfl) ?_ hroom hzz
                simp only [Nat.add_zero]; rw [h6]; exact hee
              · refine ⟨_, t, _, setRow_heap _ _ _ _ _ _ hb, ?_, ?_, ?_, fun _ => rfl, fun hh => by (cases hh), h6⟩
                · simp only [List.length_append, hdl, hyl2]; omega
                · simp; omega
                · refine VL.mono (hR.put_mono _) ?_
                  have e1 : ((cs.toList.take (l.o + off + len * sz) ++ ys' ++ cs.toList.drop (l.o + off + len * sz + ys'.length)).toArray.toList.drop (l.o + off)).take (c.drop off ++ ys).length =
                      (((cs.toList.drop l.o).take c.length).drop off) ++ ys' := by
                    rw [List.length_append, hdl, hyl2]
                    apply List.ext_getElem?
                    intro i
                    simp only [List.getElem?_take, List.getElem?_drop, List.getElem?_append, List.length_take, List.length_append, List.length_drop, Array.length_toList]
                    repeat' split
                    all_goals first
                      | rfl
                      | omega
                      | (congr 1; omega)
                      | (rw [List.getElem?_eq_none (by omega)])
                      | (symm; rw [List.getElem?_eq_none (by omega)])
                  rw [e1]
                  exact (h3.drop off).append hv
            · obtain ⟨nc, w1, g1, g2, g3, g4⟩ := append_grow (P := P) (ty := ty) (b := some p) (len := len) (cap := cap') (os := os) hs hsz hd hdi hlen hroom hj hjb0 (by rw [hjb]; exact hsm) hz hfc2 o3
              obtain ⟨k1, k2⟩ := R.kill hR a
              obtain ⟨v', r', w', m1, m2, m3, m4⟩ := grown_ok (s := ⟨s.h.del a, s.nx, s.up⟩) k1 hzl hsize (o1.append hv) (by rw [List.length_append, hdl, hyl2, Nat.add_mul]) g1 g2 g3 g4
              exact ⟨v', r', w', m1, m2, m3, Step.trans (fun id l hl => (hR.dom id l hl).1) k2 m4⟩
    · cases h

end
end Go.Cl

/- 'copy', 'clear', 'min', 'max'; maps: look-up, store, delete, range; of the clean machine. -/
namespace Go.Cl
noncomputable section
variable {P : Program} {r : Ren} {s : CS} {w : World} {tt : Nat → Option TI}

def cCopy (tt : Nat → Option TI) (s : CS) (dT xT : TypeId) (d x : Value) : Option (Value × CS) :=
  match tt dT with
  | some ⟨.slice e, _, _, _, _, _⟩ => match tt e with
    | some ⟨_, size, _, _, _, _⟩ => match cElems tt s size xT x, d with
      | some _, .slice none 0 0 => some (goInt 0, s)
      | some (n, ys), .slice (some ⟨a, off, none⟩) dl _ =>
        let k := min n dl
        if k = 0 then some (goInt 0, s) else match s.h.get a with
        | some (.cells c m sz) =>
          let vs := ys.take (k * size)
          if m ≠ .ro ∧ off + k * size ≤ c.length ∧ vs.all (·.oneCell') = true ∧ vs.length = k * size then
            some (goInt k, ⟨s.h.set a (.cells (c.take off ++ vs ++ c.drop (off + vs.length)) m sz), s.nx, s.up⟩)
          else none
        | _ => none
      | _, _ => none
    | _ => none
  | _ => none

/-- The first so many of a slice's or a string's cells. -/
theorem cElems_take (hT : ∀ t i, tt t = some i → TOk P t i) (hR : R P r s w) {size : Nat} {t : TypeId} {x x' : Value} {n k : Nat} {xs : List Value} (hx : VR r x x') (h : cElems tt s size t x = some (n, xs)) (hk : k ≤ n) :
    ∃ ys, VL r (xs.take (k * size)) ys ∧ (Builtin.lenOf x').run P w = .ok n w ∧ (Builtin.firstCells size k x').run P w = .ok ys.toArray w := by
  unfold cElems at h
  split at h
  · rename_i ht
    cases hx
    simp only [Option.some.injEq, Prod.mk.injEq] at h
    obtain ⟨rfl, rfl⟩ := h
    exact ⟨[], by simp [VL], rfl, rfl⟩
  · rename_i e _ _ _ _ _ a off m c0 ht
    split at h
    · rename_i h0
      simp only [Option.some.injEq, Prod.mk.injEq] at h
      obtain ⟨rfl, rfl⟩ := h
      subst h0
      have : k = 0 := by omega
      subst this
      cases hx with
      | slice _ _ _ p => exact ⟨[], by simp [VL], rfl, by simp [Builtin.firstCells, loadCells, loadCellsFrom]⟩
      | sliceU _ _ _ p => exact ⟨[], by simp [VL], rfl, by simp [Builtin.firstCells, loadCells, loadCellsFrom]⟩
    · rename_i h0
      split at h
      · rename_i c mm sz hc
        split at h
        · rename_i hl
          simp only [Option.some.injEq, Prod.mk.injEq] at h
          obtain ⟨rfl, rfl⟩ := h
          have hks : k * size ≤ m * size := Nat.mul_le_mul_right _ hk
          have fin : ∀ {l : Loc} {p : Addr} {cc : Nat}, r a = some l → p = ⟨l.b, l.o + off, none⟩ → ∃ ys, VL r (((c.drop off).take (m * size)).take (k * size)) ys ∧ (Builtin.lenOf (.slice (some p) m cc)).run P w = .ok m w ∧ (Builtin.firstCells size k (.slice (some p) m cc)).run P w = .ok ys.toArray w := by
            rintro l p cc hr rfl
            obtain ⟨ys, g1, g2⟩ := load_ok (P := P) hR hc hr (off := off) (n := k * size) (by omega)
            exact ⟨ys, by rw [List.take_take, Nat.min_eq_left hks]; exact g1, rfl, by simpa [Builtin.firstCells] using g2⟩
          cases hx with
          | slice _ _ _ p hr hp hlc _ => exact fin hr (hp (by omega))
          | sliceU _ _ _ p hr hp he hlc _ => exact fin hr (hp (by omega))
        · cases h
      · cases h
  · rename_i b ht
    cases hx
    split at h
    · rename_i h1
      simp only [Option.some.injEq, Prod.mk.injEq] at h
      obtain ⟨rfl, rfl⟩ := h
      refine ⟨(strCells b).take (k * size), (strCells_vl b).take _, rfl, ?_⟩
      have e : (b.extract 0 k).data.toList = b.data.toList.take k := by
        simp [ByteArray.extract, ByteArray.copySlice, List.extract]
      simp only [Builtin.firstCells, Sem.run_pure, h1, Nat.mul_one, strCells]
      congr 1
      rw [← Array.toList_inj]
      simp [e, ← List.map_take]
    · cases h
  · cases h

theorem cCopy_ok (hT : ∀ t i, tt t = some i → TOk P t i) (hR : R P r s w) {dT xT ty : TypeId} {x x' d d' v : Value} {s' : CS} (hd : VR r d d') (hx : VR r x x') (h : cCopy tt s dT xT d x = some (v, s')) :
    VOk P r s w (Builtin.copy_ #[dT, xT] ty #[d', x']) v s' := by
  unfold cCopy at h
  split at h
  case h_2 => cases h
  rename_i e _ _ _ _ _ hdT
  have hs := (hT _ _ hdT).run_und (w := w)
  simp only at hs
  split at h
  case h_2 => cases h
  rename_i ue size bytes z ag eqk he
  have hsz := (hT _ _ he).run_size (w := w)
  simp only at hsz
  split at h
  · rename_i q hq
    obtain ⟨n, ys⟩ := q
    simp only [Option.some.injEq, Prod.mk.injEq] at h
    obtain ⟨rfl, rfl⟩ := h
    cases hd
    obtain ⟨ys', g1, g2, g3⟩ := cElems_take (P := P) hT hR hx hq (Nat.zero_le n)
    refine (POk.vok ⟨_, ?_, .int _ _⟩ hR)
    have hm : Nat.min n 0 = 0 := Nat.min_zero n
    simp only [Builtin.copy_, List.getElem?_toArray, List.getElem?_cons_zero, List.getElem?_cons_succ, Sem.run_bind, hs, Result.andThen_ok, hsz, g2, hm, g3, Sem.run_pure]
    rfl
  · rename_i n ys a off dl c0 hq
    have gen : ∀ {p : Addr} {c : Nat} {w' : World} {ys' : List Value}, (Builtin.lenOf x').run P w = .ok n w → (Builtin.firstCells size (Nat.min n dl) x').run P w = .ok ys'.toArray w → (storeCells p ys').run P w = .ok () w' →
        (Builtin.copy_ #[dT, xT] ty #[.slice (some p) dl c, x']).run P w = .ok (goInt (Nat.min n dl : Nat)) w' := by
      intro p c w' ys' h1 h2 h3
      simp only [Builtin.copy_, List.getElem?_toArray, List.getElem?_cons_zero, List.getElem?_cons_succ, Sem.run_bind, hs, Result.andThen_ok, hsz, h1, h2, h3, Sem.run_pure]
    obtain ⟨ys', g1, g2, g3⟩ := cElems_take (P := P) (k := Nat.min n dl) hT hR hx hq (Nat.min_le_left n dl)
    dsimp only at h
    split at h
    · rename_i h0
      have h0 : Nat.min n dl = 0 := h0
      simp only [Option.some.injEq, Prod.mk.injEq] at h
      obtain ⟨rfl, rfl⟩ := h
      have hy : ys' = [] := by
        rw [h0] at g1
        exact List.eq_nil_of_length_eq_zero (by rw [g1.length]; simp)
      subst hy
      rw [← show (goInt (Nat.min n dl : Nat)) = goInt 0 by rw [h0]; rfl]
      cases hd with
      | slice => exact (POk.vok ⟨_, gen g2 g3 rfl, .int _ _⟩ hR)
      | sliceU => exact (POk.vok ⟨_, gen g2 g3 rfl, .int _ _⟩ hR)
    · rename_i h0
      have h0 : Nat.min n dl ≠ 0 := h0
      split at h
      · rename_i c m sz hc
        split at h
        · rename_i hcond
          obtain ⟨hm, hfit, hone, hlen⟩ := hcond
          simp only [Option.some.injEq, Prod.mk.injEq] at h
          obtain ⟨rfl, rfl⟩ := h
          have hdl : 0 < dl := by
            rcases Nat.eq_zero_or_pos dl with h | h
            · subst h; exact absurd (Nat.min_zero n) h0
            · exact h
          have fin : ∀ {l : Loc} {p : Addr} {cc : Nat}, r a = some l → p = ⟨l.b, l.o + off, none⟩ → VOk P r s w (Builtin.copy_ #[dT, xT] ty #[.slice (some p) dl cc, x']) (goInt (min n dl : Nat)) ⟨s.h.set a (.cells (c.take off ++ ys.take (min n dl * size) ++ c.drop (off + (ys.take (min n dl * size)).length)) m sz), s.nx, s.up⟩ := by
            rintro l p cc hr rfl
            obtain ⟨w', q1, q2, q3⟩ := store_ok (P := P) hR hc hr hm (off := off) (vs := ys.take (min n dl * size)) (by rw [hlen]; exact hfit) g1 hone
            exact ⟨_, r, w', gen g2 g3 q1, .int _ _, q2, q3⟩
          cases hd with
          | slice _ _ _ p hr hp hlc _ => exact fin hr (hp (by omega))
          | sliceU _ _ _ p hr hp _ hlc _ => exact fin hr (hp (by omega))
        · cases h
      · cases h
  · cases h

def cMinMax (mx : Bool) (t : TypeId) (xs : List Value) : Option Value :=
  if xs.all sca then scaOnly (pureRun (if mx then Builtin.max_ #[] t xs.toArray else Builtin.min_ #[] t xs.toArray)) else none
theorem cMinMax_ok {mx : Bool} {t : TypeId} {at2 : Array TypeId} {xs xs' : List Value} {v : Value} (hx : VL r xs xs') (h : cMinMax mx t xs = some v) : POk P r w (if mx then Builtin.max_ at2 t xs'.toArray else Builtin.min_ at2 t xs'.toArray) v := by
  unfold cMinMax at h
  split at h
  · rename_i hs
    rw [VL.eq_of_sca hs hx]
    obtain ⟨h1, h2⟩ := scaOnly_some h
    refine ⟨v, ?_, .of_sca h2⟩
    cases mx <;> exact pureRun_ok h1
  · cases h

def cClear (tt : Nat → Option TI) (s : CS) (t : TypeId) (x : Value) : Option CS :=
  match tt t, x with
  | some ⟨.slice e, _, _, _, _, _⟩, .slice (some ⟨a, off, none⟩) n _ => if n = 0 then some s else match tt e, s.h.get a with
    | some ⟨_, size, _, some z, _, _⟩, some (.cells c m sz) =>
      let vs := rep n z.cells.toList
      if m ≠ .ro ∧ off + n * size ≤ c.length then some ⟨s.h.set a (.cells (c.take off ++ vs ++ c.drop (off + vs.length)) m sz), s.nx, s.up⟩ else none
    | _, _ => none
  | some ⟨.slice _, _, _, _, _, _⟩, .slice none 0 0 => some s
  | _, _ => none
theorem cClear_ok (hT : ∀ t i, tt t = some i → TOk P t i) (hR : R P r s w) {t ty : TypeId} {x x' : Value} {s' : CS} (hx : VR r x x') (h : cClear tt s t x = some s') : VOk P r s w (Builtin.clear_ #[t] ty #[x']) (.tuple #[]) s' := by
  have hund : VR r (.tuple #[]) (.tuple #[]) := .of_const rfl
  unfold cClear at h
  split at h
  · rename_i e _ _ _ _ _ a off n c0 ht
    have hu := (hT _ _ ht).run_und (w := w)
    simp only at hu
    split at h
    · rename_i h0
      subst h0
      simp only [Option.some.injEq] at h
      subst h
      cases hx <;> exact (POk.vok ⟨_, by simp [Builtin.clear_, hu], hund⟩ hR)
    · rename_i h0
      split at h
      · rename_i ue size bt z ag eqk c m sz he hc
        dsimp only at h
        split at h
        · rename_i hq
          obtain ⟨hm, hfit⟩ := hq
          simp only [Option.some.injEq] at h
          subst h
          have hz := (hT _ _ he).zero z rfl
          have hzs := zero_size hz
          simp only at hzs
          have hzl : z.cells.toList.length = size := by simpa using hzs
          have hone : (rep n z.cells.toList).all (·.oneCell') = true := by
            simp only [zeroOk, Bool.and_eq_true, List.all_eq_true] at hz
            simp only [rep, List.all_eq_true, List.mem_flatten, List.mem_replicate]
            rintro x ⟨l, ⟨_, rfl⟩, hx⟩
            exact (hz.2 x hx).1
          have hzv : VL r (rep n z.cells.toList) (rep n z.cells.toList) := rep_vl (zero_vl hz) n
          have fin : ∀ {l : Loc} {p : Addr} {cc : Nat}, r a = some l → p = ⟨l.b, l.o + off, none⟩ → VOk P r s w (Builtin.clear_ #[t] ty #[.slice (some p) n cc]) (.tuple #[]) ⟨s.h.set a (.cells (c.take off ++ rep n z.cells.toList ++ c.drop (off + (rep n z.cells.toList).length)) m sz), s.nx, s.up⟩ := by
            rintro l p cc hr rfl
            obtain ⟨w', q1, q2, q3⟩ := store_ok (P := P) hR hc hr hm (off := off) (vs := rep n z.cells.toList) (by rw [rep_length, hzl]; exact hfit) hzv hone
            refine ⟨_, r, w', ?_, hund, q2, q3⟩
            have er : (Builtin.zeroCells z.cells n).toList = rep n z.cells.toList := by
              have := rep_eq n z.cells
              simp only [Builtin.zeroCells, this]
            have hzr := (hT _ _ he).run_zero (w := w) (z := z) rfl
            obtain ⟨k, rfl⟩ : ∃ k, n = k + 1 := ⟨n - 1, by omega⟩
            simp only [Builtin.clear_, List.getElem?_toArray, List.getElem?_cons_zero, Sem.run_bind, hu, Result.andThen_ok, hzr, er, q1, Sem.run_pure]
          cases hx with
          | slice _ _ _ p hr hp hlc _ => exact fin hr (hp (by omega))
          | sliceU _ _ _ p hr hp _ hlc _ => exact fin hr (hp (by omega))
        · cases h
      · cases h
  · rename_i ht
    have hu := (hT _ _ ht).run_und (w := w)
    simp only at hu
    simp only [Option.some.injEq] at h
    subst h
    cases hx
    exact (POk.vok ⟨_, by simp [Builtin.clear_, hu], hund⟩ hR)
  · cases h

end
end Go.Cl

/- Maps of the clean machine: look-up, store, delete, going over one. -/
namespace Go.Cl
noncomputable section
variable {P : Program} {r : Ren} {s : CS} {w : World} {tt : Nat → Option TI}

/-- The first entry of a key, and its place. -/
def cFind (l : List CK) (k : List Value) : List MapEntry → Nat → Option (Option (Nat × Value))
  | [], _ => some none
  | e :: es, i => match cmpL l k e.key.cells.toList with
    | some true => some (some (i, e.val))
    | some false => cFind l k es (i + 1)
    | none => none

/-- A key as the clean machine takes it: plain, of the key type's form. -/
def keyOk (i : TI) (k : Value) : Bool := if i.agg then (match k with | .agg cs => cs.size == i.size && cs.toList.all sca | _ => false) else sca k

theorem keyOk_of {t : TypeId} {i : TI} (ht : TOk P t i) {l : List CK} (he : i.eq = some l) {k : Value} (h : keyOk i k = true) : plain k = true ∧ KeyOf P t k := by
  obtain ⟨n, _, _, hk⟩ := ht.eq l he
  unfold keyOk at h
  cases ha : i.agg with
  | true =>
    simp only [ha, if_true] at h
    split at h
    · rename_i cs
      simp only [Bool.and_eq_true, beq_iff_eq] at h
      exact ⟨h.2, by simp [valOf, ← ht.agg, ha, Value.cells], by rw [ht.cells]; simpa [Value.cells] using h.1, h.2⟩
    · cases h
  | false =>
    simp only [ha, Bool.false_eq_true, if_false] at h
    have h1 := okEq_one hk (by rw [← ht.agg, ha])
    cases k <;> simp [sca] at h <;> exact ⟨rfl, by simp [valOf, ← ht.agg, ha, Value.cells], by rw [h1]; rfl, rfl⟩
theorem KeyOf.plain {t : TypeId} {k : Value} (h : KeyOf P t k) : plain k = true := by
  have hv := h.val
  unfold valOf at hv
  split at hv
  · rw [hv]; exact h.all
  · have ha := h.all
    cases k <;> first | rfl | (simp [Value.cells, sca] at ha; done) | exact ha

theorem cmpL_eq : ∀ {l : List CK} {a b : List Value}, cmpL l a b = some true → a = b
  | [], [], [], _ => rfl
  | k :: l, x :: a, y :: b, h => by
    simp only [cmpL] at h
    cases hc : cmp1 k x y with
    | none => simp [hc] at h
    | some c =>
      cases c with
      | false => simp [hc] at h
      | true =>
        simp only [hc] at h
        have e1 := cmpL_eq h
        have : x = y := by
          cases k <;> cases x <;> simp [cmp1] at hc <;> cases y <;> simp at hc
          · obtain ⟨h1, h2⟩ := hc; simp_all
          · simp_all
          · rename_i a b
            have hab : (a == b) = true := by rw [beq_toListBytes]; simpa using hc
            cases a; cases b
            have : _ = _ := eq_of_beq (show (_ : Array UInt8) == _ from hab)
            dsimp only at this
            rw [this]
        rw [e1, this]
  | [], [], _ :: _, h => by simp [cmpL] at h
  | [], _ :: _, _, h => by simp [cmpL] at h
  | _ :: _, [], _, h => by simp [cmpL] at h
  | _ :: _, _ :: _, [], h => by simp [cmpL] at h

def FR (r : Ren) : Option (Nat × Value) → Option (Nat × Value) → Prop
  | none, none => True
  | some x, some y => y.1 = x.1 ∧ VR r x.2 y.2
  | _, _ => False

theorem equal_key {t : TypeId} {i : TI} (ht : TOk P t i) {l : List CK} (he : i.eq = some l) {a b : Value} (ha : KeyOf P t a) (hb : KeyOf P t b) {x : Bool} (h : cmpL l a.cells.toList b.cells.toList = some x) : (Op.equal t a b).run P w = .ok x w := by
  obtain ⟨n, hn, hd, hk⟩ := ht.eq l he
  have := equalIn_ok n t l 10000 hk hn w _ _ x ha.len hb.len h
  rwa [← ha.val, ← hb.val] at this

theorem same_key {t : TypeId} {i : TI} (ht : TOk P t i) {l : List CK} (he : i.eq = some l) (hagg : i.agg = false) {a b : Value} (ha : KeyOf P t a) (hb : KeyOf P t b) {x : Bool} (h : cmpL l a.cells.toList b.cells.toList = some x) : Instr.sameNow i.u a b = some x := by
  obtain ⟨n, hn, hd, hk⟩ := ht.eq l he
  have hz : isAggB P t = false := by rw [← ht.agg, hagg]
  have h1 := okEq_one hk hz
  have one : ∀ v : Value, KeyOf P t v → v.cells.toList = [v] := fun v hv => by
    have e1 := hv.val
    have e2 := hv.len
    rw [h1] at e2
    match hc : v.cells.toList, e2 with
    | [y], _ => rw [hc] at e1; simp [valOf, hz] at e1; rw [e1]
  rw [one a ha, one b hb] at h
  cases n with
  | zero => cases hk
  | succ n =>
    simp only [okEq, ht.und] at hk
    cases hu : i.u <;> simp only [hu, reduceCtorEq] at hk
    case bool =>
      simp only [h1, if_true, Option.some.injEq] at hk
      subst hk
      simp only [cmpL] at h
      cases a <;> cases b <;> simp only [cmp1, reduceCtorEq] at h
      simp only [Instr.sameNow]
      split at h <;> simp_all
    case int k =>
      simp only [h1, if_true, Option.some.injEq] at hk
      subst hk
      simp only [cmpL] at h
      cases a <;> cases b <;> simp only [cmp1, reduceCtorEq] at h
      simp only [Instr.sameNow]
      split at h <;> simp_all
    case string =>
      simp only [h1, if_true, Option.some.injEq] at hk
      subst hk
      simp only [cmpL] at h
      cases a <;> cases b <;> simp only [cmp1, reduceCtorEq] at h
      simp only [Instr.sameNow, beq_toListBytes]
      split at h <;> simp_all
    case array len e => simp [isAggB, ht.und, hu] at hz
    case struct fs => simp [isAggB, ht.und, hu] at hz

theorem findNow_ok {t : TypeId} {i : TI} (ht : TOk P t i) {l : List CK} (he : i.eq = some l) (hagg : i.agg = false) {k : Value} (hk : KeyOf P t k) : ∀ {es es' : List MapEntry} {j : Nat} {res : Option (Nat × Value)}, ER P t r es es' → cFind l k.cells.toList es j = some res →
    ∃ res', Instr.findNow i.u k es' j = some res' ∧ FR r res res'
  | [], [], j, res, _, h => by simp [cFind] at h; subst h; exact ⟨none, rfl, trivial⟩
  | e :: es, e' :: es', j, res, hr, h => by
    obtain ⟨⟨h1, h2, h3, h4⟩, h5⟩ := hr
    simp only [cFind] at h
    cases hc : cmpL l k.cells.toList e.key.cells.toList with
    | none => simp [hc] at h
    | some b =>
      have := same_key ht he hagg hk h1 hc
      simp only [Instr.findNow, h2, this]
      cases b with
      | true => simp [hc] at h; subst h; exact ⟨_, rfl, rfl, h4⟩
      | false => simp only [hc] at h; exact findNow_ok ht he hagg hk h5 h
  | [], _ :: _, _, _, h, _ => h.elim
  | _ :: _, [], _, _, h, _ => h.elim
theorem findAsking_ok {t : TypeId} {i : TI} (ht : TOk P t i) {l : List CK} (he : i.eq = some l) {k : Value} (hk : KeyOf P t k) : ∀ {es es' : List MapEntry} {j : Nat} {res : Option (Nat × Value)}, ER P t r es es' → cFind l k.cells.toList es j = some res →
    ∃ res', (Instr.findAsking t k es' j).run P w = .ok res' w ∧ FR r res res'
  | [], [], j, res, _, h => by simp [cFind] at h; subst h; exact ⟨none, rfl, trivial⟩
  | e :: es, e' :: es', j, res, hr, h => by
    obtain ⟨⟨h1, h2, h3, h4⟩, h5⟩ := hr
    simp only [cFind] at h
    cases hc : cmpL l k.cells.toList e.key.cells.toList with
    | none => simp [hc] at h
    | some b =>
      have := equal_key (w := w) ht he hk h1 hc
      simp only [Instr.findAsking, h2, Sem.run_bind, this, Result.andThen_ok]
      cases b with
      | true => simp [hc] at h; subst h; exact ⟨some (j, e'.val), by simp, rfl, h4⟩
      | false => simp only [hc] at h; simpa using findAsking_ok ht he hk h5 h
  | [], _ :: _, _, _, h, _ => h.elim
  | _ :: _, [], _, _, h, _ => h.elim
theorem findKey_ok {t : TypeId} {i : TI} (ht : TOk P t i) {l : List CK} (he : i.eq = some l) {k : Value} (hk : KeyOf P t k) {es es' : List MapEntry} {res : Option (Nat × Value)} (hr : ER P t r es es') (h : cFind l k.cells.toList es 0 = some res) :
    ∃ res', (Instr.findKey t k es').run P w = .ok res' w ∧ FR r res res' := by
  have hu := ht.run_und (w := w)
  simp only [Instr.findKey, Sem.run_bind, hu, Result.andThen_ok]
  cases hagg : i.agg with
  | false =>
    obtain ⟨res', h1, h2⟩ := findNow_ok ht he hagg hk hr h
    exact ⟨res', by rw [h1]; rfl, h2⟩
  | true =>
    have hs : ∀ a b, Instr.sameNow i.u a b = none := fun a b => by
      have := ht.agg
      rw [hagg] at this
      unfold isAggB at this
      rw [ht.und] at this
      cases hiu : i.u <;> simp [hiu] at this <;> rfl
    cases es with
    | nil =>
      cases es' with
      | nil => simp [cFind] at h; subst h; exact ⟨none, rfl, trivial⟩
      | cons _ _ => exact hr.elim
    | cons e es =>
      cases es' with
      | nil => exact hr.elim
      | cons e' es' =>
        simp only [Instr.findNow, hs]
        exact findAsking_ok ht he hk hr h

theorem checkKey_run {t : TypeId} {i : TI} (ht : TOk P t i) {l : List CK} (he : i.eq = some l) {k : Value} (hk : KeyOf P t k) (em : Bool) : (Instr.checkKey em 10000 t k).run P w = .ok () w := by
  obtain ⟨n, hn, hd, hkk⟩ := ht.eq l he
  have := checkKey_ok n t l 10000 hkk hn w _ em hk.len hk.all
  rwa [← hk.val] at this

/-- A map's entries: of nil none. -/
def cMapEs (s : CS) (kt : TypeId) : Value → Option (List MapEntry)
  | .map none => some []
  | .map (some m) => match s.h.get m with
    | some (.map es _ k) => if k = kt then some es else none
    | _ => none
  | _ => none
def cLookup (tt : Nat → Option TI) (s : CS) (t : TypeId) (m k : Value) (ok : Bool) : Option Value :=
  match tt t with
  | some ⟨.map kt et, _, _, _, _, _⟩ => match tt kt, tt et with
    | some ki, some ei => match ki.eq, ei.zero, cMapEs s kt m with
      | some l, some z, some es => if keyOk ki k then match cFind l k.cells.toList es 0 with
          | some (some (_, v)) => some (if ok then .tuple #[v, .bool true] else v)
          | some none => some (if ok then .tuple #[z, .bool false] else z)
          | none => none
        else none
      | _, _, _ => none
    | _, _ => none
  | _ => none
theorem cMapEs_ok (hR : R P r s w) {kt : TypeId} {m m' : Value} (hm : VR r m m') {es : List MapEntry} (h : cMapEs s kt m = some es) : ∃ es', ER P kt r es es'.toList ∧
    ((m' = .map none ∧ es' = #[]) ∨ ∃ b c, m' = .map (some b) ∧ (getObj b).run P w = .ok (.map es' c) w) := by
  unfold cMapEs at h
  split at h
  · simp only [Option.some.injEq] at h; subst h
    cases hm
    exact ⟨#[], trivial, .inl ⟨rfl, rfl⟩⟩
  · split at h
    · rename_i es0 c k ho
      split at h
      · rename_i hk
        simp only [Option.some.injEq] at h; subst h; subst hk
        cases hm with
        | map hr =>
          obtain ⟨es', g1, g2, g3⟩ := map_obj (P := P) hR ho hr
          exact ⟨es', g2, .inr ⟨_, c, rfl, g3⟩⟩
      · cases h
    · cases h
  · cases h
theorem cLookup_ok (hT : ∀ t i, tt t = some i → TOk P t i) (hR : R P r s w) {t : TypeId} {m m' k k' v : Value} {ok : Bool} (hm : VR r m m') (hk : VR r k k') (h : cLookup tt s t m k ok = some v) : POk P r w (Instr.lookup t m' k' ok) v := by
  unfold cLookup at h
  split at h
  case h_2 => cases h
  rename_i kt et _ _ _ _ _ ht
  have hu := (hT _ _ ht).run_und (w := w)
  simp only at hu
  split at h
  case h_2 => cases h
  rename_i ki ei hki hei
  split at h
  case h_2 => cases h
  rename_i l z es hl hz hes
  split at h
  case isFalse => cases h
  rename_i hko
  obtain ⟨hp, hkey⟩ := keyOk_of (hT _ _ hki) hl hko
  rw [VR.eq_of_plain hp hk]
  obtain ⟨es', he1, he2⟩ := cMapEs_ok (P := P) hR hm hes
  have main : ∀ res, cFind l k.cells.toList es 0 = some res → ∃ res', FR r res res' ∧ (Instr.lookup t m' k ok).run P w = (match res' with
      | some (_, v) => .ok (if ok then .tuple #[v, .bool true] else v) w
      | none => .ok (if ok then .tuple #[z, .bool false] else z) w) := fun res hf => by
    obtain ⟨res', h1, h2⟩ := findKey_ok (w := w) (hT _ _ hki) hl hkey he1 hf
    refine ⟨res', h2, ?_⟩
    have hck := checkKey_run (w := w) (hT _ _ hki) hl hkey es'.isEmpty
    have hzr := (hT _ _ hei).run_zero (w := w) hz
    rcases he2 with ⟨rfl, rfl⟩ | ⟨b, c, rfl, hg⟩
    · simp only [Instr.lookup, Sem.run_bind, hu, Result.andThen_ok, Sem.run_pure]
      simp only [hck, Result.andThen_ok, h1]
      cases res' with
      | none => simp [hzr]
      | some q => rfl
    · simp only [Instr.lookup, Sem.run_bind, hu, Result.andThen_ok, hg, Sem.run_pure]
      simp only [hck, Result.andThen_ok, h1]
      cases res' with
      | none => simp [hzr]
      | some q => rfl
  split at h
  · rename_i j v0 hf
    obtain ⟨res', h1, h2⟩ := main _ hf
    simp only [Option.some.injEq] at h; subst h
    cases res' with
    | none => exact h1.elim
    | some q =>
      refine ⟨_, h2, ?_⟩
      cases ok
      · exact h1.2
      · exact VR.tuple_iff.2 ⟨_, rfl, h1.2, .bool _, trivial⟩
  · rename_i hf
    obtain ⟨res', h1, h2⟩ := main _ hf
    simp only [Option.some.injEq] at h; subst h
    cases res' with
    | some q => exact h1.elim
    | none =>
      refine ⟨_, h2, ?_⟩
      have := zero_vr (r := r) ((hT _ _ hei).zero z hz)
      cases ok
      · exact this
      · exact VR.tuple_iff.2 ⟨_, rfl, this, .bool _, trivial⟩
  · cases h

end
end Go.Cl

/- Maps of the clean machine: store, delete, going over one; a map's clone. -/
namespace Go.Cl
noncomputable section
variable {P : Program} {r : Ren} {s : CS} {w : World} {tt : Nat → Option TI}

def setVal (es : List MapEntry) (i : Nat) (v : Value) : List MapEntry := es.modify i fun e => { e with val := v }
def cMapUpdate (tt : Nat → Option TI) (s : CS) (t : TypeId) (m k v : Value) : Option CS :=
  match tt t, m with
  | some ⟨.map kt _, _, _, _, _, _⟩, .map (some a) => match tt kt, s.h.get a with
    | some ki, some (.map es c kt') => match ki.eq with
      | some l => if kt' = kt ∧ keyOk ki k = true then match cFind l k.cells.toList es 0 with
          | some (some (j, _)) => some ⟨s.h.set a (.map (setVal es j v) c kt), s.nx, s.up⟩
          | some none => some ⟨s.h.set a (.map (es ++ [{ key := k, val := v, born := c }]) (c + 1) kt), s.nx, s.up⟩
          | none => none
        else none
      | none => none
    | _, _ => none
  | _, _ => none
def cDelete (tt : Nat → Option TI) (s : CS) (t : TypeId) (m k : Value) : Option CS :=
  match tt t with
  | some ⟨.map kt _, _, _, _, _, _⟩ => match tt kt with
    | some ki => match ki.eq with
      | some l => if keyOk ki k = true then match m with
          | .map none => some s
          | .map (some a) => match s.h.get a with
            | some (.map es c kt') => if kt' = kt then match cFind l k.cells.toList es 0 with
                | some (some (j, _)) => some ⟨s.h.set a (.map (es.eraseIdx j) c kt), s.nx, s.up⟩
                | some none => some s
                | none => none
              else none
            | _ => none
          | _ => none
        else none
      | none => none
    | none => none
  | _ => none

theorem ER.append {kt : TypeId} : ∀ {a b c d : List MapEntry}, ER P kt r a b → ER P kt r c d → ER P kt r (a ++ c) (b ++ d)
  | [], [], _, _, _, h => h
  | _ :: _, _ :: _, _, _, h, k => ⟨h.1, ER.append h.2 k⟩
  | [], _ :: _, _, _, h, _ => h.elim
  | _ :: _, [], _, _, h, _ => h.elim
theorem ER.modify {kt : TypeId} : ∀ {a b : List MapEntry} (i : Nat) {v v' : Value} {k : Value}, ER P kt r a b → VR r v v' → (∀ e, b[i]? = some e → e.key = k) → ER P kt r (setVal a i v) (b.modify i fun e => { e with key := k, val := v' })
  | [], [], _, _, _, _, _, _, _ => by simp [setVal, ER]
  | x :: a, y :: b, 0, v, v', k, h, hv, hk => by
    have := hk y rfl
    subst this
    exact ⟨⟨h.1.1, h.1.2.1, h.1.2.2.1, hv⟩, h.2⟩
  | x :: a, y :: b, i + 1, v, v', k, h, hv, hk => by
    simp only [setVal, List.modify_succ_cons]
    exact ⟨h.1, ER.modify i h.2 hv fun e he => hk e (by simpa using he)⟩
  | [], _ :: _, _, _, _, _, h, _, _ => h.elim
  | _ :: _, [], _, _, _, _, h, _, _ => h.elim
theorem ER.erase {kt : TypeId} : ∀ {a b : List MapEntry} (i : Nat), ER P kt r a b → ER P kt r (a.eraseIdx i) (b.eraseIdx i)
  | [], [], _, _ => by simp [ER]
  | x :: a, y :: b, 0, h => h.2
  | x :: a, y :: b, i + 1, h => ⟨h.1, ER.erase i h.2⟩
  | [], _ :: _, _, h => h.elim
  | _ :: _, [], _, h => h.elim
theorem ER.get {kt : TypeId} : ∀ {a b : List MapEntry} {i : Nat} {e : MapEntry}, ER P kt r a b → a[i]? = some e → ∃ e', b[i]? = some e' ∧ KeyOf P kt e.key ∧ e'.key = e.key ∧ e'.born = e.born ∧ VR r e.val e'.val
  | [], [], _, _, _, h => by simp at h
  | x :: _, y :: _, 0, e, h, he => by simp at he; subst he; exact ⟨y, rfl, h.1⟩
  | _ :: _, _ :: _, i + 1, e, h, he => by simpa using ER.get h.2 (i := i) (by simpa using he)
  | [], _ :: _, _, _, h, _ => h.elim
  | _ :: _, [], _, _, h, _ => h.elim
theorem cFind_get {l : List CK} {k : List Value} : ∀ {es : List MapEntry} {i j : Nat} {v : Value}, cFind l k es i = some (some (j, v)) → i ≤ j ∧ ∃ e, es[j - i]? = some e ∧ cmpL l k e.key.cells.toList = some true
  | [], i, j, v, h => by simp [cFind] at h
  | e :: es, i, j, v, h => by
    simp only [cFind] at h
    cases hc : cmpL l k e.key.cells.toList with
    | none => simp [hc] at h
    | some b =>
      cases b with
      | true =>
        simp [hc] at h
        exact ⟨by omega, e, by simp [show j - i = 0 by omega], hc⟩
      | false =>
        simp only [hc] at h
        obtain ⟨h1, e', h2, h3⟩ := cFind_get h
        exact ⟨by omega, e', by rw [show j - i = (j - (i + 1)) + 1 by omega]; simpa using h2, h3⟩
theorem sameBits_cells (n : Nat) : ∀ {l : List CK} {a b : List Value}, cmpL l a b = some true → ∀ x ∈ a, Instr.sameBits n x x = true ∧ x.oneCell' = true
  | [], [], [], _, x, h => by cases h
  | k :: l, y :: a, z :: b, h, x, hx => by
    simp only [cmpL] at h
    cases hc : cmp1 k y z with
    | none => simp [hc] at h
    | some c =>
      cases c with
      | false => simp [hc] at h
      | true =>
        simp only [hc] at h
        rcases List.mem_cons.1 hx with rfl | hx
        · cases k <;> cases x <;> simp [cmp1] at hc
          · exact ⟨by simp [Instr.sameBits], rfl⟩
          · exact ⟨by simp [Instr.sameBits], rfl⟩
          · exact ⟨by simp [Instr.sameBits, beq_toListBytes], rfl⟩
        · exact sameBits_cells n h x hx
  | [], [], _ :: _, h, _, _ => by simp [cmpL] at h
  | [], _ :: _, _, h, _, _ => by simp [cmpL] at h
  | _ :: _, [], _, h, _, _ => by simp [cmpL] at h
  | _ :: _, _ :: _, [], h, _, _ => by simp [cmpL] at h
theorem sameBits_refl {l : List CK} {v : Value} {b : List Value} (h : cmpL l v.cells.toList b = some true) : Instr.sameBits 10000 v v = true := by
  have hz : ∀ (n : Nat) (a : List Value), (∀ x ∈ a, Instr.sameBits n x x = true) → (a.zip a).all (fun (x, y) => Instr.sameBits n x y) = true := by
    intro n a
    induction a with
    | nil => intro _; rfl
    | cons x a ih => intro hx; simp [hx x (by simp), ih fun y hy => hx y (by simp [hy])]
  cases v with
  | agg cs =>
    have e : Instr.sameBits 10000 (.agg cs) (.agg cs) = (cs.size == cs.size && (cs.toList.zip cs.toList).all fun (x, y) => Instr.sameBits 9999 x y) := rfl
    rw [e, hz 9999 cs.toList fun x hx => (sameBits_cells 9999 h x hx).1]
    simp
  | tuple cs => exact absurd (sameBits_cells 0 h (.tuple cs) (by simp [Value.cells])).2 (by simp [Value.oneCell'])
  | _ => exact (sameBits_cells 10000 h _ (by simp [Value.cells])).1
theorem run_getObj {b : Nat} {o : Obj} (h : w.heap[b]? = some o) (hn : ∀ c t f, o ≠ .cells c t f) : (getObj b).run P w = .ok o w := by
  cases o <;> first | (simp [getObj, Sem.run, h]; done) | exact absurd rfl (hn _ _ _)
theorem run_setObj {b : Nat} {o o' : Obj} (h : w.heap[b]? = some o) (hn : ∀ c t f, o ≠ .cells c t f) : (setObj b o').run P w = .ok () { w with heap := w.heap.setIfInBounds b o' } := by
  cases o <;> first | (simp [setObj, Sem.run, h]; done) | exact absurd rfl (hn _ _ _)
/-- An object that is no row of cells is turned in place. -/
theorem setobj_ok (hR : R P r s w) {a : Nat} {l : Loc} {o o' : CObj} {ob ob' : Obj} (ho : s.h.get a = some o) (hr : r a = some l) (hro : o.ro = false) (hro' : o'.ro = false) (hb : w.heap[l.b]? = some ob) (hn : ∀ c t f, ob ≠ .cells c t f)
    (hnew : OR P r { w with heap := w.heap.setIfInBounds l.b ob' } l o') :
    (setObj l.b ob').run P w = .ok () { w with heap := w.heap.setIfInBounds l.b ob' } ∧ R P r ⟨s.h.set a o', s.nx, s.up⟩ { w with heap := w.heap.setIfInBounds l.b ob' } ∧ Step r s w r ⟨s.h.set a o', s.nx, s.up⟩ { w with heap := w.heap.setIfInBounds l.b ob' } := by
  obtain ⟨h1, h2⟩ := R.upd hR (o' := o') (w' := { w with heap := w.heap.setIfInBounds l.b ob' }) ho hr hro hro' (by simp) (fun k hk => by simp [Array.getElem?_setIfInBounds, Ne.symm hk]) hnew ⟨rfl, rfl, rfl⟩
  exact ⟨run_setObj hb hn, h1, h2⟩

/-- What a store or a delete comes to. -/
def UOk (P : Program) (r : Ren) (s : CS) (w : World) (sem : Sem Unit) (s' : CS) : Prop := ∃ w', sem.run P w = .ok () w' ∧ R P r s' w' ∧ Step r s w r s' w'

theorem cMapUpdate_ok (hT : ∀ t i, tt t = some i → TOk P t i) (hR : R P r s w) {t : TypeId} {m m' k k' v v' : Value} {s' : CS} (hm : VR r m m') (hk : VR r k k') (hv : VR r v v') (h : cMapUpdate tt s t m k v = some s') : UOk P r s w (Instr.mapUpdate t m' k' v') s' := by
  unfold cMapUpdate at h
  split at h
  case h_2 => cases h
  rename_i kt et _ _ _ _ _ a ht
  have hu := (hT _ _ ht).run_und (w := w)
  simp only at hu
  split at h
  case h_2 => cases h
  rename_i ki es c kt' hki ho
  split at h
  case h_2 => cases h
  rename_i l hl
  split at h
  case isFalse => cases h
  rename_i hq
  obtain ⟨rfl, hko⟩ := hq
  obtain ⟨hp, hkey⟩ := keyOk_of (hT _ _ hki) hl hko
  rw [VR.eq_of_plain hp hk]
  cases hm with
  | @map _ lo hr =>
    obtain ⟨es', g1, g2, g3⟩ := map_obj (P := P) hR ho hr
    have hck := checkKey_run (w := w) (hT _ _ hki) hl hkey false
    have hne : ∀ c' t f, Obj.map es' c ≠ .cells c' t f := fun _ _ _ e => by cases e
    have hlt : lo.b < w.heap.size := (hR.dom _ _ hr).2
    split at h
    · rename_i j v0 hf
      simp only [Option.some.injEq] at h; subst h
      obtain ⟨res', f1, f2⟩ := findKey_ok (w := w) (hT _ _ hki) hl hkey g2 hf
      cases res' with
      | none => exact f2.elim
      | some q =>
        obtain ⟨j', v1⟩ := q
        obtain ⟨rfl, _⟩ := f2
        obtain ⟨_, e, he1, he2⟩ := cFind_get hf
        simp only [Nat.sub_zero] at he1
        obtain ⟨e', e1, e2, e3, e4, e5⟩ := g2.get he1
        have hke : e'.key = k := by
          rw [e3, e2.val, ← cmpL_eq he2, ← hkey.val]
        have hge : es'[j']? = some e' := by rw [← Array.getElem?_toList]; exact e1
        obtain ⟨q1, q2, q3⟩ := setobj_ok (P := P) hR (o' := .map (setVal es j' v) c kt') (ob' := .map (es'.modify j' fun e => { e with key := k, val := v' }) c) ho hr rfl rfl g1 hne
          ⟨es'.modify j' fun e => { e with key := k, val := v' }, by simp [hlt], by rw [Array.toList_modify]; exact g2.modify j' hv fun x hx => by rw [e1] at hx; cases hx; exact hke⟩
        refine ⟨_, ?_, q2, q3⟩
        have hstay : (Instr.keyThatStays (((es'[j']?).map (·.key)).getD k) k).run P w = .ok k w := by
          simp [hge, hke, Instr.keyThatStays, sameBits_refl he2]
        simp only [Instr.mapUpdate, Sem.run_bind, hu, Result.andThen_ok, g3, hck, f1]
        rw [hstay]
        exact q1
    · rename_i hf
      simp only [Option.some.injEq] at h; subst h
      obtain ⟨res', f1, f2⟩ := findKey_ok (w := w) (hT _ _ hki) hl hkey g2 hf
      cases res' with
      | some q => exact f2.elim
      | none =>
        obtain ⟨q1, q2, q3⟩ := setobj_ok (P := P) hR (o' := .map (es ++ [{ key := k, val := v, born := c }]) (c + 1) kt') (ob' := .map (es'.push { key := k, val := v', born := c }) (c + 1)) ho hr rfl rfl g1 hne
          ⟨es'.push { key := k, val := v', born := c }, by simp [hlt], by rw [Array.toList_push]; exact g2.append ⟨⟨hkey, rfl, rfl, hv⟩, trivial⟩⟩
        refine ⟨_, ?_, q2, q3⟩
        simp only [Instr.mapUpdate, Sem.run_bind, hu, Result.andThen_ok, g3, hck, f1]
        exact q1
    · cases h

theorem cDelete_ok (hT : ∀ t i, tt t = some i → TOk P t i) (hR : R P r s w) {t ty : TypeId} {at2 : Array TypeId} (hat : at2[0]? = some t) {m m' k k' : Value} {s' : CS} (hm : VR r m m') (hk : VR r k k') (h : cDelete tt s t m k = some s') : VOk P r s w (Builtin.delete_ at2 ty #[m', k']) (.tuple #[]) s' := by
  have hund : VR r (.tuple #[]) (.tuple #[]) := .of_const rfl
  unfold cDelete at h
  split at h
  case h_2 => cases h
  rename_i kt et _ _ _ _ _ ht
  have hu := (hT _ _ ht).run_und (w := w)
  simp only at hu
  split at h
  case h_2 => cases h
  rename_i ki hki
  split at h
  case h_2 => cases h
  rename_i l hl
  split at h
  case isFalse => cases h
  rename_i hko
  obtain ⟨hp, hkey⟩ := keyOk_of (hT _ _ hki) hl hko
  rw [VR.eq_of_plain hp hk]
  split at h
  · simp only [Option.some.injEq] at h; subst h
    cases hm
    have hck := checkKey_run (w := w) (hT _ _ hki) hl hkey true
    exact (POk.vok ⟨_, by simp [Builtin.delete_, hat, hu, hck], hund⟩ hR)
  · rename_i a
    cases hm with
    | @map _ lo hr =>
      split at h
      case h_2 => cases h
      rename_i es c kt' ho
      split at h
      case isFalse => cases h
      rename_i hkk
      subst hkk
      obtain ⟨es', g1, g2, g3⟩ := map_obj (P := P) hR ho hr
      have hck := checkKey_run (w := w) (hT _ _ hki) hl hkey es'.isEmpty
      have hne : ∀ c' t f, Obj.map es' c ≠ .cells c' t f := fun _ _ _ e => by cases e
      have hlt : lo.b < w.heap.size := (hR.dom _ _ hr).2
      split at h
      · rename_i j v0 hf
        simp only [Option.some.injEq] at h; subst h
        obtain ⟨res', f1, f2⟩ := findKey_ok (w := w) (hT _ _ hki) hl hkey g2 hf
        cases res' with
        | none => exact f2.elim
        | some q =>
          obtain ⟨j', v1⟩ := q
          obtain ⟨rfl, _⟩ := f2
          obtain ⟨q1, q2, q3⟩ := setobj_ok (P := P) hR (o' := .map (es.eraseIdx j') c kt') (ob' := .map (es'.eraseIdxIfInBounds j') c) ho hr rfl rfl g1 hne
            ⟨es'.eraseIdxIfInBounds j', by simp [hlt], by
              have : (es'.eraseIdxIfInBounds j').toList = es'.toList.eraseIdx j' := by
                simp only [Array.eraseIdxIfInBounds]
                split
                · simp
                · rename_i hh; rw [List.eraseIdx_of_length_le (by simpa using hh)]
              rw [this]; exact g2.erase j'⟩
          refine ⟨_, r, _, ?_, hund, q2, q3⟩
          simp [Builtin.delete_, hat, hu, g3, hck, f1, q1]
      · rename_i hf
        simp only [Option.some.injEq] at h; subst h
        obtain ⟨res', f1, f2⟩ := findKey_ok (w := w) (hT _ _ hki) hl hkey g2 hf
        cases res' with
        | some q => exact f2.elim
        | none =>
          have hset := run_setObj (P := P) (o' := .map es' c) g1 hne
          have hsame : ({ w with heap := w.heap.setIfInBounds lo.b (.map es' c) } : World) = w := by
            have : w.heap.setIfInBounds lo.b (.map es' c) = w.heap := by
              apply Array.ext_getElem?
              intro i
              by_cases hi : i = lo.b
              · rw [hi, g1, Array.getElem?_setIfInBounds]; simp [hlt]
              · simp [Array.getElem?_setIfInBounds, Ne.symm hi]
            rw [this]
          rw [hsame] at hset
          exact (POk.vok ⟨_, by simp [Builtin.delete_, hat, hu, g3, hck, f1, hset], hund⟩ hR)
      · cases h
  · cases h

/-- Going over a map. -/
def cRange (tt : Nat → Option TI) (s : CS) (t : TypeId) (x : Value) : Option (Value × CS) :=
  match tt t, x with
  | some ⟨.map _ _, _, _, _, _, _⟩, .map none => some (.pointer (some ⟨s.nx, 0, none⟩), ⟨s.h.set s.nx (.iter none 0 [] 0), s.up, s.up + 1⟩)
  | some ⟨.map _ _, _, _, _, _, _⟩, .map (some m) => match s.h.get m with
    | some (.map _ c _) => some (.pointer (some ⟨s.nx, 0, none⟩), ⟨s.h.set s.nx (.iter (some m) c [] c), s.up, s.up + 1⟩)
    | _ => none
  | _, _ => none
theorem cRange_ok (hT : ∀ t i, tt t = some i → TOk P t i) (hR : R P r s w) {t : TypeId} {x x' v : Value} {s' : CS} (hx : VR r x x') (h : cRange tt s t x = some (v, s')) : VOk P r s w (Instr.range t x') v s' := by
  unfold cRange at h
  split at h
  · rename_i ht
    have hu := (hT _ _ ht).run_und (w := w)
    simp only at hu
    simp only [Option.some.injEq, Prod.mk.injEq] at h
    obtain ⟨rfl, rfl⟩ := h
    cases hx
    obtain ⟨h3, h4⟩ := newobj_ok hR (.iter none 0 [] 0) (.mapIter none 0 #[] 0) 0 0 ⟨none, by simp, rfl, rfl⟩
    refine ⟨.pointer (some ⟨w.heap.size, 0, none⟩), _, _, by simp [Instr.range, hu], ?_, h3, h4⟩
    exact VR.ptr (l := ⟨w.heap.size, 0, 0, 0⟩) 0 (Ren.put_same _ _ _)
  · rename_i m ht
    have hu := (hT _ _ ht).run_und (w := w)
    simp only at hu
    split at h
    case h_2 => cases h
    rename_i es c kt ho
    simp only [Option.some.injEq, Prod.mk.injEq] at h
    obtain ⟨rfl, rfl⟩ := h
    cases hx with
    | @map _ lo hr =>
      obtain ⟨es', g1, g2, g3⟩ := map_obj (P := P) hR ho hr
      obtain ⟨h3, h4⟩ := newobj_ok hR (.iter (some m) c [] c) (.mapIter (some lo.b) c #[] c) 0 0 ⟨some lo.b, by simp, rfl, lo, hR.put_mono _ _ _ hr, rfl⟩
      refine ⟨.pointer (some ⟨w.heap.size, 0, none⟩), _, _, by simp [Instr.range, hu, g3], ?_, h3, h4⟩
      exact VR.ptr (l := ⟨w.heap.size, 0, 0, 0⟩) 0 (Ren.put_same _ _ _)
  · cases h

/-- What an iterator may give next: nothing more (none), or one of the entries that it has not given. -/
def cLeft (es : List MapEntry) (seen : List Nat) : List MapEntry := es.filter fun e => !seen.contains e.born
/-- All that one step of an iterator may come to, where the map has not been written since it began. -/
def cNexts (s : CS) (it : Value) : Option (List (Value × CS)) :=
  match it with
  | .pointer (some ⟨a, 0, none⟩) => match s.h.get a with
    | some (.iter none _ _ _) => some [(.tuple #[.bool false], s)]
    | some (.iter (some m) since seen last) => match s.h.get m with
      | some (.map es c _) => if es.all (fun e => decide (e.born < since) && decide (e.born < last)) then match cLeft es seen with
          | [] => some [(.tuple #[.bool false], s)]
          | l => some (l.map fun e => (.tuple #[.bool true, e.key, e.val], ⟨s.h.set a (.iter (some m) since (seen ++ [e.born]) c), s.nx, s.up⟩))
        else none
      | _ => none
    | _ => none
  | _ => none
theorem ER.filter {kt : TypeId} (f : Nat → Bool) : ∀ {a b : List MapEntry}, ER P kt r a b → ER P kt r (a.filter fun e => f e.born) (b.filter fun e => f e.born)
  | [], [], _ => trivial
  | x :: a, y :: b, h => by
    simp only [List.filter_cons, h.1.2.2.1]
    split
    · exact ⟨h.1, ER.filter f h.2⟩
    · exact ER.filter f h.2
  | [], _ :: _, h => h.elim
  | _ :: _, [], h => h.elim
theorem ER.all {kt : TypeId} (f : Nat → Bool) : ∀ {a b : List MapEntry}, ER P kt r a b → (b.all fun e => f e.born) = (a.all fun e => f e.born)
  | [], [], _ => rfl
  | x :: a, y :: b, h => by simp [h.1.2.2.1, ER.all f h.2]
  | [], _ :: _, h => h.elim
  | _ :: _, [], h => h.elim
theorem run_choose_next {n : Nat} (hn : 0 < n) : ∃ k w1, (choose (.mapNext n)).run P w = .ok k w1 ∧ k < n ∧ w1.heap = w.heap ∧ (w1.os = w.os ∧ w1.output = w.output ∧ w1.tape = w.tape) := by
  rw [run_choose]
  split
  · exact ⟨0, w, rfl, hn, rfl, rfl, rfl, rfl⟩
  · exact ⟨_, _, rfl, by simp only [Question.cut]; exact Nat.mod_lt _ hn, rfl, rfl, rfl, rfl⟩
theorem cNexts_ok (hR : R P r s w) {it it' : Value} {ty : TypeId} (hi : VR r it it') {l : List (Value × CS)} (h : cNexts s it = some l) : ∃ v s', (v, s') ∈ l ∧ VOk P r s w (Instr.next it' false ty) v s' := by
  have hover : VR r (.tuple #[.bool false]) (.tuple #[.bool false]) := .of_const rfl
  unfold cNexts at h
  split at h
  case h_2 => cases h
  rename_i a
  cases hi with
  | @ptr _ lo _ hr =>
    split at h
    · rename_i _ _ _ ho
      simp only [Option.some.injEq] at h; subst h
      obtain ⟨m', g1, g2, g3⟩ := hR.obj _ _ _ ho hr
      subst g3
      have hg := run_getObj (P := P) g1 (fun _ _ _ e => by cases e)
      refine ⟨_, _, List.mem_singleton.2 rfl, (POk.vok ⟨_, ?_, hover⟩ hR)⟩
      rw [g2]
      simp [Instr.next, hg]
    · rename_i m since seen last ho
      split at h
      case h_2 => cases h
      rename_i es c kt hm
      split at h
      case isFalse => cases h
      rename_i hall
      obtain ⟨m', g1, g2, mk, g3, rfl⟩ := hR.obj _ _ _ ho hr
      obtain ⟨es', e1, e2, e3⟩ := map_obj (P := P) hR hm g3
      have hg := run_getObj (P := P) g1 (fun _ _ _ e => by cases e)
      have hall' : ∀ e ∈ es'.toList, e.born < since ∧ e.born < last := by
        have := e2.all (fun b => decide (b < since) && decide (b < last))
        rw [hall, List.all_eq_true] at this
        intro e he
        simpa using this e he
      have c1 : (!seen.toArray.isEmpty && !es'.isEmpty && es'.all fun e => decide (e.born ≥ last)) = false := by
        rw [Bool.and_eq_false_iff]
        cases hl : es'.toList with
        | nil => left; have : es' = #[] := by rw [← Array.toList_inj]; simpa using hl
                 simp [this]
        | cons e rest =>
          right
          rw [← Array.all_toList, hl]
          have := (hall' e (by rw [hl]; simp)).2
          simp only [List.all_cons, Bool.and_eq_false_iff, decide_eq_false_iff_not]
          left; omega
      have hleft : (es'.filter fun e => !seen.toArray.contains e.born).toList = es'.toList.filter fun e => !seen.contains e.born := by
        rw [Array.toList_filter]; congr 1; funext e; simp
      have hold : ((es'.filter fun e => !seen.toArray.contains e.born).filter fun e => decide (e.born < since)) = (es'.filter fun e => !seen.toArray.contains e.born) := by
        rw [← Array.toList_inj, Array.toList_filter, hleft]
        rw [List.filter_eq_self]
        intro e he
        simpa using (hall' e ((List.mem_filter.1 he).1)).1
      have hnew : ((es'.filter fun e => !seen.toArray.contains e.born).filter fun e => decide (e.born ≥ since)) = #[] := by
        rw [← Array.toList_inj, Array.toList_filter, hleft]
        simp only [List.filter_eq_nil_iff]
        intro e he
        have := (hall' e ((List.mem_filter.1 he).1)).1
        simp; omega
      have hfr := e2.filter (fun b => !seen.contains b)
      rw [← hleft] at hfr
      generalize hLdef : (es'.filter fun e => !seen.toArray.contains e.born) = L at hold hnew hfr
      have hcl : cLeft es seen = es.filter fun e => !seen.contains e.born := rfl
      rw [← hcl] at hfr
      have hrun : ∀ X : Sem Value → Sem Value, X = X := fun _ => rfl
      have base : (Instr.next (.pointer (some ⟨lo.b, lo.o + 0, none⟩)) false ty).run P w = ((choose (.mapNext ((if L.isEmpty then #[none] else #[]) ++ L.map some).size)).run P w).andThen fun k w1 => Sem.run P (match ((if L.isEmpty then #[none] else #[]) ++ L.map some)[k]? with
          | some (some e) => do
            setObj lo.b (.mapIter (some mk.b) since (seen.toArray.push e.born) c)
            pure (.tuple #[.bool true, e.key, e.val])
          | some none => pure (.tuple #[.bool false])
          | none => stuck "Next: no such candidate") w1 := by
        rw [g2]
        simp only [Instr.next, Sem.run_bind, hg, Result.andThen_ok, e3, c1, Bool.false_eq_true, if_false, hLdef, hold, hnew, Array.append_empty]
        rfl
      have hne : ∀ c' t f, Obj.mapIter (some mk.b) since seen.toArray last ≠ .cells c' t f := fun _ _ _ e => by cases e
      have hlt : lo.b < w.heap.size := (hR.dom _ _ hr).2
      split at h
      · rename_i hnil
        simp only [Option.some.injEq] at h; subst h
        rw [hnil] at hfr
        have hL : L = #[] := by
          rw [← Array.toList_inj]
          exact List.eq_nil_of_length_eq_zero hfr.length
        subst hL
        refine ⟨_, _, List.mem_singleton.2 rfl, (POk.vok ⟨_, ?_, hover⟩ hR)⟩
        rw [base]
        simp [Question.forced]
      · rename_i l' hnn
        simp only [Option.some.injEq] at h; subst h
        have hlen : L.size = (cLeft es seen).length := by simpa using hfr.length
        have hpos : 0 < L.size := by
          rw [hlen]
          cases hh : cLeft es seen with
          | nil => exact absurd hh (by simpa using hnn)
          | cons _ _ => simp
        have hemp : L.isEmpty = false := by simp; intro h; simp [h] at hpos
        obtain ⟨k, w1, k1, k2, k3, k4⟩ := run_choose_next (P := P) (w := w) hpos
        have hk : k < (cLeft es seen).length := by omega
        obtain ⟨e', q1, q2, q3, q4, q5⟩ := hfr.get (i := k) (e := (cLeft es seen)[k]) (by simp [hk])
        rw [Array.getElem?_toList] at q1
        have hR1 := hR.same k3
        obtain ⟨m1, m2, m3⟩ := setobj_ok (P := P) hR1 (o' := .iter (some m) since (seen ++ [(cLeft es seen)[k].born]) c) (ob' := .mapIter (some mk.b) since (seen.toArray.push e'.born) c) ho hr rfl rfl (by rw [k3]; exact g1) hne
          ⟨some mk.b, by simp [k3, hlt, q4], g2, mk, g3, rfl⟩
        refine ⟨(.tuple #[.bool true, (cLeft es seen)[k].key, (cLeft es seen)[k].val]), _, List.mem_map.2 ⟨(cLeft es seen)[k], by simp, rfl⟩, .tuple #[.bool true, e'.key, e'.val], r, _, ?_, ?_, m2, Step.trans (fun id l hl => (hR.dom id l hl).1) (Step.same k3 k4) m3⟩
        · rw [base]
          simp only [hemp, Bool.false_eq_true, if_false, Array.empty_append, Array.size_map, k1, Result.andThen_ok, Array.getElem?_map, q1, Option.map_some, Sem.run_bind, m1, Sem.run_pure]
        · refine VR.tuple_iff.2 ⟨_, rfl, .bool _, ?_, q5, trivial⟩
          rw [q3]; exact .of_plain q2.plain
    · cases h

end
end Go.Cl

/- All operations of the clean machine that call no Go function, and what each says of the model's operation. -/
namespace Go.Cl
noncomputable section
variable {P : Program} {r : Ren} {s : CS} {w : World}

/-- The entry that an iterator gave last. -/
def cEntry (s : CS) (it : Value) : Option Value :=
  match it with
  | .pointer (some ⟨a, 0, none⟩) => match s.h.get a with
    | some (.iter (some m) _ seen stepped) => match s.h.get m, seen.getLast? with
      | some (.map es c _), some b => if c = stepped then match es.find? (fun e => e.born == b) with
          | some e => some (.tuple #[e.key, e.val])
          | none => none
        else none
      | _, _ => none
    | _ => none
  | _ => none
theorem ER.find {kt : TypeId} (b : Nat) : ∀ {xs ys : List MapEntry} {e : MapEntry}, ER P kt r xs ys → xs.find? (fun e => e.born == b) = some e → ∃ e', ys.find? (fun e => e.born == b) = some e' ∧ KeyOf P kt e.key ∧ e'.key = e.key ∧ VR r e.val e'.val
  | [], [], _, _, h => by simp at h
  | x :: xs, y :: ys, e, h, hf => by
    simp only [List.find?_cons, h.1.2.2.1] at hf ⊢
    split at hf
    · simp only [Option.some.injEq] at hf; subst hf
      exact ⟨y, by simp_all, h.1.1, h.1.2.1, h.1.2.2.2⟩
    · simpa [*] using ER.find b h.2 hf
  | [], _ :: _, _, h, _ => h.elim
  | _ :: _, [], _, h, _ => h.elim
theorem cEntry_ok (hR : R P r s w) {it it' v : Value} (hi : VR r it it') (h : cEntry s it = some v) : POk P r w (Instr.entry it') v := by
  unfold cEntry at h
  split at h
  case h_2 => cases h
  rename_i a
  cases hi with
  | @ptr _ lo _ hr =>
    split at h
    case h_2 => cases h
    rename_i m since seen stepped ho
    split at h
    case h_2 => cases h
    rename_i es c kt b hm hl
    split at h
    case isFalse => cases h
    rename_i hc
    subst hc
    split at h
    case h_2 => cases h
    rename_i e he
    simp only [Option.some.injEq] at h; subst h
    obtain ⟨m', g1, g2, mk, g3, rfl⟩ := hR.obj _ _ _ ho hr
    obtain ⟨es', e1, e2, e3⟩ := map_obj (P := P) hR hm g3
    have hg := run_getObj (P := P) g1 (fun _ _ _ e => by cases e)
    obtain ⟨e', q1, q2, q3, q4⟩ := e2.find b he
    have hf : es'.find? (fun e => e.born == b) = some e' := by rw [← Array.find?_toList]; exact q1
    have hb : seen.toArray.back? = some b := by simpa [Array.back?, List.getLast?_eq_getElem?] using hl
    refine ⟨.tuple #[e'.key, e'.val], ?_, VR.tuple_iff.2 ⟨_, rfl, by rw [q3]; exact .of_plain q2.plain, q4, trivial⟩⟩
    rw [g2]
    simp [Instr.entry, hg, hb, e3, hf]

/-- What is known of a body-less function. -/
inductive Ext where
  | add64 | cmp | clone
def extSem : Ext → Array Value → Sem Value
  | .add64 => fun args => do
    let (x, y, c) ← Extern.MathBitsCarry.three "Add64" args
    pure (Extern.MathBitsCarry.pair ((x + y + c) % Extern.MathBitsCarry.m64) ((x + y + c) / Extern.MathBitsCarry.m64))
  | .cmp => Extern.BytealgCompare.compare
  | .clone => Extern.MapsClone.clone
def ExtOk (P : Program) (f : FuncId) (k : Ext) : Prop := ∀ (args : Array Value) (w : World), (callFunc f args).run P w = ((extSem k args).run P w).andThen fun v w' => .ok (.value v) w'

/-- The bytes of a slice. -/
def cBytes (s : CS) : Value → Option ByteArray
  | .slice none 0 0 => some .empty
  | .slice (some ⟨a, off, none⟩) len _ => if len = 0 then some .empty else match s.h.get a with
    | some (.cells c _ _) => if off + len ≤ c.length then bytesOf ((c.drop off).take len) .empty else none
    | _ => none
  | _ => none
theorem cells_at (h : R P r s w) {a : Nat} {l : Loc} {c : List Value} {m : CMode} {sz off n : Nat} (ho : s.h.get a = some (.cells c m sz)) (hr : r a = some l) (hn : off + n ≤ c.length) :
    ∃ ys, VL r ((c.drop off).take n) ys ∧ ∀ j v, ys[j]? = some v → w.cell? ⟨l.b, l.o + off + j, none⟩ = some v := by
  obtain ⟨cs, t, fr, hb, h1, h2, h3, _⟩ := h.obj _ _ _ ho hr
  refine ⟨(((cs.toList.drop l.o).take c.length).drop off).take n, (h3.drop off).take n, fun j v hj => ?_⟩
  have hjn : j < n := by
    have := List.getElem?_eq_some_iff.1 hj; obtain ⟨x, _⟩ := this; simp at x; omega
  simp only [World.cell?, hb, Option.isSome_none, Bool.false_eq_true, if_false]
  simp only [List.getElem?_take, hjn, if_true, List.getElem?_drop] at hj
  rw [if_pos (by omega)] at hj
  rw [← Array.getElem?_toList, ← hj]; congr 1; omega
theorem loadBytes_ok : ∀ (l : List Value) (b o : Nat) (acc res : ByteArray), (∀ j v, l[j]? = some v → w.cell? ⟨b, o + j, none⟩ = some v) → bytesOf l acc = some res → (Extern.Bytes.loadBytes ⟨b, o, none⟩ l.length acc).run P w = .ok res w
  | [], b, o, acc, res, _, h => by simp [bytesOf] at h; subst h; rfl
  | v :: l, b, o, acc, res, hc, h => by
    unfold bytesOf at h
    split at h
    case h_2 => cases h
    rename_i u hu
    obtain ⟨n, rfl, rfl⟩ := byte1_inv hu
    have h0 := hc 0 _ rfl
    rw [Nat.add_zero] at h0
    simp only [List.length_cons, Extern.Bytes.loadBytes, Sem.run_bind, run_load, h0, Result.andThen_ok, add_mk]
    exact loadBytes_ok l b (o + 1) _ _ (fun j v hj => by rw [Nat.add_assoc, Nat.add_comm 1 j]; exact hc (j + 1) v (by simpa using hj)) h
theorem cBytes_ok (hR : R P r s w) {x x' : Value} {b : ByteArray} (hx : VR r x x') (h : cBytes s x = some b) : (Extern.Bytes.bytesOf x').run P w = .ok b w := by
  unfold cBytes at h
  split at h
  · simp only [Option.some.injEq] at h; subst h
    cases hx; rfl
  · rename_i a off len cap
    split at h
    · rename_i h0
      subst h0
      simp only [Option.some.injEq] at h; subst h
      cases hx <;> rfl
    · rename_i h0
      split at h
      case h_2 => cases h
      rename_i c m sz ho
      split at h
      case isFalse => cases h
      rename_i hl
      have fin : ∀ {l : Loc} {p : Addr} {cc : Nat}, r a = some l → p = ⟨l.b, l.o + off, none⟩ → (Extern.Bytes.bytesOf (.slice (some p) len cc)).run P w = .ok b w := by
        rintro l p cc hr rfl
        obtain ⟨ys, g1, g2⟩ := cells_at hR ho hr hl
        have := loadBytes_ok (P := P) ys _ _ _ _ g2 (bytesOf_vr g1 h)
        rw [g1.length] at this
        have hlen : ((c.drop off).take len).length = len := by simp; omega
        rw [hlen] at this
        exact this
      cases hx with
      | slice _ _ _ p hr hp hlc _ => exact fin hr (hp (by omega))
      | sliceU _ _ _ p hr hp _ hlc _ => exact fin hr (hp (by omega))
  · cases h
def cExt (s : CS) : Ext → List Value → Option (Value × CS)
  | .add64, [.int _ x, .int _ y, .int _ c] => if c.toNat ≤ 1 then
      some (.tuple #[.int .u64 ((x.toNat + y.toNat + c.toNat) % 18446744073709551616 : Nat), .int .u64 ((x.toNat + y.toNat + c.toNat) / 18446744073709551616 : Nat)], s)
    else none
  | .cmp, [a, b] => match cBytes s a, cBytes s b with
    | some x, some y => some (goInt (Extern.BytealgCompare.cmp x y), s)
    | _, _ => none
  | .clone, [.iface t (.map (some a))] => match s.h.get a with
    | some (.map es c kt) => some (.iface t (.map (some s.nx)), ⟨s.h.set s.nx (.map es c kt), s.up, s.up + 1⟩)
    | _ => none
  | _, _ => none
theorem cExt_ok (hR : R P r s w) {k : Ext} {xs xs' : List Value} {v : Value} {s' : CS} (hx : VL r xs xs') (h : cExt s k xs = some (v, s')) : VOk P r s w (extSem k xs'.toArray) v s' := by
  unfold cExt at h
  split at h
  · rename_i k1 x k2 y k3 c
    split at h
    case isFalse => cases h
    rename_i hc
    simp only [Option.some.injEq, Prod.mk.injEq] at h
    obtain ⟨rfl, rfl⟩ := h
    match xs', hx with
    | [a, b, d], ⟨h1, h2, h3, _⟩ =>
      cases h1; cases h2; cases h3
      refine (POk.vok ⟨_, ?_, .of_const rfl⟩ hR)
      have hc' : ¬ (c.toNat > 1) := by omega
      have e : Extern.MathBitsCarry.three "Add64" #[.int k1 x, .int k2 y, .int k3 c] = (do
          let c ← (pure c.toNat : Sem Nat)
          if c > 1 then unsupported (.noEntry ("extern/math/bits.Add64: a carry that is neither 0 nor 1"))
          pure (x.toNat, y.toNat, c)) := rfl
      simp only [extSem, e, Sem.run_bind, Sem.run_pure, Result.andThen_ok, Sem.run_ite]
      rw [if_neg hc']
      rfl
  · rename_i a b
    split at h
    case h_2 => cases h
    rename_i x y hx1 hy1
    simp only [Option.some.injEq, Prod.mk.injEq] at h
    obtain ⟨rfl, rfl⟩ := h
    match xs', hx with
    | [a', b'], ⟨h1, h2, _⟩ =>
      have e : extSem .cmp [a', b'].toArray = (do pure (goInt (Extern.BytealgCompare.cmp (← Extern.Bytes.bytesOf a') (← Extern.Bytes.bytesOf b')))) := rfl
      refine (POk.vok ⟨_, ?_, .int _ _⟩ hR)
      rw [e]
      simp only [Sem.run_bind, cBytes_ok hR h1 hx1, cBytes_ok hR h2 hy1, Result.andThen_ok, Sem.run_pure]
      rfl
  · rename_i t a
    split at h
    case h_2 => cases h
    rename_i es c kt ho
    simp only [Option.some.injEq, Prod.mk.injEq] at h
    obtain ⟨rfl, rfl⟩ := h
    match xs', hx with
    | [b], ⟨h1, _⟩ =>
      cases h1 with
      | iface _ _ v' h1 =>
        cases h1 with
        | @map _ lo hr =>
          obtain ⟨es', g1, g2, g3⟩ := map_obj (P := P) hR ho hr
          obtain ⟨q1, q2⟩ := newobj_ok hR (.map es c kt) (.map es' c) 0 0 ⟨es', by simp, g2.mono (hR.put_mono _)⟩
          refine ⟨.iface t (.map (some w.heap.size)), _, _, ?_, .iface _ _ _ (.map (l := ⟨w.heap.size, 0, 0, 0⟩) (Ren.put_same _ _ _)), q1, q2⟩
          have e : extSem .clone #[.iface t (.map (some lo.b))] = (do
              let .map entries clock ← getObj lo.b | stuck "maps.clone: a map expected"
              pure (.iface t (.map (some (← newObj (.map entries clock)))))) := rfl
          rw [e]
          simp [g3]
  · cases h

end
end Go.Cl

/- The clean machine's operations in one function, and its soundness. -/
namespace Go.Cl
noncomputable section
variable {P : Program} {r : Ren} {s : CS} {w : World}

/-- What the clean machine knows of the program. -/
structure Ctx where
  tt : Nat → Option TI
  fn : FuncId → Option Func
  ext : FuncId → Option Ext
  /-- functions that leave memory alone, by what they yield -/
  pf : FuncId → Option (List Value → Option Value)
  G : Nat
/-- A function leaves memory alone and yields what is said. -/
def PureOk (P : Program) (f : FuncId) (h : List Value → Option Value) : Prop := ∀ {args v}, h args = some v → ∀ {r s w args'}, R P r s w → VL r args args' →
  CallsIn Fence.wide 0 P f args'.toArray w (fun e w' => ∃ v' r', e = .returned v' ∧ VR r' v v' ∧ R P r' s w' ∧ Step r s w r' s w')
structure COk (P : Program) (X : Ctx) : Prop where
  tt : ∀ t i, X.tt t = some i → TOk P t i
  fn : ∀ f x, X.fn f = some x → P.funcs[f]? = some x ∧ x.body.isSome = true ∧ x.name ≠ "runtime.NumGoroutine"
  ext : ∀ f k, X.ext f = some k → ExtOk P f k
  pf : ∀ f h, X.pf f = some h → PureOk P f h
  G : X.G = P.globals.size
  mixed : P.follows .mixedOrders = true

def ev (X : Ctx) (T : PM Value) : Operand → Option Value
  | .tmp t => T.get t
  | .const v => if constOk v then some v else none
  | .global g => if g < X.G then some (.pointer (some ⟨g, 0, none⟩)) else none
  | .func f => some (.func (.func f) #[] #[])
def evs (X : Ctx) (T : PM Value) : List Operand → Option (List Value)
  | [] => some []
  | x :: l => match ev X T x, evs X T l with
    | some v, some vs => some (v :: vs)
    | _, _ => none
def evp (X : Ctx) (T : PM Value) : List (Nat × Operand) → Option (List (Nat × Value))
  | [] => some []
  | (i, x) :: l => match ev X T x, evp X T l with
    | some v, some vs => some ((i, v) :: vs)
    | _, _ => none
def evo (X : Ctx) (T : PM Value) : Option Operand → Option (Option Value)
  | none => some none
  | some x => (ev X T x).map some

theorem ev_ok {X : Ctx} (hX : COk P X) (hR : R P r s w) {T : PM Value} {N : Nat} {a : Act} (hT : TR r T N a.tmps) {x : Operand} {v : Value} (h : ev X T x = some v) : VR r v (a.eval x) := by
  cases x with
  | tmp t =>
    obtain ⟨v', h1, h2⟩ := hT.2 t v h
    simpa [Act.eval, h1] using h2
  | const c =>
    simp only [ev] at h
    split at h
    · simp only [Option.some.injEq] at h; subst h; exact .of_const (by assumption)
    · cases h
  | global g =>
    simp only [ev] at h
    split at h
    · rename_i hg
      simp only [Option.some.injEq] at h; subst h
      obtain ⟨l, h1, h2, h3⟩ := hR.glob g (hX.G ▸ hg)
      have := VR.ptr (r := r) (a := g) (l := l) 0 h1
      rw [h2, h3] at this
      exact this
    · cases h
  | func f =>
    simp only [ev, Option.some.injEq] at h; subst h
    exact VR.func_iff.2 ⟨#[], #[], rfl, trivial, trivial⟩
theorem evs_ok {X : Ctx} (hX : COk P X) (hR : R P r s w) {T : PM Value} {N : Nat} {a : Act} (hT : TR r T N a.tmps) : ∀ {xs : List Operand} {vs : List Value}, evs X T xs = some vs → VL r vs (xs.map a.eval)
  | [], vs, h => by simp [evs] at h; subst h; trivial
  | x :: xs, vs, h => by
    simp only [evs] at h
    split at h
    · rename_i v l h1 h2
      simp only [Option.some.injEq] at h; subst h
      exact ⟨ev_ok hX hR hT h1, evs_ok hX hR hT h2⟩
    · cases h
theorem evp_ok {X : Ctx} (hX : COk P X) (hR : R P r s w) {T : PM Value} {N : Nat} {a : Act} (hT : TR r T N a.tmps) : ∀ {xs : List (Nat × Operand)} {vs : List (Nat × Value)}, evp X T xs = some vs → PR r vs (xs.map fun (i, x) => (i, a.eval x))
  | [], vs, h => by simp [evp] at h; subst h; trivial
  | (i, x) :: xs, vs, h => by
    simp only [evp] at h
    split at h
    · rename_i v l h1 h2
      simp only [Option.some.injEq] at h; subst h
      exact ⟨⟨rfl, ev_ok hX hR hT h1⟩, evp_ok hX hR hT h2⟩
    · cases h
theorem evo_ok {X : Ctx} (hX : COk P X) (hR : R P r s w) {T : PM Value} {N : Nat} {a : Act} (hT : TR r T N a.tmps) {x : Option Operand} {v : Option Value} (h : evo X T x = some v) : OR1 r v (x.map a.eval) := by
  cases x with
  | none => simp [evo] at h; subst h; trivial
  | some x =>
    simp only [evo, Option.map_eq_some_iff] at h
    obtain ⟨u, h1, rfl⟩ := h
    exact ev_ok hX hR hT h1

/-- What an operation comes to. -/
inductive CRes where
  | val (v : Value) (s : CS)
  | vals (l : List (Value × CS))
  | call (f : FuncId) (args : List Value)
  | yield (l : Nat) (args : List Value)
  | dfr (f : FuncId) (args cap : Array Value)
  | pcall (v : Value)
def CRes.of (o : Option (Value × CS)) : Option CRes := match o with
  | some (v, s) => some (.val v s)
  | none => none
def CRes.pure (o : Option Value) (s : CS) : Option CRes := match o with
  | some v => some (.val v s)
  | none => none
def CRes.unit (o : Option CS) : Option CRes := match o with
  | some s => some (.val undef s)
  | none => none
def CRes.unit' (o : Option CS) : Option CRes := match o with
  | some s => some (.val (.tuple #[]) s)
  | none => none

def cBuiltin (X : Ctx) (s : CS) (b : Builtin) (tys : List TypeId) (ty : TypeId) (xs : List Value) : Option CRes :=
  match b, tys, xs with
  | .len, [t], [x] => CRes.pure (cLen X.tt s t x) s
  | .cap, [t], [x] => (match X.tt t with
    | some ⟨.slice _, _, _, _, _, _⟩ => CRes.pure (cCap x) s
    | _ => none)
  | .append, [a, b], [x, y] => CRes.of (cAppend X.tt s a b x y)
  | .copy, [a, b], [x, y] => CRes.of (cCopy X.tt s a b x y)
  | .delete, [t], [m, k] => CRes.unit' (cDelete X.tt s t m k)
  | .delete, [t, _], [m, k] => CRes.unit' (cDelete X.tt s t m k)
  | .clear, [t], [x] => CRes.unit' (cClear X.tt s t x)
  | .min, _, xs => CRes.pure (cMinMax false ty xs) s
  | .max, _, xs => CRes.pure (cMinMax true ty xs) s
  | _, _, _ => none

variable (X : Ctx) (T : PM Value) (s : CS)
def oPick (c a b : Operand) : Option CRes := match ev X T c with
  | some (.bool true) => CRes.pure (ev X T a) s
  | some (.bool false) => CRes.pure (ev X T b) s
  | _ => none
def oBox (x : Operand) : Option CRes := match ev X T x with
  | some v => some (.val (cBox s v).1 (cBox s v).2)
  | none => none
def oBuild (t : TypeId) (ps : Array (Nat × Operand)) : Option CRes := match evp X T ps.toList with
  | some vs => CRes.pure (cBuild X.tt t vs) s
  | none => none
def oBuildSlice (t : TypeId) (len : Nat) (ps : Array (Nat × Operand)) : Option CRes := match evp X T ps.toList with
  | some vs => CRes.of (cBuildSlice X.tt s t len vs)
  | none => none
def oMapUpdate (t : TypeId) (m k x : Operand) : Option CRes := match ev X T m, ev X T k, ev X T x with
  | some m, some k, some x => CRes.unit (cMapUpdate X.tt s t m k x)
  | _, _, _ => none
def oLoad (t : TypeId) (a : Operand) : Option CRes := match X.tt t, ev X T a with
  | some i, some p => CRes.pure (ld s i p) s
  | _, _ => none
def oStore (t : TypeId) (a x : Operand) : Option CRes := match X.tt t, ev X T a, ev X T x with
  | some i, some p, some v => CRes.unit (stv s i v p)
  | _, _, _ => none
def oNil (x : Operand) : Option CRes := match ev X T x with
  | some v => CRes.pure (cNilCheck v) s
  | none => none
def oBin (op : BinOp) (t : TypeId) (x y : Operand) : Option CRes := match ev X T x, ev X T y with
  | some a, some b => CRes.pure (cBin X.tt s op t (isConst x || isConst y) a b) s
  | _, _ => none
def oUn (op : UnOp) (x : Operand) : Option CRes := match ev X T x with
  | some v => CRes.pure (cUn op v) s
  | none => none
def oConv (a b : TypeId) (x : Operand) : Option CRes := match ev X T x with
  | some v => CRes.pure (cConv X.tt s a b v) s
  | none => none
def oIface (t : TypeId) (x : Operand) : Option CRes := match ev X T x with
  | some v => CRes.pure (cIface X.tt t v) s
  | none => none
def oFunc (fn : Fn) (fi ca : Array Operand) : Option CRes := match fn with
  | .func f => (match evs X T fi.toList, evs X T ca.toList with
    | some a, some b => some (.val (.func (.func f) a.toArray b.toArray) s)
    | _, _ => none)
  | _ => none
def oMakeMap (t : TypeId) (r : Option Operand) : Option CRes := match evo X T r with
  | some v => CRes.of (cMakeMap X.tt s t v)
  | none => none
def oMakeSlice (t : TypeId) (l c : Operand) : Option CRes := match ev X T l, ev X T c with
  | some a, some b => CRes.of (cMakeSlice X.tt s t a b)
  | _, _ => none
def oSlice (t : TypeId) (x : Operand) (lo hi mx : Option Operand) : Option CRes := match ev X T x, evo X T lo, evo X T hi, evo X T mx with
  | some v, some a, some b, some c => CRes.pure (cSlice X.tt s t v a b c) s
  | _, _, _, _ => none
def oFieldAddr (t : TypeId) (x : Operand) (f : Nat) : Option CRes := match ev X T x with
  | some v => CRes.pure (cFieldAddr X.tt t v f) s
  | none => none
def oField (t : TypeId) (x : Operand) (f : Nat) : Option CRes := match ev X T x with
  | some v => CRes.pure (cField X.tt t v f) s
  | none => none
def oIndexAddr (t : TypeId) (x ix : Operand) : Option CRes := match ev X T x, ev X T ix with
  | some v, some i => CRes.pure (cIndexAddr X.tt t v i) s
  | _, _ => none
def oIndex (t : TypeId) (x ix : Operand) : Option CRes := match ev X T x, ev X T ix with
  | some v, some i => CRes.pure (cIndex X.tt t v i) s
  | _, _ => none
def oLookup (t : TypeId) (x k : Operand) (ok : Bool) : Option CRes := match ev X T x, ev X T k with
  | some m, some k => CRes.pure (cLookup X.tt s t m k ok) s
  | _, _ => none
def oRange (t : TypeId) (x : Operand) : Option CRes := match ev X T x with
  | some v => CRes.of (cRange X.tt s t v)
  | none => none
def oNext (it : Operand) (str : Bool) : Option CRes := match str with
  | false => (match ev X T it with
    | some v => (match cNexts s v with
      | some [(v, s')] => some (.val v s')
      | some l => some (.vals l)
      | none => none)
    | none => none)
  | true => none
def oEntry (it : Operand) : Option CRes := match ev X T it with
  | some v => CRes.pure (cEntry s v) s
  | none => none
def oAssert (x : Operand) (ty : TypeId) (ok : Bool) : Option CRes := match ev X T x with
  | some v => CRes.pure (cAssert X.tt v ty ok) s
  | none => none
def oExtract (t : Operand) (i : Nat) : Option CRes := match ev X T t with
  | some v => CRes.pure (cExtract v i) s
  | none => none
def oGo (xs : List Value) : Option Value → Option CRes
  | some (.func (.func g) fi ca) => (match X.ext g with
    | some k => CRes.of (cExt s k (fi.toList ++ xs ++ ca.toList))
    | none => (match X.fn g with
      | some _ => (match (X.pf g).bind fun h => h (fi.toList ++ xs ++ ca.toList) with
        | some v => some (.pcall v)
        | none => some (.call g (fi.toList ++ xs ++ ca.toList)))
      | none => none))
  | some (.func (.yield l) fi ca) => if fi.size = 0 ∧ ca.size = 0 then some (.yield l xs) else none
  | _ => none
def oCall (c : Call) (ty : TypeId) : Option CRes := match evs X T c.args.toList with
  | none => none
  | some xs => (match c.callee with
    | .builtin b => cBuiltin X s b c.argTypes.toList ty xs
    | .value f => oGo X s xs (ev X T f)
    | .invoke _ _ => none)
def oDefer (c : Call) : Option CRes := match evs X T c.args.toList, c.callee with
  | some xs, .value f => (match ev X T f with
    | some (.func (.func g) fi ca) => (match X.fn g with
      | some _ => some (.dfr g (fi ++ xs.toArray) ca)
      | none => none)
    | _ => none)
  | _, _ => none

def cop (o : Oper) : Option CRes :=
  match o.op with
  | .move x | .assign x => CRes.pure (ev X T x) s
  | .pick c a b => oPick X T s c a b
  | .alloc e => CRes.of (cAlloc X.tt s e)
  | .box _ x => oBox X T s x
  | .build t ps => oBuild X T s t ps
  | .buildSlice t len ps => oBuildSlice X T s t len ps
  | .insert t m k x | .mapUpdate t m k x => oMapUpdate X T s t m k x
  | .load t a => oLoad X T s t a
  | .store t a x => oStore X T s t a x
  | .nilCheck x => oNil X T s x
  | .binOp op t x y _ => oBin X T s op t x y
  | .unOp op _ x => oUn X T s op x
  | .convert a b x => oConv X T s a b x
  | .makeInterface t x => oIface X T s t x
  | .makeFunc fn fi ca => oFunc X T s fn fi ca
  | .makeMap t r => oMakeMap X T s t r
  | .makeSlice t l c => oMakeSlice X T s t l c
  | .slice t x lo hi mx => oSlice X T s t x lo hi mx
  | .fieldAddr t x f => oFieldAddr X T s t x f
  | .field t x f => oField X T s t x f
  | .indexAddr t x ix => oIndexAddr X T s t x ix
  | .index t x ix => oIndex X T s t x ix
  | .lookup t x k ok => oLookup X T s t x k ok
  | .range t x => oRange X T s t x
  | .next it str => oNext X T s it str
  | .entry it => oEntry X T s it
  | .typeAssert x _ ty ok => oAssert X T s x ty ok
  | .extract t i => oExtract X T s t i
  | .call c => oCall X T s c o.type
  | .defer c => oDefer X T c
  | _ => none

variable {X T s}
/-- What the clean machine's word on an operation says of the model's. -/
def CResOk (P : Program) (r : Ren) (s : CS) (w : World) (run : Result Next) : CRes → Prop
  | .val v s' => ∃ n v' r' w', run = .ok n w' ∧ (n = .value v' ∨ n = .skip ∧ v' = undef) ∧ VR r' v v' ∧ R P r' s' w' ∧ Step r s w r' s' w'
  | .vals l => ∃ v s', (v, s') ∈ l ∧ ∃ n v' r' w', run = .ok n w' ∧ (n = .value v' ∨ n = .skip ∧ v' = undef) ∧ VR r' v v' ∧ R P r' s' w' ∧ Step r s w r' s' w'
  | .call f args => ∃ args', run = .ok (.enter f args'.toArray) w ∧ VL r args args'
  | .yield l args => ∃ lo args', r l = some lo ∧ run = (Instr.yield lo.b args'.toArray).run P w ∧ VL r args args'
  | .pcall v => ∃ f args', run = .ok (.enter f args') w ∧ CallsIn Fence.wide 0 P f args' w (fun e w' => ∃ v' r', e = .returned v' ∧ VR r' v v' ∧ R P r' s w' ∧ Step r s w r' s w')
  | .dfr f args cap => ∃ args' cap', run = .ok (.defer { target := .fn (.func f) cap', args := args' }) w ∧ VL r args.toList args'.toList ∧ VL r cap.toList cap'.toList

theorem CResOk.of_vok {v : Value} {s' : CS} {sem : Sem Value} (h : VOk P r s w sem v s') : CResOk P r s w ((do pure (.value (← sem)) : Sem Next).run P w) (.val v s') := by
  obtain ⟨v', r', w', h1, h2, h3, h4⟩ := h
  exact ⟨.value v', v', r', w', by simp [h1], .inl rfl, h2, h3, h4⟩
theorem CResOk.of_uok {s' : CS} {sem : Sem Unit} (h : UOk P r s w sem s') : CResOk P r s w ((do sem; pure .skip : Sem Next).run P w) (.val undef s') := by
  obtain ⟨w', h1, h2, h3⟩ := h
  exact ⟨.skip, undef, r, w', by simp [h1], .inr ⟨rfl, rfl⟩, undef_vr, h2, h3⟩
theorem CRes.of_some {o : Option (Value × CS)} {c : CRes} (h : CRes.of o = some c) : ∃ v s, o = some (v, s) ∧ c = .val v s := by
  unfold CRes.of at h; split at h
  · simp only [Option.some.injEq] at h; exact ⟨_, _, rfl, h.symm⟩
  · cases h
theorem CRes.pure_some {o : Option Value} {c : CRes} (h : CRes.pure o s = some c) : ∃ v, o = some v ∧ c = .val v s := by
  unfold CRes.pure at h; split at h
  · simp only [Option.some.injEq] at h; exact ⟨_, rfl, h.symm⟩
  · cases h
theorem CRes.unit_some {o : Option CS} {c : CRes} (h : CRes.unit o = some c) : ∃ s, o = some s ∧ c = .val undef s := by
  unfold CRes.unit at h; split at h
  · simp only [Option.some.injEq] at h; exact ⟨_, rfl, h.symm⟩
  · cases h
theorem CRes.unit'_some {o : Option CS} {c : CRes} (h : CRes.unit' o = some c) : ∃ s, o = some s ∧ c = .val (.tuple #[]) s := by
  unfold CRes.unit' at h; split at h
  · simp only [Option.some.injEq] at h; exact ⟨_, rfl, h.symm⟩
  · cases h

end
end Go.Cl

/- The clean machine's operations are sound. -/
namespace Go.Cl
noncomputable section
variable {P : Program} {r : Ren} {s : CS} {w : World}

theorem arr_map_toList {α β : Type} (f : α → β) (a : Array α) : (a.toList.map f).toArray = a.map f := by
  rw [← Array.toList_inj]; simp
theorem callFunc_enter {X : Ctx} (hX : COk P X) {g : FuncId} {f : Func} (hg : X.fn g = some f) (args : Array Value) : (callFunc g args).run P w = .ok (.enter g args) w := by
  obtain ⟨h1, h2, h3⟩ := hX.fn g f hg
  have h4 : (f.name == "runtime.NumGoroutine") = false := by simpa using h3
  have h5 : f.body.isNone = false := by cases hb : f.body <;> simp_all
  simp only [callFunc, Sem.run_bind, run_program, Result.andThen_ok, h1, h4, h5, Bool.false_eq_true, if_false]
  rfl

theorem cBuiltin_ok {X : Ctx} (hX : COk P X) (hR : R P r s w) {b : Builtin} {tys : List TypeId} {ty : TypeId} {xs xs' : List Value} {cs : Array Bool} {c : CRes} (hx : VL r xs xs') (h : cBuiltin X s b tys ty xs = some c) :
    CResOk P r s w ((builtin b tys.toArray ty cs xs'.toArray).run P w) c := by
  unfold cBuiltin at h
  split at h
  · rename_i t x
    obtain ⟨v, h1, rfl⟩ := CRes.pure_some h
    match xs', hx with
    | [x'], ⟨g, _⟩ => exact .of_vok ((cLen_ok hX.tt hR rfl g h1).vok hR)
  · rename_i t x
    split at h
    case h_2 => cases h
    rename_i ht
    obtain ⟨v, h1, rfl⟩ := CRes.pure_some h
    match xs', hx with
    | [x'], ⟨g, _⟩ => exact .of_vok ((cCap_ok hX.tt ht rfl rfl g h1).vok hR)
  · rename_i a b x y
    obtain ⟨v, s', h1, rfl⟩ := CRes.of_some h
    match xs', hx with
    | [x', y'], ⟨g1, g2, _⟩ => exact .of_vok (cAppend_ok hX.tt hR g1 g2 h1)
  · rename_i a b x y
    obtain ⟨v, s', h1, rfl⟩ := CRes.of_some h
    match xs', hx with
    | [x', y'], ⟨g1, g2, _⟩ => exact .of_vok (cCopy_ok hX.tt hR g1 g2 h1)
  · rename_i t m k
    obtain ⟨s', h1, rfl⟩ := CRes.unit'_some h
    match xs', hx with
    | [x', y'], ⟨g1, g2, _⟩ => exact .of_vok (cDelete_ok (ty := ty) hX.tt hR rfl g1 g2 h1)
  · rename_i t _ m k
    obtain ⟨s', h1, rfl⟩ := CRes.unit'_some h
    match xs', hx with
    | [x', y'], ⟨g1, g2, _⟩ => exact .of_vok (cDelete_ok (ty := ty) hX.tt hR rfl g1 g2 h1)
  · rename_i t x
    obtain ⟨s', h1, rfl⟩ := CRes.unit'_some h
    match xs', hx with
    | [x'], ⟨g, _⟩ => exact .of_vok (cClear_ok hX.tt hR g h1)
  · obtain ⟨v, h1, rfl⟩ := CRes.pure_some h
    exact .of_vok ((cMinMax_ok (mx := false) (at2 := #[]) hx h1).vok hR)
  · obtain ⟨v, h1, rfl⟩ := CRes.pure_some h
    exact .of_vok ((cMinMax_ok (mx := true) (at2 := #[]) hx h1).vok hR)
  · cases h

theorem cop_ok {X : Ctx} (hX : COk P X) (hR : R P r s w) {T : PM Value} {N : Nat} {a : Act} (hT : TR r T N a.tmps) {o : Oper} {c : CRes} (h : cop X T s o = some c) : CResOk P r s w ((execOp a.eval o).run P w) c := by
  have E : ∀ {x : Operand} {v : Value}, ev X T x = some v → VR r v (a.eval x) := fun h => ev_ok hX hR hT h
  have ES : ∀ {xs : List Operand} {vs : List Value}, evs X T xs = some vs → VL r vs (xs.map a.eval) := fun h => evs_ok hX hR hT h
  obtain ⟨dst, op, type, pos, after, guard⟩ := o
  unfold cop at h
  cases op <;> simp only [reduceCtorEq] at h <;> simp only [execOp]
  case move x =>
    obtain ⟨v, h1, rfl⟩ := CRes.pure_some h
    exact ⟨_, _, r, w, rfl, .inl rfl, E h1, hR, Step.refl _ _ _⟩
  case assign x =>
    obtain ⟨v, h1, rfl⟩ := CRes.pure_some h
    exact ⟨_, _, r, w, rfl, .inl rfl, E h1, hR, Step.refl _ _ _⟩
  case pick c x y =>
    unfold oPick at h
    split at h
    · rename_i hc
      obtain ⟨v, h1, rfl⟩ := CRes.pure_some h
      have := VR.eq_of_sca rfl (E hc)
      exact ⟨_, _, r, w, by simp [this, asBool], .inl rfl, E h1, hR, Step.refl _ _ _⟩
    · rename_i hc
      obtain ⟨v, h1, rfl⟩ := CRes.pure_some h
      have := VR.eq_of_sca rfl (E hc)
      exact ⟨_, _, r, w, by simp [this, asBool], .inl rfl, E h1, hR, Step.refl _ _ _⟩
    · cases h
  case alloc e =>
    obtain ⟨v, s', h1, rfl⟩ := CRes.of_some h
    exact .of_vok (cAlloc_ok hX.tt hR h1)
  case box t x =>
    unfold oBox at h
    split at h
    · rename_i v hv
      simp only [Option.some.injEq] at h; subst h
      exact .of_vok (cBox_ok hR (E hv))
    · cases h
  case build t ps =>
    unfold oBuild at h
    split at h
    · rename_i vs hv
      obtain ⟨v, h1, rfl⟩ := CRes.pure_some h
      have := cBuild_ok (w := w) hX.tt (evp_ok hX hR hT hv) h1
      rw [arr_map_toList] at this
      exact .of_vok (this.vok hR)
    · cases h
  case buildSlice t len ps =>
    unfold oBuildSlice at h
    split at h
    · rename_i vs hv
      obtain ⟨v, s', h1, rfl⟩ := CRes.of_some h
      have := cBuildSlice_ok hX.tt hR (evp_ok hX hR hT hv) h1
      rw [arr_map_toList] at this
      exact .of_vok this
    · cases h
  case insert t m k x =>
    unfold oMapUpdate at h
    split at h
    · rename_i m k x hm hk hx
      obtain ⟨s', h1, rfl⟩ := CRes.unit_some h
      exact .of_uok (cMapUpdate_ok hX.tt hR (E hm) (E hk) (E hx) h1)
    · cases h
  case mapUpdate t m k x =>
    unfold oMapUpdate at h
    split at h
    · rename_i m k x hm hk hx
      obtain ⟨s', h1, rfl⟩ := CRes.unit_some h
      exact .of_uok (cMapUpdate_ok hX.tt hR (E hm) (E hk) (E hx) h1)
    · cases h
  case load t p =>
    unfold oLoad at h
    split at h
    · rename_i i p hi hp
      obtain ⟨v, h1, rfl⟩ := CRes.pure_some h
      obtain ⟨v', g1, g2⟩ := ld_ok hR (hX.tt _ _ hi) (E hp) h1
      exact .of_vok (POk.vok ⟨v', g1, g2⟩ hR)
    · cases h
  case store t p x =>
    unfold oStore at h
    split at h
    · rename_i i p v hi hp hv
      obtain ⟨s', h1, rfl⟩ := CRes.unit_some h
      exact .of_uok (stv_ok hR (hX.tt _ _ hi) (E hp) (E hv) h1)
    · cases h
  case nilCheck x =>
    unfold oNil at h
    split at h
    · rename_i v hv
      obtain ⟨u, h1, rfl⟩ := CRes.pure_some h
      obtain ⟨g1, g2⟩ := cNilCheck_ok (E hv) h1
      refine ⟨_, a.eval x, r, w, ?_, .inl rfl, g1, hR, Step.refl _ _ _⟩
      rcases g2 with ⟨b, e⟩ | ⟨f, b, c, e⟩ | ⟨l, e⟩ <;> rw [e] <;> rfl
    · cases h
  case binOp op t x y yt =>
    unfold oBin at h
    split at h
    · rename_i u v hu hv
      obtain ⟨z, h1, rfl⟩ := CRes.pure_some h
      exact .of_vok ((cBin_ok hX.tt hR (E hu) (E hv) h1).vok hR)
    · cases h
  case unOp op t x =>
    unfold oUn at h
    split at h
    · rename_i v hv
      obtain ⟨z, h1, rfl⟩ := CRes.pure_some h
      exact .of_vok ((cUn_ok (E hv) h1).vok hR)
    · cases h
  case convert t u x =>
    unfold oConv at h
    split at h
    · rename_i v hv
      obtain ⟨z, h1, rfl⟩ := CRes.pure_some h
      exact .of_vok ((cConv_ok hX.tt hR (E hv) h1).vok hR)
    · cases h
  case makeInterface t x =>
    unfold oIface at h
    split at h
    · rename_i v hv
      obtain ⟨z, h1, rfl⟩ := CRes.pure_some h
      exact .of_vok ((cIface_ok hX.tt (E hv) h1).vok hR)
    · cases h
  case makeFunc fn fi ca =>
    unfold oFunc at h
    cases fn <;> simp only [reduceCtorEq] at h
    split at h
    · rename_i x y hx hy
      simp only [Option.some.injEq] at h; subst h
      refine .of_vok (POk.vok ⟨.func (.func _) (fi.map a.eval) (ca.map a.eval), rfl, VR.func_iff.2 ⟨_, _, rfl, ?_, ?_⟩⟩ hR)
      · simpa using ES hx
      · simpa using ES hy
    · cases h
  case makeMap t x =>
    unfold oMakeMap at h
    split at h
    · rename_i v hv
      obtain ⟨z, s', h1, rfl⟩ := CRes.of_some h
      exact .of_vok (cMakeMap_ok hX.tt hR (evo_ok hX hR hT hv) h1)
    · cases h
  case makeSlice t x y =>
    unfold oMakeSlice at h
    split at h
    · rename_i u v hu hv
      obtain ⟨z, s', h1, rfl⟩ := CRes.of_some h
      exact .of_vok (cMakeSlice_ok hX.tt hR (E hu) (E hv) h1)
    · cases h
  case slice t x lo hi mx =>
    unfold oSlice at h
    split at h
    · rename_i v b c d hv hb hc hd
      obtain ⟨z, h1, rfl⟩ := CRes.pure_some h
      exact .of_vok ((cSlice_ok hX.tt hR (E hv) (evo_ok hX hR hT hb) (evo_ok hX hR hT hc) (evo_ok hX hR hT hd) h1).vok hR)
    · cases h
  case fieldAddr t x f =>
    unfold oFieldAddr at h
    split at h
    · rename_i v hv
      obtain ⟨z, h1, rfl⟩ := CRes.pure_some h
      exact .of_vok ((cFieldAddr_ok hX.tt (E hv) h1).vok hR)
    · cases h
  case field t x f =>
    unfold oField at h
    split at h
    · rename_i v hv
      obtain ⟨z, h1, rfl⟩ := CRes.pure_some h
      exact .of_vok ((cField_ok hX.tt (E hv) h1).vok hR)
    · cases h
  case indexAddr t x y =>
    unfold oIndexAddr at h
    split at h
    · rename_i u v hu hv
      obtain ⟨z, h1, rfl⟩ := CRes.pure_some h
      exact .of_vok ((cIndexAddr_ok hX.tt (E hu) (E hv) h1).vok hR)
    · cases h
  case index t x y =>
    unfold oIndex at h
    split at h
    · rename_i u v hu hv
      obtain ⟨z, h1, rfl⟩ := CRes.pure_some h
      exact .of_vok ((cIndex_ok hX.tt (E hu) (E hv) h1).vok hR)
    · cases h
  case lookup t x y ok =>
    unfold oLookup at h
    split at h
    · rename_i u v hu hv
      obtain ⟨z, h1, rfl⟩ := CRes.pure_some h
      exact .of_vok ((cLookup_ok hX.tt hR (E hu) (E hv) h1).vok hR)
    · cases h
  case range t x =>
    unfold oRange at h
    split at h
    · rename_i v hv
      obtain ⟨z, s', h1, rfl⟩ := CRes.of_some h
      exact .of_vok (cRange_ok hX.tt hR (E hv) h1)
    · cases h
  case next it str =>
    unfold oNext at h
    cases str <;> simp only [reduceCtorEq] at h
    split at h
    · rename_i v hv
      split at h
      · rename_i u s' hn
        simp only [Option.some.injEq] at h; subst h
        obtain ⟨u', s'', h1, h2⟩ := cNexts_ok (ty := type) hR (E hv) hn
        simp only [List.mem_singleton, Prod.mk.injEq] at h1
        obtain ⟨rfl, rfl⟩ := h1
        exact .of_vok h2
      · rename_i l hn _
        simp only [Option.some.injEq] at h; subst h
        obtain ⟨u, s', h1, h2⟩ := cNexts_ok (ty := type) hR (E hv) (by assumption)
        exact ⟨u, s', h1, CResOk.of_vok h2⟩
      · cases h
    · cases h
  case entry it =>
    unfold oEntry at h
    split at h
    · rename_i v hv
      obtain ⟨z, h1, rfl⟩ := CRes.pure_some h
      exact .of_vok ((cEntry_ok hR (E hv) h1).vok hR)
    · cases h
  case typeAssert x xt ty ok =>
    unfold oAssert at h
    split at h
    · rename_i v hv
      obtain ⟨z, h1, rfl⟩ := CRes.pure_some h
      exact .of_vok ((cAssert_ok hX.tt (E hv) h1).vok hR)
    · cases h
  case extract t i =>
    unfold oExtract at h
    split at h
    · rename_i v hv
      obtain ⟨z, h1, rfl⟩ := CRes.pure_some h
      exact .of_vok ((cExtract_ok (E hv) h1).vok hR)
    · cases h
  case call c =>
    unfold oCall at h
    split at h
    · cases h
    · rename_i xs hxs
      have hxs := ES hxs
      obtain ⟨callee, args, tys⟩ := c
      cases callee with
      | builtin b =>
        simp only at h
        have key := fun cs => cBuiltin_ok (w := w) (cs := cs) hX hR hxs h
        simp only [arr_map_toList, Array.toArray_toList] at key
        simpa [resolve, invoke] using key _
      | invoke _ _ => cases h
      | value f =>
        simp only at h
        unfold oGo at h
        split at h
        · rename_i g fi ca hf
          obtain ⟨fi', ca', he, hfi, hca⟩ := VR.func_iff.1 (E hf)
          have hargs : VL r (fi.toList ++ xs ++ ca.toList) (fi'.toList ++ args.toList.map a.eval ++ ca'.toList) := (hfi.append hxs).append hca
          have hrun : (do let d ← resolve a.eval { callee := .value f, args := args, argTypes := tys } type; invoke d.target d.args : Sem Next).run P w = (callFunc g (fi'.toList ++ args.toList.map a.eval ++ ca'.toList).toArray).run P w := by
            simp only [resolve, he, Deferred.ofValue, Sem.run_bind, Sem.run_pure, Result.andThen_ok, invoke]
            congr 2
            rw [← Array.toList_inj]; simp
          simp only [hrun]
          split at h
          · rename_i k hk
            obtain ⟨v, s', h1, rfl⟩ := CRes.of_some h
            obtain ⟨v', r', w', q1, q2, q3, q4⟩ := cExt_ok hR hargs h1
            refine ⟨.value v', v', r', w', ?_, .inl rfl, q2, q3, q4⟩
            rw [hX.ext _ _ hk, q1]; rfl
          · split at h
            · rename_i fn hfn
              split at h
              · rename_i v hv
                simp only [Option.some.injEq] at h; subst h
                obtain ⟨hh, h1, h2⟩ := Option.bind_eq_some_iff.1 hv
                exact ⟨_, _, callFunc_enter hX hfn _, hX.pf _ _ h1 h2 hR hargs⟩
              · simp only [Option.some.injEq] at h; subst h
                exact ⟨_, callFunc_enter hX hfn _, hargs⟩
            · cases h
        · rename_i l fi ca hf
          split at h
          · rename_i hz
            simp only [Option.some.injEq] at h; subst h
            have := E hf
            generalize hee : a.eval f = fv at this
            cases this with
            | @yield _ lo hr =>
              refine ⟨lo, args.toList.map a.eval, hr, ?_, hxs⟩
              simp only [resolve, hee, Deferred.ofValue, Sem.run_bind, Sem.run_pure, Result.andThen_ok, invoke]
              congr 2
              rw [← Array.toList_inj]; simp
          · cases h
        · cases h
  case defer c =>
    unfold oDefer at h
    split at h
    · rename_i xs f hxs hc
      have hxs := ES hxs
      obtain ⟨callee, args, tys⟩ := c
      simp only at hc
      subst hc
      split at h
      · rename_i g fi ca hf
        obtain ⟨fi', ca', he, hfi, hca⟩ := VR.func_iff.1 (E hf)
        split at h
        · rename_i fn hfn
          simp only [Option.some.injEq] at h; subst h
          refine ⟨fi' ++ args.map a.eval, ca', ?_, ?_, hca⟩
          · simp [resolve, he, Deferred.ofValue]
          · simpa using hfi.append hxs
        · cases h
      · cases h
    · cases h

end
end Go.Cl

