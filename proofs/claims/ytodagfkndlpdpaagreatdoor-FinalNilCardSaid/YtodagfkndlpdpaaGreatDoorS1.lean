/- The seat's program, for the clean machine: body-less functions, the words turned right, the two compressions. -/
import Derived.Test.YtodagfkndlpdpaaGreatDoorMg
import Derived.Test.YtodagfkndlpdpaaGreatDoorProg
import Derived.KernelRfl
import Derived.Laws.Externs
namespace Go.Cl.Seat
open Go Go.Cl Go.Proofs
noncomputable section

theorem cbeq_some {α : Type} {f n : Nat} {a b : Option α} {x : α} (h : cond (Nat.beq f n) a b = some x) : (f = n ∧ a = some x) ∨ b = some x := by
  cases hb : Nat.beq f n with
  | true => rw [hb] at h; exact .inl ⟨Nat.eq_of_beq_eq_true hb, h⟩
  | false => rw [hb] at h; exact .inr h
noncomputable def exts (f : FuncId) : Option Ext := cond (Nat.beq f 311) (some .add64) (cond (Nat.beq f 180) (some .cmp) (cond (Nat.beq f 233) (some .clone) none))
theorem ext_ok (f : FuncId) (k : Ext) (h : exts f = some k) : ExtOk Tryz.prog f k := by
  rcases cbeq_some h with ⟨rfl, h⟩ | h
  · cases Option.some.inj h
    exact run_callFunc_extern (fn := Tryz.f311) Tryz.func311 (by kernel_rfl) (by kernel_rfl) (by kernel_rfl) (e := extSem .add64) (by kernel_rfl)
  rcases cbeq_some h with ⟨rfl, h⟩ | h
  · cases Option.some.inj h
    exact run_callFunc_extern (fn := Tryz.f180) Tryz.func180 (by kernel_rfl) (by kernel_rfl) (by kernel_rfl) (e := extSem .cmp) (by kernel_rfl)
  rcases cbeq_some h with ⟨rfl, h⟩ | h
  · cases Option.some.inj h
    exact run_callFunc_extern (fn := Tryz.f233) Tryz.func233 (by kernel_rfl) (by kernel_rfl) (by kernel_rfl) (e := extSem .clone) (by kernel_rfl)
  cases h
abbrev Pfs := FuncId → Option (List Value → Option Value)
noncomputable def Xc (pf : Pfs) : Ctx := { tt := mkTIF Tryz.prog, fn := fnF Tryz.prog, ext := exts, pf := pf, G := 4 }
theorem nG : Tryz.prog.globals.size = 4 := by kernel_rfl
theorem le_of_ble {n m : Nat} (h : Nat.ble n m = true) : n ≤ m := Nat.le_of_ble_eq_true h
theorem hdep : 8 ≤ Tryz.prog.depth := of_decide_eq_true (by kernel_rfl)
theorem hmixed : Tryz.prog.follows .mixedOrders = true := by kernel_rfl
theorem cok_of {P : Program} {ex : FuncId → Option Ext} {pf : Pfs} {G : Nat} (hd : 8 ≤ P.depth) (hn : P.funcs.toList.all (fun f => f.name != "runtime.NumGoroutine") = true) (he : ∀ f k, ex f = some k → ExtOk P f k) (h : ∀ f x, pf f = some x → PureOk P f x) (hG : P.globals.size = G) (hm : P.follows .mixedOrders = true) :
    COk P { tt := mkTIF P, fn := fnF P, ext := ex, pf := pf, G := G } :=
  ⟨fun _ _ hi => mkTIF_ok hd hi, fun _ _ hx => fnF_ok hn hx, he, h, hG.symm, hm⟩
theorem hnames : Tryz.prog.funcs.toList.all (fun f => f.name != "runtime.NumGoroutine") = true := by kernel_rfl
theorem cok {pf : Pfs} (h : ∀ f x, pf f = some x → PureOk Tryz.prog f x) : COk Tryz.prog (Xc pf) := cok_of hdep hnames ext_ok h nG hmixed
noncomputable def noH : Hooks := fun _ => none
theorem noH_ok : HookOk Tryz.prog noH := fun {f h} hh => by cases hh
noncomputable def EA (A : Alu) (pf : Pfs) (H : Hooks) : Rec := eng A (Xc pf) H 100000 100000
theorem ea_ok {pf : Pfs} (h : ∀ f x, pf f = some x → PureOk Tryz.prog f x) {H : Hooks} (hH : HookOk Tryz.prog H) : RecOk Tryz.prog 100000 (EA .real pf H) := eng_ok (cok h) hH _ _
abbrev s10 : CS := ⟨.nil, 10, 10 + 1⟩
theorem g10 : Tryz.prog.globals.size ≤ 10 := by rw [nG]; decide
noncomputable def pf0 : Pfs := fun _ => none
theorem pf0_ok : ∀ f x, pf0 f = some x → PureOk Tryz.prog f x := fun _ _ h => by cases h

/-! ### Words turned right -/
noncomputable def rightV (A : Alu) (x n : Nat) : Nat := A.add (A.shr x n) (A.shl x (Nat.mod (Nat.sub (Nat.add 32 18446744073709551616) (Nat.mod n 18446744073709551616)) 18446744073709551616))
noncomputable def hRight (A : Alu) : List Value → Option Value := on2 none fun a b => onNat none (fun k x => onNat none (fun l n => onSome none (fun _ => onSome none (fun _ => some (v32 (rightV A x n))) (only .u64 l (some undef))) (only .u32 k (some undef))) b) a
theorem right_run (A : Alu) (x n : Nat) : RunTo (EA A pf0 noH) 298 [.int .u32 (.ofNat x), .int .u64 (.ofNat n)] 10 (v32 (rightV A x n)) := by unfold RunTo; kernel_rfl
theorem right_ok : PureOk Tryz.prog 298 (hRight .real) := by
  refine pureOk_of_val (ea_ok pf0_ok noH_ok) g10 fun args v h => ?_
  obtain ⟨a, b, rfl, h⟩ := on2_some h
  obtain ⟨k, x, rfl, h⟩ := onNat_some h
  obtain ⟨l, n, rfl, h⟩ := onNat_some h
  obtain ⟨_, h1, h5⟩ := onSome_some h
  obtain ⟨_, h2, h6⟩ := onSome_some h5
  obtain ⟨e1, _⟩ := only_some h1
  obtain ⟨e2, _⟩ := only_some h2
  rw [e1, e2, ← Option.some.inj h6]
  exact ⟨rfl, rfl, right_run .real x n⟩
noncomputable def turns : List Nat := [2, 6, 7, 11, 13, 17, 18, 19, 22, 25]
noncomputable def isIn (n : Nat) (l : List Nat) : Bool := @List.rec Nat (fun _ => Bool) false (fun m _ ih => cond (Nat.beq n m) true ih) l
theorem isIn_mem {n : Nat} : ∀ {l : List Nat}, isIn n l = true → n ∈ l
  | [], h => by cases h
  | m :: l, h => by
    have h : cond (Nat.beq n m) true (isIn n l) = true := h
    cases hb : Nat.beq n m with
    | true => rw [Nat.eq_of_beq_eq_true hb]; exact List.mem_cons_self
    | false => rw [hb] at h; exact List.mem_cons_of_mem _ (isIn_mem h)
noncomputable def hTurn (A : Alu) : List Value → Option Value := on2 none fun a b => onNat none (fun k x => onNat none (fun l n => onSome none (fun _ => onSome none (fun _ => cond (isIn n turns) (some (v32 (turnA A x n))) none) (only .i64 l (some undef))) (only .u32 k (some undef))) b) a
noncomputable def TurnRun (A : Alu) (x n : Nat) : Prop := RunTo (EA A pf0 noH) 313 [.int .u32 (.ofNat x), .int .i64 (.ofNat n)] 10 (v32 (turnA A x n))
theorem turn2 (A : Alu) (x : Nat) : RunTo (EA A pf0 noH) 313 [.int .u32 (.ofNat x), .int .i64 (.ofNat 2)] 10 (v32 (turnA A x 2)) := by unfold RunTo; kernel_rfl
theorem turn6 (A : Alu) (x : Nat) : RunTo (EA A pf0 noH) 313 [.int .u32 (.ofNat x), .int .i64 (.ofNat 6)] 10 (v32 (turnA A x 6)) := by unfold RunTo; kernel_rfl
theorem turn7 (A : Alu) (x : Nat) : RunTo (EA A pf0 noH) 313 [.int .u32 (.ofNat x), .int .i64 (.ofNat 7)] 10 (v32 (turnA A x 7)) := by unfold RunTo; kernel_rfl
theorem turn11 (A : Alu) (x : Nat) : RunTo (EA A pf0 noH) 313 [.int .u32 (.ofNat x), .int .i64 (.ofNat 11)] 10 (v32 (turnA A x 11)) := by unfold RunTo; kernel_rfl
theorem turn13 (A : Alu) (x : Nat) : RunTo (EA A pf0 noH) 313 [.int .u32 (.ofNat x), .int .i64 (.ofNat 13)] 10 (v32 (turnA A x 13)) := by unfold RunTo; kernel_rfl
theorem turn17 (A : Alu) (x : Nat) : RunTo (EA A pf0 noH) 313 [.int .u32 (.ofNat x), .int .i64 (.ofNat 17)] 10 (v32 (turnA A x 17)) := by unfold RunTo; kernel_rfl
theorem turn18 (A : Alu) (x : Nat) : RunTo (EA A pf0 noH) 313 [.int .u32 (.ofNat x), .int .i64 (.ofNat 18)] 10 (v32 (turnA A x 18)) := by unfold RunTo; kernel_rfl
theorem turn19 (A : Alu) (x : Nat) : RunTo (EA A pf0 noH) 313 [.int .u32 (.ofNat x), .int .i64 (.ofNat 19)] 10 (v32 (turnA A x 19)) := by unfold RunTo; kernel_rfl
theorem turn22 (A : Alu) (x : Nat) : RunTo (EA A pf0 noH) 313 [.int .u32 (.ofNat x), .int .i64 (.ofNat 22)] 10 (v32 (turnA A x 22)) := by unfold RunTo; kernel_rfl
theorem turn25 (A : Alu) (x : Nat) : RunTo (EA A pf0 noH) 313 [.int .u32 (.ofNat x), .int .i64 (.ofNat 25)] 10 (v32 (turnA A x 25)) := by unfold RunTo; kernel_rfl
theorem turn_run (A : Alu) (x : Nat) : ∀ n ∈ turns, TurnRun A x n :=
  List.forall_mem_cons.2 ⟨turn2 A x, List.forall_mem_cons.2 ⟨turn6 A x, List.forall_mem_cons.2 ⟨turn7 A x, List.forall_mem_cons.2 ⟨turn11 A x, List.forall_mem_cons.2 ⟨turn13 A x, List.forall_mem_cons.2 ⟨turn17 A x, List.forall_mem_cons.2 ⟨turn18 A x, List.forall_mem_cons.2 ⟨turn19 A x,
    List.forall_mem_cons.2 ⟨turn22 A x, List.forall_mem_cons.2 ⟨turn25 A x, fun _ h => by cases h⟩⟩⟩⟩⟩⟩⟩⟩⟩⟩
theorem turn_ok : PureOk Tryz.prog 313 (hTurn .real) := by
  refine pureOk_of_val (ea_ok pf0_ok noH_ok) g10 fun args v h => ?_
  obtain ⟨a, b, rfl, h⟩ := on2_some h
  obtain ⟨k, x, rfl, h⟩ := onNat_some h
  obtain ⟨l, n, rfl, h⟩ := onNat_some h
  obtain ⟨_, h1, h5⟩ := onSome_some h
  obtain ⟨_, h2, h6⟩ := onSome_some h5
  obtain ⟨h3, h7⟩ := cond_k h6
  obtain ⟨e1, _⟩ := only_some h1
  obtain ⟨e2, _⟩ := only_some h2
  rw [e1, e2, ← Option.some.inj h7]
  exact ⟨rfl, rfl, turn_run .real x n (isIn_mem h3)⟩
noncomputable def pf1 (A : Alu) : Pfs := fun f => cond (Nat.beq f 298) (some (hRight A)) (cond (Nat.beq f 313) (some (hTurn A)) none)
theorem pf1_ok : ∀ f x, pf1 .real f = some x → PureOk Tryz.prog f x := by
  intro f x h
  rcases cbeq_some h with ⟨rfl, h⟩ | h
  · cases Option.some.inj h; exact right_ok
  rcases cbeq_some h with ⟨rfl, h⟩ | h
  · cases Option.some.inj h; exact turn_ok
  cases h

/-! ### The two compressions -/
noncomputable def ktab : List Nat := [0x428a2f98, 0x71374491, 0xb5c0fbcf, 0xe9b5dba5, 0x3956c25b, 0x59f111f1, 0x923f82a4, 0xab1c5ed5, 0xd807aa98, 0x12835b01, 0x243185be, 0x550c7dc3, 0x72be5d74, 0x80deb1fe, 0x9bdc06a7, 0xc19bf174,
  0xe49b69c1, 0xefbe4786, 0x0fc19dc6, 0x240ca1cc, 0x2de92c6f, 0x4a7484aa, 0x5cb0a9dc, 0x76f988da, 0x983e5152, 0xa831c66d, 0xb00327c8, 0xbf597fc7, 0xc6e00bf3, 0xd5a79147, 0x06ca6351, 0x14292967,
  0x27b70a85, 0x2e1b2138, 0x4d2c6dfc, 0x53380d13, 0x650a7354, 0x766a0abb, 0x81c2c92e, 0x92722c85, 0xa2bfe8a1, 0xa81a664b, 0xc24b8b70, 0xc76c51a3, 0xd192e819, 0xd6990624, 0xf40e3585, 0x106aa070,
  0x19a4c116, 0x1e376c08, 0x2748774c, 0x34b0bcb5, 0x391c0cb3, 0x4ed8aa4a, 0x5b9cca4f, 0x682e6ff3, 0x748f82ee, 0x78a5636f, 0x84c87814, 0x8cc70208, 0x90befffa, 0xa4506ceb, 0xbef9a3f7, 0xc67178f2]
noncomputable def stab : List Nat := [0x6a09e667, 0xbb67ae85, 0x3c6ef372, 0xa54ff53a, 0x510e527f, 0x9b05688c, 0x1f83d9ab, 0x5be0cd19]
theorem ref_run (A : Alu) (S B : Nat → Nat) : RunTo (EA A (pf1 A) noH) 257 [.agg ⟨(natl S 8).map v32⟩, .agg ⟨(natl B 64).map v8⟩] 10 (.agg ⟨(pressR A ktab (natl S 8) (natl B 64)).map v32⟩) := by unfold RunTo; kernel_rfl
noncomputable def hRef (A : Alu) : List Value → Option Value := on2 none fun a b => onAgg none (fun a => onAgg none (fun b => onSome none (fun a => onSome none (fun b => cond (lenIs 8 a) (cond (lenIs 64 b) (some (.agg ⟨(pressR A ktab a b).map v32⟩)) none) none) (numsOf .u8 b)) (numsOf .u32 a)) b) a
theorem plainT32 (l : List Nat) : plainT (.agg ⟨l.map v32⟩) = plain (.agg ⟨l.map v32⟩) := rfl
theorem plain32 (l : List Nat) : plain (.agg ⟨l.map v32⟩) = true := by
  simp only [plain, List.all_eq_true, List.mem_map]
  rintro x ⟨n, _, rfl⟩
  rfl
theorem plain8 (l : List Nat) : plain (.agg ⟨l.map v8⟩) = true := by
  simp only [plain, List.all_eq_true, List.mem_map]
  rintro x ⟨n, _, rfl⟩
  rfl
theorem sca8 (l : List Nat) : (l.map v8).all sca = true := by
  simp only [List.all_eq_true, List.mem_map]
  rintro x ⟨n, _, rfl⟩
  rfl
theorem ref_ok : PureOk Tryz.prog 257 (hRef .real) := by
  refine pureOk_of_val (ea_ok pf1_ok noH_ok) g10 fun args v h => ?_
  obtain ⟨a, b, rfl, h⟩ := on2_some h
  obtain ⟨al, rfl, h⟩ := onAgg_some h
  obtain ⟨bl, rfl, h⟩ := onAgg_some h
  obtain ⟨an, h1, h⟩ := onSome_some h
  obtain ⟨bn, h2, h⟩ := onSome_some h
  obtain ⟨h3, h⟩ := cond_k h
  obtain ⟨h4, h⟩ := cond_k h
  have h1 : al = an.map v32 := numsOf_some h1
  have h2 : bl = bn.map v8 := numsOf_some h2
  rw [← Option.some.inj h, h1, h2]
  have := ref_run .real (fun i => an.getD i 0) (fun i => bn.getD i 0)
  rw [natl_getD an 8 (lenIs_true h3), natl_getD bn 64 (lenIs_true h4)] at this
  exact ⟨by simp only [List.all_cons, List.all_nil, plain32, plain8, Bool.and_self], plain32 _, this⟩
theorem press_run (A : Alu) (K S B : Nat → Nat) (sz cap : Nat) : RunAt (EA A (pf1 A) noH) 296 ([.agg ⟨(natl K 64).map v32⟩, .agg ⟨(natl S 8).map v32⟩] ++ [.slice (some ⟨10, 0, none⟩) 64 cap]) ⟨PM.nil.set 10 (.cells ((natl B 64).map v8) .ro sz), 10 + 1, 10 + 2⟩
    (.agg ⟨(pressP A (natl K 64) (natl S 8) (natl B 64)).map v32⟩) := by unfold RunAt; kernel_rfl
noncomputable def on3 {β : Type} (z : β) (f : Value → Value → Value → β) (l : List Value) : β := @List.rec Value (fun _ => β) z (fun a l _ => on2 z (fun b c => f a b c) l) l
noncomputable def hPress (args : List Value) (s : CS) : Option (Value × CS) := on3 none (fun x y z => onAgg none (fun kl => onAgg none (fun sl => onSlice none (fun a off n cap => cond (Nat.beq n 64) (onCells none (fun c _ _ => onSome none (fun bl => onSome none (fun bn => onSome none (fun kn => onSome none (fun sn =>
  cond (lenIs 64 kn) (cond (lenIs 8 sn) (some (.agg ⟨(pressP .real kn sn bn).map v32⟩, s)) none) none) (numsOf .u32 sl)) (numsOf .u32 kl)) (numsOf .u8 bl)) (cut off 64 c)) (getH s a)) none) z) y) x) args
noncomputable def H1 : Hooks := fun f => cond (Nat.beq f 296) (some hPress) none
theorem H1_ok : HookOk Tryz.prog H1 := by
  intro f h hf
  rcases cbeq_some hf with ⟨rfl, hf⟩ | hf
  case inr => cases hf
  cases Option.some.inj hf
  intro args s v s' h r w args' hR ha
  have h : hPress args s = some (v, s') := h
  match args, h, ha with
  | [x, y, z], h, ha =>
    obtain ⟨kl, rfl, h⟩ := onAgg_some (show onAgg none _ x = some (v, s') from h)
    obtain ⟨sl, rfl, h⟩ := onAgg_some h
    obtain ⟨a, off, n, cap, rfl, h⟩ := onSlice_some h
    obtain ⟨hn, h⟩ := cond_k h
    cases Nat.eq_of_beq_eq_true hn
    obtain ⟨c, m, sz, ho, h⟩ := onCells_some h
    obtain ⟨bl, h1, h⟩ := onSome_some h
    obtain ⟨bn, h2, h⟩ := onSome_some h
    obtain ⟨kn, h3, h⟩ := onSome_some h
    obtain ⟨sn, h4, h⟩ := onSome_some h
    obtain ⟨h5, h⟩ := cond_k h
    obtain ⟨h6, h⟩ := cond_k h
    cases Option.some.inj h
    obtain ⟨rfl, h7⟩ := cut_some h1
    have h2 := numsOf_some h2
    have h3 : kl = kn.map v32 := numsOf_some h3
    have h4 : sl = sn.map v32 := numsOf_some h4
    subst h3 h4
    have hbl : bn.length = 64 := by
      have := congrArg List.length h2
      simpa [h7] using this.symm
    have hrun := press_run .real (fun i => kn.getD i 0) (fun i => sn.getD i 0) (fun i => bn.getD i 0) sz cap
    rw [natl_getD kn 64 (lenIs_true h5), natl_getD sn 8 (lenIs_true h6), natl_getD bn 64 hbl] at hrun
    have h2 : (c.drop off).take 64 = bn.map v8 := h2
    rw [← h2] at hrun
    rw [getH_eq] at ho
    have hlen : off + 64 ≤ c.length := by
      have : ((c.drop off).take 64).length = 64 := h7
      rw [List.length_take, List.length_drop] at this
      omega
    have hpt : plainT (.agg ⟨(pressP .real kn sn bn).map v32⟩) = true := plain32 _
    exact callsIn_slice (ea_ok pf1_ok noH_ok) g10 (pre := [.agg ⟨kn.map v32⟩, .agg ⟨sn.map v32⟩]) (by simp only [List.all_cons, List.all_nil, plain32, Bool.and_self]) hpt ho hlen (by rw [h2]; exact sca8 _) hrun hR ha
  | [], h, _ => cases h
  | [_], h, _ => cases h
  | [_, _], h, _ => cases h
  | _ :: _ :: _ :: _ :: _, h, _ => cases h
end
end Go.Cl.Seat

