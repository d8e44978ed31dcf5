/- What the program's tables come to. -/
import Derived.Test.YtodagfkndlpdpaaGreatDoorS2
namespace Go.Cl.Seat
open Go Go.Cl Go.Proofs
noncomputable def look (l : List (Nat × Nat)) (n : Nat) : Option Nat := @List.rec (Nat × Nat) (fun _ => Option Nat) none (fun x _ ih => cond (Nat.beq n x.1) (some x.2) ih) l
theorem look_mem {n m : Nat} : ∀ {l : List (Nat × Nat)}, look l n = some m → (n, m) ∈ l
  | [], h => by cases h
  | (a, b) :: l, h => by
    have h : cond (Nat.beq n a) (some b) (look l n) = some m := h
    cases hb : Nat.beq n a with
    | true => rw [hb] at h; rw [Nat.eq_of_beq_eq_true hb, ← Option.some.inj h]; exact List.mem_cons_self
    | false => rw [hb] at h; exact List.mem_cons_of_mem _ (look_mem h)
noncomputable def on1 {β : Type} (z : β) (f : Value → β) (l : List Value) : β := @List.rec Value (fun _ => β) z (fun a l _ => @List.rec Value (fun _ => β) (f a) (fun _ _ _ => z) l) l
theorem on1_some {β : Type} {f : Value → Option β} {l : List Value} {x : β} (h : on1 none f l = some x) : ∃ a, l = [a] ∧ f a = some x := by
  match l, h with
  | [a], h => exact ⟨a, rfl, h⟩
  | [], h => cases h
  | _ :: _ :: _, h => cases h
noncomputable def hTab (l : List (Nat × Nat)) : List Value → Option Value := on1 none fun a => onNat none (fun k n => onSome none (fun _ => onSome none (fun m => some (v32 m)) (look l n)) (only .u64 k (some undef))) a
theorem hTab_ok {f : FuncId} {l : List (Nat × Nat)} (H : ∀ n m, (n, m) ∈ l → RunTo (EA .real (pf1 .real) noH) f [.int .u64 (.ofNat n)] 10 (v32 m)) : PureOk Tryz.prog f (hTab l) := by
  refine pureOk_of_val (ea_ok pf1_ok noH_ok) g10 fun args v h => ?_
  obtain ⟨a, rfl, h⟩ := on1_some h
  obtain ⟨k, n, rfl, h⟩ := onNat_some h
  obtain ⟨_, h1, h5⟩ := onSome_some h
  obtain ⟨m, h2, h6⟩ := onSome_some h5
  obtain ⟨e1, _⟩ := only_some h1
  rw [e1, ← Option.some.inj h6]
  exact ⟨rfl, rfl, H n m (look_mem h2)⟩
noncomputable def pf2 : Pfs := fun f => cond (Nat.beq f 294) (some (hTab cubes)) (cond (Nat.beq f 295) (some (hTab squares)) (pf1 .real f))
theorem pf2_ok : ∀ f x, pf2 f = some x → PureOk Tryz.prog f x := by
  intro f x h
  rcases cbeq_some h with ⟨rfl, h⟩ | h
  · cases Option.some.inj h; exact hTab_ok fun n m hm => cubes_ok (n, m) hm
  rcases cbeq_some h with ⟨rfl, h⟩ | h
  · cases Option.some.inj h; exact hTab_ok fun n m hm => squares_ok (n, m) hm
  exact pf1_ok f x h
theorem pt32 (l : List Nat) : plainT (.agg ⟨l.map v32⟩) = true := plain32 l
theorem constants_run : RunTo (EA .real pf2 noH) 253 [] 10 (.agg ⟨ktab.map v32⟩) := by unfold RunTo; kernel_rfl
theorem start_run : RunTo (EA .real pf2 noH) 254 [] 10 (.agg ⟨stab.map v32⟩) := by unfold RunTo; kernel_rfl
/-- What a function without arguments yields. -/
noncomputable def hConst (v : Value) : List Value → Option Value := fun l => @List.rec Value (fun _ => Option Value) (some v) (fun _ _ _ => none) l
theorem hConst_ok {pf : Pfs} (hp : ∀ f x, pf f = some x → PureOk Tryz.prog f x) {f : FuncId} {v : Value} (hv : plainT v = true) (H : RunTo (EA .real pf noH) f [] 10 v) : PureOk Tryz.prog f (hConst v) := by
  refine pureOk_of_val (ea_ok hp noH_ok) g10 fun args u h => ?_
  match args, h with
  | [], h =>
    rw [← Option.some.inj (show some v = some u from h)]
    exact ⟨rfl, hv, H⟩
  | _ :: _, h => cases h
/-- The table of functions that leave memory alone. -/
noncomputable def pf3 : Pfs := fun f => cond (Nat.beq f 257) (some (hRef .real)) (cond (Nat.beq f 253) (some (hConst (.agg ⟨ktab.map v32⟩))) (cond (Nat.beq f 254) (some (hConst (.agg ⟨stab.map v32⟩))) (pf1 .real f)))
theorem pf3_ok : ∀ f x, pf3 f = some x → PureOk Tryz.prog f x := by
  intro f x h
  rcases cbeq_some h with ⟨rfl, h⟩ | h
  · cases Option.some.inj h; exact ref_ok
  rcases cbeq_some h with ⟨rfl, h⟩ | h
  · cases Option.some.inj h; exact hConst_ok pf2_ok (pt32 _) constants_run
  rcases cbeq_some h with ⟨rfl, h⟩ | h
  · cases Option.some.inj h; exact hConst_ok pf2_ok (pt32 _) start_run
  exact pf1_ok f x h
end Go.Cl.Seat

