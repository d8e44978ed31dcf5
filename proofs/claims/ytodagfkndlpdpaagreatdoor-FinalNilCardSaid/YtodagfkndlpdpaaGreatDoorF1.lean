/- plexuslaw21.FinalNil, which takes no input, returns true, and what lay in memory is as it was (Rows.FinalNilCardSaid). Condition: the listed variable math/bits.deBruijn64tab starts as the program's text lays it, to which the card ties it. -/
import Derived.Test.YtodagfkndlpdpaaGreatDoorE1
import Derived.Test.YtodagfkndlpdpaaGreatDoorE2
import Derived.Test.YtodagfkndlpdpaaGreatDoorE3
import Derived.Test.YtodagfkndlpdpaaGreatDoorE4
import Derived.Test.YtodagfkndlpdpaaGreatDoorR2
namespace Go.Proofs.YtodagfkndlpdpaaGreatDoor
open Go Go.Cl Go.Cl.Seat

noncomputable def es4 : List Entry := [e0, e1, e2, e3, e26]
theorem es4_ok : ∀ e ∈ es4, e.f = 4 ∧ ∃ m E, RecOk Tryz.prog m E ∧ Go.Cl.Good E e :=
  List.forall_mem_cons.2 ⟨⟨rfl, _, _, ea_ok pf3_ok H1_ok, good0⟩, List.forall_mem_cons.2 ⟨⟨rfl, _, _, ea_ok pf3_ok H1_ok, good1⟩, List.forall_mem_cons.2 ⟨⟨rfl, _, _, ea_ok pf3_ok H1_ok, good2⟩, List.forall_mem_cons.2 ⟨⟨rfl, _, _, ea_ok pf3_ok H1_ok, good3⟩, List.forall_mem_cons.2 ⟨⟨rfl, _, _, ea_ok pf3_ok H1_ok, good26⟩, fun _ h => by cases h⟩⟩⟩⟩⟩
noncomputable def es31 : List Entry := [e4]
theorem es31_ok : ∀ e ∈ es31, e.f = 31 ∧ ∃ m E, RecOk Tryz.prog m E ∧ Go.Cl.Good E e :=
  List.forall_mem_cons.2 ⟨⟨rfl, _, _, ea_ok pf3_ok H1_ok, good4⟩, fun _ h => by cases h⟩
noncomputable def es32 : List Entry := [e5]
theorem es32_ok : ∀ e ∈ es32, e.f = 32 ∧ ∃ m E, RecOk Tryz.prog m E ∧ Go.Cl.Good E e :=
  List.forall_mem_cons.2 ⟨⟨rfl, _, _, ea_ok pf3_ok H1_ok, good5⟩, fun _ h => by cases h⟩
noncomputable def es33 : List Entry := [e7, e11, e15, e19, e23]
theorem es33_ok : ∀ e ∈ es33, e.f = 33 ∧ ∃ m E, RecOk Tryz.prog m E ∧ Go.Cl.Good E e :=
  List.forall_mem_cons.2 ⟨⟨rfl, _, _, ea_ok pf3_ok H1_ok, good7⟩, List.forall_mem_cons.2 ⟨⟨rfl, _, _, ea_ok pf3_ok H1_ok, good11⟩, List.forall_mem_cons.2 ⟨⟨rfl, _, _, ea_ok pf3_ok H1_ok, good15⟩, List.forall_mem_cons.2 ⟨⟨rfl, _, _, ea_ok pf3_ok H1_ok, good19⟩, List.forall_mem_cons.2 ⟨⟨rfl, _, _, ea_ok pf3_ok H1_ok, good23⟩, fun _ h => by cases h⟩⟩⟩⟩⟩
noncomputable def es34 : List Entry := [e6, e8, e10, e12, e14, e16, e18, e20, e22, e24]
theorem es34_ok : ∀ e ∈ es34, e.f = 34 ∧ ∃ m E, RecOk Tryz.prog m E ∧ Go.Cl.Good E e :=
  List.forall_mem_cons.2 ⟨⟨rfl, _, _, ea_ok pf3_ok H1_ok, good6⟩, List.forall_mem_cons.2 ⟨⟨rfl, _, _, ea_ok pf3_ok H1_ok, good8⟩, List.forall_mem_cons.2 ⟨⟨rfl, _, _, ea_ok pf3_ok H1_ok, good10⟩, List.forall_mem_cons.2 ⟨⟨rfl, _, _, ea_ok pf3_ok H1_ok, good12⟩, List.forall_mem_cons.2 ⟨⟨rfl, _, _, ea_ok pf3_ok H1_ok, good14⟩, List.forall_mem_cons.2 ⟨⟨rfl, _, _, ea_ok pf3_ok H1_ok, good16⟩, List.forall_mem_cons.2 ⟨⟨rfl, _, _, ea_ok pf3_ok H1_ok, good18⟩, List.forall_mem_cons.2 ⟨⟨rfl, _, _, ea_ok pf3_ok H1_ok, good20⟩, List.forall_mem_cons.2 ⟨⟨rfl, _, _, ea_ok pf3_ok H1_ok, good22⟩, List.forall_mem_cons.2 ⟨⟨rfl, _, _, ea_ok pf3_ok H1_ok, good24⟩, fun _ h => by cases h⟩⟩⟩⟩⟩⟩⟩⟩⟩⟩
noncomputable def es35 : List Entry := [e9, e13, e17, e21, e25]
theorem es35_ok : ∀ e ∈ es35, e.f = 35 ∧ ∃ m E, RecOk Tryz.prog m E ∧ Go.Cl.Good E e :=
  List.forall_mem_cons.2 ⟨⟨rfl, _, _, ea_ok pf3_ok H1_ok, good9⟩, List.forall_mem_cons.2 ⟨⟨rfl, _, _, ea_ok pf3_ok H1_ok, good13⟩, List.forall_mem_cons.2 ⟨⟨rfl, _, _, ea_ok pf3_ok H1_ok, good17⟩, List.forall_mem_cons.2 ⟨⟨rfl, _, _, ea_ok pf3_ok H1_ok, good21⟩, List.forall_mem_cons.2 ⟨⟨rfl, _, _, ea_ok pf3_ok H1_ok, good25⟩, fun _ h => by cases h⟩⟩⟩⟩⟩
noncomputable def kN : List Value → CS → Option (Value × CS) := fun _ _ => none
noncomputable def H2 : Hooks := fun f => cond (Nat.beq f 4) (some (memos es4 kN)) (cond (Nat.beq f 31) (some (memos es31 kN)) (cond (Nat.beq f 32) (some (memos es32 kN)) (cond (Nat.beq f 33) (some (memos es33 kN)) (cond (Nat.beq f 34) (some (memos es34 kN)) (cond (Nat.beq f 35) (some (memos es35 kN)) (H1 f))))))
theorem H2_ok : HookOk Tryz.prog H2 := by
  intro f h hf
  rcases cbeq_some hf with ⟨rfl, hf⟩ | hf
  · cases Option.some.inj hf
    exact memos_ok (fun hk => by cases hk) es4_ok
  rcases cbeq_some hf with ⟨rfl, hf⟩ | hf
  · cases Option.some.inj hf
    exact memos_ok (fun hk => by cases hk) es31_ok
  rcases cbeq_some hf with ⟨rfl, hf⟩ | hf
  · cases Option.some.inj hf
    exact memos_ok (fun hk => by cases hk) es32_ok
  rcases cbeq_some hf with ⟨rfl, hf⟩ | hf
  · cases Option.some.inj hf
    exact memos_ok (fun hk => by cases hk) es33_ok
  rcases cbeq_some hf with ⟨rfl, hf⟩ | hf
  · cases Option.some.inj hf
    exact memos_ok (fun hk => by cases hk) es34_ok
  rcases cbeq_some hf with ⟨rfl, hf⟩ | hf
  · cases Option.some.inj hf
    exact memos_ok (fun hk => by cases hk) es35_ok
  exact H1_ok hf
theorem final_run : RunAt (EA .real pf3 H2) 3 [] sTab (.bool true) := by unfold RunAt; kernel_rfl
theorem finalNil_card : Rows.FinalNilCardSaid := card_holds (ea_ok pf3_ok H2_ok) final_run
#print axioms finalNil_card
end Go.Proofs.YtodagfkndlpdpaaGreatDoor

