/- From the clean machine's run to the row and its card. -/
import Derived.Test.YtodagfkndlpdpaaGreatDoorTie
import Derived.Test.YtodagfkndlpdpaaGreatDoorCards
import Derived.Test.YtodagfkndlpdpaaGreatDoorS3
import Derived.ProofKit
import Derived.LaidMore
import Derived.OpenShut
import Derived.Stop.Joined
import Derived.SevenTiedAt
namespace Go.Proofs.YtodagfkndlpdpaaGreatDoor
open Go.ChangeShapes Go.WideShapes Go.ChangeAt Go.WideMaps Go.WideElems Go.RowKit Go Go.Cl Go.Cl.Seat

noncomputable def tabN : List Nat := [0, 1, 56, 2, 57, 49, 28, 3, 61, 58, 42, 50, 38, 29, 17, 4, 62, 47, 59, 36, 45, 43, 51, 22, 53, 39, 33, 30, 24, 18, 12, 5, 63, 55, 48, 27, 60, 41, 37, 16, 46, 35, 44, 21, 52, 32, 23, 11, 54, 26, 40, 15, 34, 20, 31, 10, 25, 14, 19, 9, 13, 8, 7, 6]
noncomputable def rG : Cl.Ren := fun id => if id < 4 then some ⟨id, 0, if id = 0 then 64 else 0, 0⟩ else none
noncomputable def sTab : CS := ⟨PM.nil.set 0 (.cells (tabN.map v8) .ro 0), 10, 10 + 1⟩
theorem und4 : Tryz.prog.underlying 4 = some .bool := by kernel_rfl
theorem und5 : Tryz.prog.underlying 5 = some (.int .u8) := by kernel_rfl
theorem und280 : Tryz.prog.underlying 280 = some (.array 64 5) := by kernel_rfl
theorem c5 : Tryz.prog.cellsOf 5 = 1 := by kernel_rfl
theorem c280 : Tryz.prog.cellsOf 280 = 64 := by kernel_rfl
theorem gTab : Tryz.prog.globalNamed "math/bits.deBruijn64tab" = some 0 := by kernel_rfl
theorem tTab : (Tryz.prog.globals[0]?).map (·.type) = some 280 := by kernel_rfl
theorem own : ownKnob Tryz.prog.godebug = none := by kernel_rfl
theorem wide0 : decide (4 < (begin Tryz.prog (fun _ _ => 0) default).world.heap.size) = true := by kernel_rfl
theorem tabD : (Rows.laid_math_bits_deBruijn64tab : DataW Unit) = .agg (tabN.map fun n => .lit (.int .u8 (Int.ofNat n))) := by kernel_rfl
/-- What the listed variable holds. -/
theorem tab_cells {W : World} (h : laidMetH Tryz.prog [("math/bits.deBruijn64tab", Rows.laid_math_bits_deBruijn64tab)] W) : ∃ cs t fr, W.heap[0]? = some (.cells cs t fr) ∧ cs.toList = tabN.map v8 := by
  rw [MakeChecks.laidMetH_plain _ _ _ (by kernel_rfl)] at h
  obtain ⟨ps, ⟨g0, t0, cs0, f0, p0, q0, hg0, ht0, hv0, hd0, _, _⟩, _, _⟩ := h
  obtain rfl := Option.some.inj (gTab.symm.trans hg0)
  obtain rfl := Option.some.inj (tTab.symm.trans ht0)
  obtain ⟨xs, m1, _, hx1, hlen, hn, hel⟩ := DataW.trod_array und280 hd0
  rw [c280] at hlen
  have hx2 : DataW.agg (xs.map (·.1)) = DataW.agg (tabN.map fun n => .lit (.int .u8 (Int.ofNat n))) := (congrArg Prod.fst hx1).symm.trans tabD
  have hx3 : xs.map (·.1) = tabN.map fun n => DataW.lit (.int .u8 (Int.ofNat n)) := by injection hx2
  have hcs : cs0.toList = tabN.map v8 := by
    apply List.ext_getElem?
    intro i
    have hN : tabN.length = 64 := rfl
    by_cases hi : i < 64
    · have h1 := hel i hi
      rw [c5, Nat.mul_one] at h1
      have hxi : xs[i]? = some xs[i] := List.getElem?_eq_getElem (by omega)
      rw [hxi] at h1
      obtain ⟨k, e1, e2, _⟩ := DataW.trod_int und5 h1
      have h3 := congrArg (fun l => l[i]?) hx3
      simp only [List.getElem?_map, hxi, Option.map_some, e2] at h3
      have h4 := congrArg (fun l => l[0]?) e1
      simp only [List.getElem?_take, List.getElem?_drop, Nat.add_zero, Nat.zero_lt_one, if_true, List.getElem?_cons_zero] at h4
      rw [h4, List.getElem?_map]
      cases hq : tabN[i]? with
      | none => rw [hq] at h3; cases h3
      | some n =>
        rw [hq] at h3
        simp only [Option.map_some, Option.some.injEq, DataW.lit.injEq, Lit.int.injEq] at h3
        rw [h3.2]; rfl
    · rw [List.getElem?_eq_none (by omega), List.getElem?_eq_none (by rw [List.length_map, hN]; omega)]
  simp only [World.var?, gTab, Option.bind_some] at hv0
  split at hv0
  · rename_i cs t fr hb
    cases Option.some.inj hv0
    exact ⟨_, _, _, hb, hcs⟩
  · cases hv0
theorem entry_R {W : World} (hsz : 4 < W.heap.size) (hT : ∃ cs t fr, W.heap[0]? = some (.cells cs t fr) ∧ cs.toList = tabN.map v8) : R Tryz.prog rG sTab W := by
  obtain ⟨cs, t, fr, hb, hcs⟩ := hT
  have hg : ∀ {id o}, sTab.h.get id = some o → id = 0 ∧ o = .cells (tabN.map v8) .ro 0 := fun {id o} ho => by
    have ho : (PM.nil.set 0 (CObj.cells (tabN.map v8) .ro 0)).get id = some o := ho
    rw [PM.get_set] at ho
    split at ho
    · exact ⟨by assumption, (Option.some.inj ho).symm⟩
    · rw [PM.get_nil] at ho; cases ho
  have hr : ∀ {id l}, rG id = some l → id < 4 ∧ l = ⟨id, 0, if id = 0 then 64 else 0, 0⟩ := fun {id l} hl => by
    unfold rG at hl
    split at hl
    · exact ⟨by assumption, (Option.some.inj hl).symm⟩
    · cases hl
  have hN : (tabN.map v8).length = 64 := rfl
  have hcl : cs.size = 64 := by rw [← Array.length_toList, hcs]; rfl
  refine ⟨fun id o l ho hl => ?_, fun i j oi oj li lj hi hj _ _ hij _ => ?_, fun id l hl => ?_, fun id o ho => ?_, by show 10 < 10 + 1; omega, fun g hg4 => ?_⟩
  · obtain ⟨rfl, rfl⟩ := hg ho
    obtain ⟨_, rfl⟩ := hr hl
    refine ⟨cs, t, fr, hb, ?_, ?_, ?_, fun hh => absurd rfl hh, fun hh => (by cases hh), rfl⟩
    · show 0 + (tabN.map v8).length ≤ 64
      rw [hN]; omega
    · show 64 ≤ cs.size
      omega
    · show VL rG (tabN.map v8) ((cs.toList.drop 0).take (tabN.map v8).length)
      rw [List.drop_zero, hcs, List.take_length]
      exact VL.of_plain (List.all_eq_true.2 fun x hx => by
        obtain ⟨n, _, rfl⟩ := List.mem_map.1 hx
        rfl)
  · obtain ⟨rfl, _⟩ := hg hi
    obtain ⟨rfl, _⟩ := hg hj
    exact absurd rfl hij
  · obtain ⟨h1, rfl⟩ := hr hl
    exact ⟨⟨by show id ≠ 10; omega, by show id < 10 + 1; omega⟩, by show id < W.heap.size; omega⟩
  · obtain ⟨rfl, _⟩ := hg ho
    exact ⟨by show 0 ≠ 10; omega, by show 0 < 10 + 1; omega⟩
  · rw [nG] at hg4
    exact ⟨⟨g, 0, if g = 0 then 64 else 0, 0⟩, by unfold rG; rw [if_pos hg4], rfl, rfl⟩

/-- The law's end, by a run that yields true. -/
theorem closed_calls {m : Nat} {E : Rec} (hE : RecOk Tryz.prog m E) (hrun : RunAt E 3 [] sTab (.bool true)) {W : World} (hsz : 4 < W.heap.size) (hL : laidMetH Tryz.prog [("math/bits.deBruijn64tab", Rows.laid_math_bits_deBruijn64tab)] W)
    {H : Type} {enc : TypeId × Value → H} (hW : DataW.Whole enc Tryz.prog Tryz.f3.params.toList Rows.finalNilSpec.vars false W [] [] [] []) : Calls Tryz.prog 3 #[] W fun e W' => ∃ v, e = .returned v ∧ Rows.finalNilSpec.post enc Tryz.prog Tryz.f3 false true false false W #[] v W' := by
  obtain ⟨s', hrun⟩ := valS_some (show valS _ = some (.bool true) from hrun)
  refine (callsIn_wide.1 (hE.F hrun (entry_R hsz (tab_cells hL)) (args' := []) trivial)).mono fun e W' ⟨v', r', he, hv, _, hS⟩ => ?_
  refine ⟨v', he, ?_⟩
  have hv : v' = .bool true := VR.eq_of_sca rfl hv
  subst hv
  have hkeep : ∀ b, b < W.heap.size → W'.heap[b]? = W.heap[b]? := fun b hb => hS.frame b hb fun id o l ho _ _ => by
    have ho : (PM.nil.set 0 (CObj.cells (tabN.map v8) .ro 0)).get id = some o := ho
    rw [PM.get_set] at ho
    split at ho
    · cases Option.some.inj ho; rfl
    · rw [PM.get_nil] at ho; cases ho
  have hres : ∀ (b : Nat) (sp : Nat → Bool) (hd : Bool), DataW.TrodAll enc Tryz.prog W' b sp hd Tryz.f3.resultTypes.toList ((Value.bool true).resultList Tryz.f3.resultTypes.size) [.lit (.bool true)] [] := fun b sp hd => trodAll_mk1 (shut_bool und4 _)
  refine ⟨[], [], [], [], [], [], hW, hres _ _ _, rfl, rfl, ⟨hS.rest.1, hS.rest.2.1, fun i hi => ?_⟩, fun ha => by cases ha⟩
  rw [hkeep i hi]
  split
  · rename_i a b h1 h2
    rw [h1] at h2
    cases h2
    exact ⟨rfl, rfl, rfl, fun _ _ => rfl⟩
  · rename_i a b h1 h2
    rw [h1] at h2
    cases h2
    exact .inr ⟨rfl, rfl⟩
  · rfl
end Go.Proofs.YtodagfkndlpdpaaGreatDoor

