/- drawn regions: every order is as good as the plan's. -/
import Derived.Test.YtodagfkndlpdpaaGreatDoorMc
/- What the run of a drawn region has shown: the induction. -/
namespace Go.Cl
noncomputable section
variable {X : Ctx} {E : Rec} {ro : Option Nat} {N : Nat} {ops : Array Oper} {n0 : Nat} {t : Sta} {T0 : PM Value}

theorem info_o (hok : SOk t ops) {i : Nat} {o : Oper} (ho : ops[i]? = some o) : (t.info ops i).o = o := by
  have : t.ops[i]? = some o := (hok.o i).trans ho
  simp [Sta.info, List.getD_eq_getElem?_getD, this]
theorem info_touch (hok : SOk t ops) {i : Nat} {o : Oper} (ho : ops[i]? = some o) : (t.info ops i).touch = touchOf ops o := by
  have : t.ops[i]? = some o := (hok.o i).trans ho
  simp [Sta.info, List.getD_eq_getElem?_getD, this]

structure Stp (g g' : DSt) (i : Nat) : Prop where
  recs : ∀ j, j ≠ i → g'.recs.get j = g.recs.get j
  stg : ∀ k, k ≤ t.q i → g'.stg.get k = g.stg.get k

theorem put_spec (hok : SOk t ops) {i : Nat} {o : Oper} (ho : ops[i]? = some o) {g : DSt} (hg : Gen N t T0 i g) (hne : (t.k i).isEff = false) (v : Value) (T : PM Value) (lw : Option CObj) :
    Gen N t T0 (i + 1) (dPut N (t.info ops i) g v T lw) ∧ Stp (t := t) g (dPut N (t.info ops i) g v T lw) i := by
  obtain ⟨h1, h2, h3⟩ := hg
  refine ⟨⟨?_, ?_, h3⟩, fun j hj => ?_, fun k _ => rfl⟩
  · intro tmp v' hv'
    simp only [dPut, info_o hok ho] at hv' ⊢
    exact Src.put (rec := ⟨v, T, lw⟩) (by rw [hok.d, ho]; rfl) h1 tmp v' hv'
  · rw [Sta.q_succ, hne]; exact h2
  · simp only [dPut]
    exact (PM.get_set _ _ _ _).trans (if_neg hj)
theorem stage_spec (hok : SOk t ops) {i : Nat} {o : Oper} (ho : ops[i]? = some o) {g : DSt} (hg : Gen N t T0 i g) (he : (t.k i).isEff = true) (v : Value) (T : PM Value) (lw : Option CObj) (s' : CS) (D' : List DItem) (hup : s'.up ≤ bigU) :
    Gen N t T0 (i + 1) (dStage (t.info ops i) (dPut N (t.info ops i) g v T lw) s' D') ∧ Stp (t := t) g (dStage (t.info ops i) (dPut N (t.info ops i) g v T lw) s' D') i ∧
    (dStage (t.info ops i) (dPut N (t.info ops i) g v T lw) s' D').stg.get (t.q i + 1) = some (s', D') := by
  obtain ⟨h1, h2, h3⟩ := hg
  refine ⟨⟨?_, ?_, ?_⟩, ⟨fun j hj => ?_, fun k hk => ?_⟩, ?_⟩
  · intro tmp v' hv'
    simp only [dStage, dPut, info_o hok ho] at hv' ⊢
    exact Src.put (rec := ⟨v, T, lw⟩) (by rw [hok.d, ho]; rfl) h1 tmp v' hv'
  · rw [Sta.q_succ, he]
    simp only [dStage, dPut, Sta.info, if_true]
    exact PM.get_set_same _ _ _
  · intro k s D hk
    simp only [dStage, dPut, PM.get_set] at hk
    split at hk
    · simp only [Option.some.injEq, Prod.mk.injEq] at hk
      rw [← hk.1]; exact hup
    · exact h3 _ _ _ hk
  · simp only [dStage, dPut]
    exact (PM.get_set _ _ _ _).trans (if_neg hj)
  · simp only [dStage, dPut]
    refine (PM.get_set _ _ _ _).trans (if_neg ?_)
    simp only [Sta.info]; omega
  · simp only [dStage, dPut]
    exact PM.get_set_same _ _ _

theorem dStep_spec (hok : SOk t ops) {i : Nat} {o : Oper} (hi : i < t.n) (ho : ops[i]? = some o) {g g' : DSt} (h : dStep X E ro N ops n0 (t.info ops i) g = some g') (hg : Gen N t T0 i g) :
    Gen N t T0 (i + 1) g' ∧ Stp (t := t) g g' i ∧ OpFact X E ro N ops n0 t T0 g'.recs g'.stg (fun k => k = t.q i) i o := by
  have hrest : ∀ {recs' : PM ORec}, (∀ j, j ≠ i → recs'.get j = g.recs.get j) → ∀ tmp v, (restr g.T (touchOf ops o)).get tmp = some v → tmp ∈ touchOf ops o ∧ Src N t T0 recs' i tmp v := by
    intro recs' hr tmp v hv
    obtain ⟨h1, h2⟩ := restr_get hv
    exact ⟨h1, (hg.1 tmp v h2).congr fun j hj => hr j (by omega)⟩
  have hsee : ∀ {recs' : PM ORec} {k : Nat} {s : CS}, (∀ j, j ≠ i → recs'.get j = g.recs.get j) → dSee n0 recs' (t.vis (t.a i) k) s = dSee n0 g.recs (t.vis (t.a i) k) s := fun hr => dSee_congr hok hi fun j hj => hr j (by omega)
  have hup : g.s.up ≤ bigU := hg.2.2 _ _ _ hg.2.1
  have hki : (t.info ops i).kind = t.k i := rfl
  have hvis : (t.info ops i).vis = t.vis (t.a i) (t.q i) := rfl
  have hii : (t.info ops i).i = i := rfl
  -- not an effect: the record
  have fin : ∀ (v : Value) (lw : Option CObj) (b : Bool), (t.k i).isEff = false → wantedT ops (restr g.T (touchOf ops o)) o = some b →
      (b = false → v = undef ∧ lw = none ∧ (∀ x p, t.k i ≠ .ins x p)) →
      (b = true → KFact X E ro n0 t g.recs g.stg i o ⟨v, restr g.T (touchOf ops o), lw⟩ (fun k => k = t.q i) (t.k i)) →
      Gen N t T0 (i + 1) (dPut N (t.info ops i) g v (restr g.T (touchOf ops o)) lw) ∧ Stp (t := t) g (dPut N (t.info ops i) g v (restr g.T (touchOf ops o)) lw) i ∧
        OpFact X E ro N ops n0 t T0 (dPut N (t.info ops i) g v (restr g.T (touchOf ops o)) lw).recs (dPut N (t.info ops i) g v (restr g.T (touchOf ops o)) lw).stg (fun k => k = t.q i) i o := by
    intro v lw b hne hw hf htr
    obtain ⟨h1, h2⟩ := put_spec hok ho hg hne v (restr g.T (touchOf ops o)) lw
    refine ⟨h1, h2, ⟨v, restr g.T (touchOf ops o), lw⟩, by simp only [dPut, hii]; exact PM.get_set_same _ _ _, hrest h2.recs, b, hw, fun hb => ?_, fun hb => ?_⟩
    · obtain ⟨q1, q2, q3⟩ := hf hb
      exact ⟨q1, q2, q3, fun he => by rw [he] at hne; cases hne⟩
    · have := htr hb
      cases hkd : t.k i with
      | eff => rw [hkd] at hne; cases hne
      | al => rw [hkd] at this; exact this
      | ins x pre =>
        rw [hkd] at this
        obtain ⟨pob, y, ob, p1, p2⟩ := this
        refine ⟨pob, y, ob, ?_, p2⟩
        have hlt := hok.lt hi (hok.ins hi hkd).2.2.1
        unfold lwOf at p1 ⊢
        rw [h2.recs pre (by omega)]; exact p1
      | pure => rw [hkd] at this; exact this
      | read =>
        rw [hkd] at this
        refine ⟨this.1, fun k hk => ?_⟩
        obtain ⟨s, D, s1, p1, p2⟩ := this.2 k hk
        exact ⟨s, D, s1, p1, by rw [hsee h2.recs]; exact p2⟩
  unfold dStep at h
  dsimp only at h
  rw [info_o hok ho, info_touch hok ho, hki, hvis, hii] at h
  split at h
  · cases h
  · rename_i hw
    cases hkd : t.k i with
    | ins x p => rw [hkd] at h; cases h
    | eff =>
      rw [hkd] at h
      simp only [Option.some.injEq] at h
      subst h
      obtain ⟨h1, h2, h3⟩ := stage_spec (N := N) hok ho hg (by rw [hkd]; rfl) undef (restr g.T (touchOf ops o)) none (dSee n0 g.recs (t.vis (t.a i) (t.q i)) g.s) g.D hup
      refine ⟨h1, h2, ⟨undef, restr g.T (touchOf ops o), none⟩, by simp only [dStage, dPut, hii]; exact PM.get_set_same _ _ _, hrest h2.recs, false, hw, fun _ => ⟨rfl, rfl, by simp [hkd], fun _ => ⟨g.s, g.D, ?_, ?_⟩⟩, fun hb => by cases hb⟩
      · rw [h2.stg _ (Nat.le_refl _)]; exact hg.2.1
      · rw [h3, hsee h2.recs]
    | al => rw [hkd] at h; simp only [Option.some.injEq] at h; subst h; exact fin undef none false (by rw [hkd]; rfl) hw (fun _ => ⟨rfl, rfl, by simp [hkd]⟩) (fun hb => by cases hb)
    | pure => rw [hkd] at h; simp only [Option.some.injEq] at h; subst h; exact fin undef none false (by rw [hkd]; rfl) hw (fun _ => ⟨rfl, rfl, by simp [hkd]⟩) (fun hb => by cases hb)
    | read => rw [hkd] at h; simp only [Option.some.injEq] at h; subst h; exact fin undef none false (by rw [hkd]; rfl) hw (fun _ => ⟨rfl, rfl, by simp [hkd]⟩) (fun hb => by cases hb)
  · rename_i hw
    cases hkd : t.k i with
    | eff =>
      rw [hkd] at h
      simp only at h
      split at h
      · rename_i v D s hO
        split at h
        · rename_i hle
          simp only [Option.some.injEq] at h
          subst h
          obtain ⟨h1, h2, h3⟩ := stage_spec (N := N) hok ho hg (by rw [hkd]; rfl) v (restr g.T (touchOf ops o)) none s D hle
          refine ⟨h1, h2, ⟨v, restr g.T (touchOf ops o), none⟩, by simp only [dStage, dPut, hii]; exact PM.get_set_same _ _ _, hrest h2.recs, true, hw, (fun hb => absurd hb (by simp)), fun _ => ?_⟩
          rw [hkd]
          refine ⟨rfl, g.s, g.D, s, D, ?_, h3, ?_⟩
          · rw [h2.stg _ (Nat.le_refl _)]; exact hg.2.1
          · rw [hsee h2.recs]; exact hO
        · cases h
      · cases h
    | al =>
      rw [hkd] at h
      simp only at h
      split at h
      · rename_i v y a b hc
        split at h
        · rename_i hab
          obtain ⟨rfl, rfl⟩ := hab
          split at h
          · rename_i ob hob
            simp only [Option.some.injEq] at h
            subst h
            exact fin v (some ob) true (by rw [hkd]; rfl) hw (fun hb => by cases hb) (fun _ => by rw [hkd]; exact ⟨y, ob, hc, hob, rfl⟩)
          · cases h
        · cases h
      · cases h
    | ins x pre =>
      rw [hkd] at h
      simp only at h
      split at h
      · rename_i pv pT pob hp
        split at h
        · rename_i v y a b hc
          split at h
          · rename_i hab
            obtain ⟨rfl, rfl⟩ := hab
            split at h
            · rename_i ob hob
              simp only [Option.some.injEq] at h
              subst h
              exact fin v (some ob) true (by rw [hkd]; rfl) hw (fun hb => by cases hb) (fun _ => by rw [hkd]; exact ⟨pob, y, ob, by simp [lwOf, hp], hc, hob, rfl⟩)
            · cases h
          · cases h
        · cases h
      · cases h
    | pure =>
      rw [hkd] at h
      simp only at h
      split at h
      · rename_i v y a b hc
        split at h
        · rename_i hab
          obtain ⟨rfl, rfl⟩ := hab
          simp only [Option.some.injEq] at h
          subst h
          exact fin v none true (by rw [hkd]; rfl) hw (fun hb => by cases hb) (fun _ => by rw [hkd]; exact ⟨rfl, .inl ⟨y, hc⟩⟩)
        · cases h
      · rename_i v hc
        simp only [Option.some.injEq] at h
        subst h
        exact fin v none true (by rw [hkd]; rfl) hw (fun hb => by cases hb) (fun _ => by rw [hkd]; exact ⟨rfl, .inr hc⟩)
      · cases h
    | read =>
      rw [hkd] at h
      simp only at h
      split at h
      · rename_i v s1 hc
        simp only [Option.some.injEq] at h
        subst h
        exact fin v none true (by rw [hkd]; rfl) hw (fun hb => by cases hb) (fun _ => by rw [hkd]; exact ⟨rfl, fun k hk => by subst hk; exact ⟨g.s, g.D, s1, hg.2.1, hc⟩⟩)
      · cases h

theorem dRun_spec (hok : SOk t ops) : ∀ (len i : Nat) {g g' : DSt}, i + len = t.n → dRun X E ro N ops n0 ((List.range' i len).map (t.info ops)) g = some g' → Gen N t T0 i g →
    Gen N t T0 t.n g' ∧ (∀ j, j < i → g'.recs.get j = g.recs.get j) ∧ (∀ k, k ≤ t.q i → g'.stg.get k = g.stg.get k) ∧ ∀ j o, i ≤ j → ops[j]? = some o → OpFact X E ro N ops n0 t T0 g'.recs g'.stg (fun k => k = t.q j) j o
  | 0, i, g, g', hn, h, hg => by
    simp only [List.range'_zero, List.map_nil, dRun, Option.some.injEq] at h
    subst h
    have : i = t.n := by omega
    subst this
    refine ⟨hg, fun _ _ => rfl, fun _ _ => rfl, fun j o hj ho => ?_⟩
    have := (Array.getElem?_eq_some_iff.1 ho).1
    rw [hok.n] at hj; omega
  | len + 1, i, g, g', hn, h, hg => by
    simp only [List.range'_succ, List.map_cons, dRun] at h
    split at h
    · rename_i g1 h1
      have hi : i < t.n := by omega
      obtain ⟨o, ho⟩ : ∃ o, ops[i]? = some o := ⟨_, Array.getElem?_eq_getElem (by rw [← hok.n]; exact hi)⟩
      obtain ⟨hg1, hs1, hf⟩ := dStep_spec hok hi ho h1 hg
      obtain ⟨r1, r2, r3, r4⟩ := dRun_spec hok len (i + 1) (by omega) h hg1
      have hqq : t.q i ≤ t.q (i + 1) := by rw [Sta.q_succ]; omega
      refine ⟨r1, fun j hj => ?_, fun k hk => ?_, fun j oj hj hoj => ?_⟩
      · rw [r2 j (by omega), hs1.recs j (by omega)]
      · rw [r3 k (by omega), hs1.stg k hk]
      · by_cases hji : j = i
        · subst hji
          rw [ho] at hoj
          simp only [Option.some.injEq] at hoj
          subst hoj
          exact hf.congr hok hi (fun j hj => r2 j (by omega)) (fun k hk => r3 k hk) (fun k hk => by subst hk; exact hqq)
        · exact r4 j oj (by omega) hoj
    · cases h

theorem dWins_spec {recs : PM ORec} {stg : PM (CS × List DItem)} {T : PM Value} {v : Value} {o : Oper} : ∀ {l : List (Nat × List (Nat × Nat))}, dWins X n0 recs stg T v o l = true → ∀ k vis, (k, vis) ∈ l → ∃ s D s1, stg.get k = some (s, D) ∧ cop X T (dSee n0 recs vis s) o = some (.val v s1)
  | [], _, _, _, h => by cases h
  | (k', vis') :: l, h, k, vis, hm => by
    simp only [dWins] at h
    split at h
    · rename_i s D hs
      split at h
      · rename_i v' s1 hc
        split at h
        · rename_i hv
          have := veqF_eq _ _ hv
          subst this
          rcases List.mem_cons.1 hm with hm | hm
          · cases hm; exact ⟨s, D, s1, hs, hc⟩
          · exact dWins_spec h k vis hm
        · cases h
      · cases h
    · cases h
theorem dChk_spec {recs : PM ORec} {stg : PM (CS × List DItem)} : ∀ {l : List PInfo}, dChk X ops n0 recs stg l = true → ∀ p ∈ l, dChk1 X ops n0 recs stg p = true
  | [], _, _, h => by cases h
  | p' :: l, h, p, hm => by
    simp only [dChk] at h
    split at h
    · rename_i h1
      rcases List.mem_cons.1 hm with hm | hm
      · subst hm; exact h1
      · exact dChk_spec h p hm
    · cases h

/-- All that the run has shown. -/
theorem facts (hok : SOk t ops) {s0 : CS} {D0 : List DItem} {g : DSt} (hup : s0.up ≤ bigU) (h : dRun X E ro N ops n0 ((List.range t.n).map (t.info ops)) ⟨T0, .nil, s0, D0, PM.nil.set 0 (s0, D0)⟩ = some g) (hc : dChk X ops n0 g.recs g.stg ((List.range t.n).map (t.info ops)) = true) :
    Gen N t T0 t.n g ∧ g.stg.get 0 = some (s0, D0) ∧ ∀ j o, ops[j]? = some o → OpFact X E ro N ops n0 t T0 g.recs g.stg (fun k => k ≤ t.effs.length ∧ t.win j k = true) j o := by
  rw [List.range_eq_range'] at h
  have hg0 : Gen N t T0 0 (⟨T0, .nil, s0, D0, PM.nil.set 0 (s0, D0)⟩ : DSt) := by
    refine ⟨fun tmp v hv => .inr ⟨fun j hj => by omega, hv⟩, (show (PM.nil.set 0 (s0, D0)).get 0 = _ from PM.get_set_same _ _ _), fun k s D hk => ?_⟩
    simp only [PM.get_set] at hk
    split at hk
    · simp only [Option.some.injEq, Prod.mk.injEq] at hk; rw [← hk.1]; exact hup
    · rw [PM.get_nil'] at hk; cases hk
  obtain ⟨r1, r2, r3, r4⟩ := dRun_spec hok t.n 0 (by omega) h hg0
  refine ⟨r1, (r3 0 (by omega)).trans (show (PM.nil.set 0 (s0, D0)).get 0 = _ from PM.get_set_same _ _ _), fun j o ho => ?_⟩
  have hj : j < t.n := by rw [hok.n]; exact (Array.getElem?_eq_some_iff.1 ho).1
  obtain ⟨rec, h1, h2, b, h3, h4, h5⟩ := r4 j o (by omega) ho
  refine ⟨rec, h1, h2, b, h3, h4, fun hb => ?_⟩
  have h5 := h5 hb
  cases hkd : t.k j with
  | eff => rw [hkd] at h5; exact h5
  | al => rw [hkd] at h5; exact h5
  | ins x pre => rw [hkd] at h5; exact h5
  | pure => rw [hkd] at h5; exact h5
  | read =>
    rw [hkd] at h5
    refine ⟨h5.1, fun k hk => ?_⟩
    by_cases hkq : k = t.q j
    · exact h5.2 k hkq
    · have hch := dChk_spec hc (t.info ops j) (List.mem_map.2 ⟨j, List.mem_range.2 hj, rfl⟩)
      have hm : (k, t.vis (t.a j) k) ∈ (t.info ops j).wins := by
        simp only [Sta.info, hkd, List.mem_filterMap, List.mem_range]
        exact ⟨k, by omega, by rw [if_pos ⟨hkq, hk.2⟩]⟩
      unfold dChk1 at hch
      split at hch
      · rename_i hw; rw [hw] at hm; cases hm
      · rename_i x xs hw
        have hii : (t.info ops j).i = j := rfl
        rw [hii, h1, info_o hok ho] at hch
        obtain ⟨v, T, lw⟩ := rec
        simp only at hch h3
        subst hb
        rw [h3] at hch
        simp only at hch
        rw [← hw] at hch
        exact dWins_spec hch k _ hm
end
end Go.Cl

/- Every order of a drawn region is as good as the plan's: what holds after any part of it. -/
namespace Go.Cl
noncomputable section
variable {P : Program} {X : Ctx} {E : Rec} {ro : Option Nat} {N : Nat} {ops : Array Oper} {n0 : Nat} {t : Sta} {T0 : PM Value} {recs : PM ORec} {stg : PM (CS × List DItem)} {r0 : Ren} {s0 : CS} {w0 : World}

theorem rdOp_pure {T : PM Value} {s : CS} {o : Oper} {c : CRes} (hr : rdOp o.op = true) (h : cop X T s o = some c) : ∃ v, c = .val v s := by
  have P1 : ∀ {x : Option Value} {c : CRes}, CRes.pure x s = some c → ∃ v, c = .val v s := fun h => let ⟨v, _, h2⟩ := CRes.pure_some h; ⟨v, h2⟩
  unfold cop at h
  cases ho : o.op <;> rw [ho] at h hr <;> simp only [rdOp, Bool.false_eq_true, reduceCtorEq] at hr h
  case move => exact P1 h
  case assign => exact P1 h
  case pick => unfold oPick at h; split at h <;> first | exact P1 h | cases h
  case build => unfold oBuild at h; split at h <;> first | exact P1 h | cases h
  case load => unfold oLoad at h; split at h <;> first | exact P1 h | cases h
  case nilCheck => unfold oNil at h; split at h <;> first | exact P1 h | cases h
  case binOp => unfold oBin at h; split at h <;> first | exact P1 h | cases h
  case unOp => unfold oUn at h; split at h <;> first | exact P1 h | cases h
  case convert => unfold oConv at h; split at h <;> first | exact P1 h | cases h
  case makeInterface => unfold oIface at h; split at h <;> first | exact P1 h | cases h
  case makeFunc =>
    unfold oFunc at h
    split at h
    · split at h
      · simp only [Option.some.injEq] at h; exact ⟨_, h.symm⟩
      · cases h
    · cases h
  case slice => unfold oSlice at h; split at h <;> first | exact P1 h | cases h
  case fieldAddr => unfold oFieldAddr at h; split at h <;> first | exact P1 h | cases h
  case field => unfold oField at h; split at h <;> first | exact P1 h | cases h
  case indexAddr => unfold oIndexAddr at h; split at h <;> first | exact P1 h | cases h
  case index => unfold oIndex at h; split at h <;> first | exact P1 h | cases h
  case lookup => unfold oLookup at h; split at h <;> first | exact P1 h | cases h
  case entry => unfold oEntry at h; split at h <;> first | exact P1 h | cases h
  case typeAssert => unfold oAssert at h; split at h <;> first | exact P1 h | cases h
  case extract => unfold oExtract at h; split at h <;> first | exact P1 h | cases h
  case call c' =>
    obtain ⟨callee, args, tys⟩ := c'
    cases callee with
    | value f => cases hr
    | invoke a b => cases hr
    | builtin b =>
      unfold oCall at h
      split at h
      · cases h
      · simp only at h
        unfold cBuiltin at h
        cases b <;> (try cases hr) <;> (try simp only at h) <;> (repeat' split at h) <;> first | exact P1 h | contradiction | (cases h; done) | simp_all

def VLF (t : Sta) (S : Nat → Bool) (k : Nat) (vl : List (Nat × Nat)) : Prop :=
  ∀ g x, (g, x) ∈ vl ↔ (g ∈ t.als ∧ S g = true ∧ (t.mask k).testBit g = false ∧ x ∈ t.ws g ∧ S x = true ∧ ∀ y ∈ t.ws g, S y = true → y ≤ x)
/-- What holds when the operations S are done, k effects among them. -/
structure Inv (P : Program) (N : Nat) (n0 : Nat) (t : Sta) (T0 : PM Value) (recs : PM ORec) (stg : PM (CS × List DItem)) (r0 : Ren) (s0 : CS) (w0 : World) (S : Nat → Bool) (k : Nat) (r : Ren) (a : Act) (w : World) : Prop where
  closed : ∀ i, S i = true → i < t.n ∧ ∀ j, (t.a i).testBit j = true → S j = true
  kle : k ≤ t.effs.length
  eff : ∀ q e, t.effs[q]? = some e → (S e = true ↔ q < k)
  size : a.tmps.size = N
  tT : ∀ tmp v, T0.get tmp = some v → (∀ i, S i = true → t.d i ≠ some tmp) → ∃ v', a.tmps[tmp]? = some v' ∧ VR r v v'
  tS : ∀ i tmp rec, S i = true → t.d i = some tmp → tmp < N → (∀ j, S j = true → i < j → t.d j ≠ some tmp) → recs.get i = some rec → ∃ v', a.tmps[tmp]? = some v' ∧ VR r rec.v v'
  st : ∃ s D vl, stg.get k = some (s, D) ∧ DR r D a.defers ∧ VLF t S k vl ∧ R P r (dSee n0 recs vl s) w ∧ Step r0 s0 w0 r (dSee n0 recs vl s) w ∧ (∀ g, g < t.n → (t.mask k).testBit g = false → s.h.get (n0 + g) = none) ∧ n0 + t.n ≤ s.nx ∧ s.up ≤ bigU
  un : ∀ i, i < t.n → S i = false → r (n0 + i) = none

def Sadd (S : Nat → Bool) (i : Nat) : Nat → Bool := fun j => if j = i then true else S j
theorem Sadd_same {S : Nat → Bool} {i : Nat} : Sadd S i i = true := by simp [Sadd]
theorem Sadd_ne {S : Nat → Bool} {i j : Nat} (h : j ≠ i) : Sadd S i j = S j := by simp [Sadd, h]

/-- An operation that may come up: what it hangs on is done. -/
theorem ready_anc (hok : SOk t ops) {S : Nat → Bool} (hc : ∀ i, S i = true → i < t.n ∧ ∀ j, (t.a i).testBit j = true → S j = true) {i : Nat} {o : Oper} (ho : ops[i]? = some o)
    (hr : ∀ e ∈ o.after.toList, Region.binds .any e = true → S e.on = true) (j : Nat) (hj : (t.a i).testBit j = true) : S j = true := by
  obtain ⟨e, h1, h2, h3⟩ := hok.anc ho hj
  rcases h3 with rfl | h3
  · exact hr e h1 h2
  · exact (hc _ (hr e h1 h2)).2 j h3

theorem mask_mono {k g : Nat} (h : (t.mask (k + 1)).testBit g = false) : (t.mask k).testBit g = false := by
  cases hk : (t.mask k).testBit g with
  | false => rfl
  | true =>
    obtain ⟨e, h1, h2⟩ := Sta.mem_mask.1 hk
    have : (t.mask (k + 1)).testBit g = true := Sta.mem_mask.2 ⟨e, by
      rw [List.take_add_one]; exact List.mem_append_left _ h1, h2⟩
    rw [this] at h; cases h

section
variable {S : Nat → Bool} {k : Nat} {r : Ren} {a : Act} {w : World} {i : Nat} {o : Oper}

theorem Inv.effs_of_mask (I : Inv P N n0 t T0 recs stg r0 s0 w0 S k r a w) {e : Nat} (he : e ∈ t.effs.take k) : S e = true ∧ e ∈ t.effs := by
  obtain ⟨q, hq, h1⟩ := List.mem_iff_getElem.1 he
  simp only [List.length_take] at hq
  have h2 : t.effs[q]? = some e := by rw [← h1, List.getElem_take, List.getElem?_eq_getElem]
  exact ⟨(I.eff q e h2).2 (by omega), List.mem_of_getElem? h2⟩
/-- What a mask holds is done. -/
theorem Inv.mask_done (I : Inv P N n0 t T0 recs stg r0 s0 w0 S k r a w) {g : Nat} (hg : (t.mask k).testBit g = true) : S g = true := by
  obtain ⟨e, h1, h2⟩ := Sta.mem_mask.1 hg
  obtain ⟨h3, _⟩ := I.effs_of_mask h1
  rcases h2 with rfl | h2
  · exact h3
  · exact (I.closed _ h3).2 _ h2

/-- The temporaries that an operation reads. -/
theorem Inv.reads (hok : SOk t ops) (I : Inv P N n0 t T0 recs stg r0 s0 w0 S k r a w) (hT0 : ∀ tmp v, T0.get tmp = some v → tmp < N) (hS : S i = false) (ho : ops[i]? = some o) (hanc : ∀ j, (t.a i).testBit j = true → S j = true)
    {T : PM Value} (hT : ∀ tmp v, T.get tmp = some v → tmp ∈ touchOf ops o ∧ Src N t T0 recs i tmp v) : TR r T N a.tmps := by
  refine ⟨I.size, fun tmp v hv => ?_⟩
  obtain ⟨htouch, hsrc⟩ := hT tmp v hv
  have later : ∀ j, S j = true → t.d j = some tmp → j < i := by
    intro j hj hd
    have hne : j ≠ i := fun e => by subst e; rw [hS] at hj; cases hj
    have := hok.tmp ho (I.closed j hj).1 hne hd (.inr htouch)
    split at this
    · assumption
    · rw [(I.closed j hj).2 i this] at hS; cases hS
  rcases hsrc with ⟨j, rec, h1, h2, h3, h4, h5, h6⟩ | ⟨h1, h2⟩
  · have hj : S j = true := by
      have hi : i < t.n := by rw [hok.n]; exact (Array.getElem?_eq_some_iff.1 ho).1
      have := hok.tmp ho (by omega) (by omega) h2 (.inr htouch)
      rw [if_pos h1] at this
      exact hanc j this
    rw [h5]
    exact I.tS j tmp rec hj h2 h3 (fun j' q1 q2 q3 => h6 j' q2 (later j' q1 q3) q3) h4
  · exact I.tT tmp v h2 (fun j hj hd => h1 j (later j hj hd) hd (hT0 _ _ h2))

/-- What an operation sees is there. -/
theorem Inv.sees (I : Inv P N n0 t T0 recs stg r0 s0 w0 S k r a w) {A : Nat} (hanc : ∀ j, A.testBit j = true → S j = true) {s : CS} {vl : List (Nat × Nat)} (hvl : VLF t S k vl)
    (hh : ∀ g, g < t.n → (t.mask k).testBit g = false → s.h.get (n0 + g) = none) {id : Nat} {ob : CObj} (h : (addV n0 recs (t.vis A k) s.h).get id = some ob) : (addV n0 recs vl s.h).get id = some ob := by
  have hf : ∀ g a b, (g, a) ∈ vl → (g, b) ∈ vl → a = b := fun g a b ha hb => by
    have h1 := (hvl g a).1 ha; have h2 := (hvl g b).1 hb
    exact Nat.le_antisymm (h2.2.2.2.2.2 a h1.2.2.2.1 h1.2.2.2.2.1) (h1.2.2.2.2.2 b h2.2.2.2.1 h2.2.2.2.2.1)
  rcases addV_get h with ⟨g, x, h1, rfl, h3⟩ | ⟨h1, h2⟩
  · obtain ⟨q1, q2, q3, rfl⟩ := Sta.mem_vis.1 h1
    obtain ⟨p1, p2⟩ := Sta.ws_last q1
    have hg : g ∈ t.ws g := Sta.mem_ws.2 ⟨(Sta.mem_als.1 q1).1, .inl rfl⟩
    exact addV_mem hf ((hvl _ _).2 ⟨q1, hanc _ (q2 g hg), q3, p1, hanc _ (q2 _ p1), fun y hy _ => p2 y hy⟩) h3
  · rw [addV_else, h1]
    intro g x hm hid
    have := (hvl g x).1 hm
    rw [hid, hh g (Sta.mem_als.1 this.1).1 this.2.2.1] at h1
    cases h1
theorem VLF.fn {vl : List (Nat × Nat)} (hvl : VLF t S k vl) : ∀ g a b, (g, a) ∈ vl → (g, b) ∈ vl → a = b := fun g a b ha hb => by
  have h1 := (hvl g a).1 ha; have h2 := (hvl g b).1 hb
  exact Nat.le_antisymm (h2.2.2.2.2.2 a h1.2.2.2.1 h1.2.2.2.2.1) (h1.2.2.2.2.2 b h2.2.2.2.1 h2.2.2.2.2.1)

/-- The memory's part of what holds. -/
def HInv (P : Program) (n0 : Nat) (t : Sta) (recs : PM ORec) (stg : PM (CS × List DItem)) (r0 : Ren) (s0 : CS) (w0 : World) (S : Nat → Bool) (k : Nat) (r : Ren) (ds : List Deferred) (w : World) : Prop :=
  ∃ s D vl, stg.get k = some (s, D) ∧ DR r D ds ∧ VLF t S k vl ∧ R P r (dSee n0 recs vl s) w ∧ Step r0 s0 w0 r (dSee n0 recs vl s) w ∧ (∀ g, g < t.n → (t.mask k).testBit g = false → s.h.get (n0 + g) = none) ∧ n0 + t.n ≤ s.nx ∧ s.up ≤ bigU

/-- The rest follows. -/
theorem Inv.put (hok : SOk t ops) (I : Inv P N n0 t T0 recs stg r0 s0 w0 S k r a w) (hS : S i = false) (ho : ops[i]? = some o) (hanc : ∀ j, (t.a i).testBit j = true → S j = true) {rec : ORec} (hrec : recs.get i = some rec)
    {k' : Nat} (hk' : k' = if (t.k i).isEff = true then k + 1 else k) {r' : Ren} (hm : ∀ a l, r a = some l → r' a = some l) {ds : List Deferred} {v' : Value} {w' : World} (hv : VR r' rec.v v')
    (hH : HInv P n0 t recs stg r0 s0 w0 (Sadd S i) k' r' ds w') (hun : ∀ j, j < t.n → Sadd S i j = false → r' (n0 + j) = none) :
    Inv P N n0 t T0 recs stg r0 s0 w0 (Sadd S i) k' r' ({ a with defers := ds }.put o.dst v') w' := by
  have hi : i < t.n := by rw [hok.n]; exact (Array.getElem?_eq_some_iff.1 ho).1
  have hdi : t.d i = o.dst := by rw [hok.d, ho]; rfl
  have hother : ∀ tmp, t.d i ≠ some tmp → (({ a with defers := ds } : Act).put o.dst v').tmps[tmp]? = a.tmps[tmp]? := by
    intro tmp hne
    rw [hdi] at hne
    cases hd : o.dst with
    | none => rfl
    | some x =>
      rw [hd] at hne
      simp only [Act.put]
      rw [Array.getElem?_setIfInBounds, if_neg (fun e => hne (by rw [e]))]
  -- an effect's place
  have hq : (t.k i).isEff = true → t.q i = k := by
    intro he
    have h1 := Sta.effs_q hi he
    have h2 : ¬ t.q i < k := fun hlt => by rw [(I.eff _ _ h1).2 hlt] at hS; cases hS
    refine Nat.le_antisymm ?_ (Nat.le_of_not_lt h2)
    by_cases hz : t.q i = 0
    · omega
    · have hl : t.q i - 1 < t.effs.length := by have := Sta.q_le i (Nat.le_of_lt hi); omega
      have h3 : t.effs[t.q i - 1]? = some t.effs[t.q i - 1] := List.getElem?_eq_getElem hl
      have h4 : t.effs[t.q i - 1] < i := by
        obtain ⟨hx, hy⟩ := List.getElem?_eq_some_iff.1 h1
        have := List.pairwise_iff_getElem.1 (Sta.effs_sorted (t := t)) (t.q i - 1) (t.q i) hl hx (by omega)
        omega
      have h5 := hok.effc (List.mem_of_getElem? h3) (List.mem_of_getElem? h1) h4
      have := (I.eff _ _ h3).1 (hanc _ h5)
      omega
  refine ⟨fun j hj => ?_, ?_, fun q e he => ?_, ?_, fun tmp v hv0 hno => ?_, fun j tmp rj hj hd hlt hno hrj => ?_, ?_, hun⟩
  · by_cases hji : j = i
    · subst hji
      refine ⟨hi, fun x hx => ?_⟩
      by_cases hxj : x = j
      · subst hxj; exact Sadd_same
      · rw [Sadd_ne hxj]; exact hanc x hx
    · rw [Sadd_ne hji] at hj
      refine ⟨(I.closed j hj).1, fun x hx => ?_⟩
      by_cases hxi : x = i
      · subst hxi; exact Sadd_same
      · rw [Sadd_ne hxi]; exact (I.closed j hj).2 x hx
  · rw [hk']
    split
    · rename_i he
      have h1 := Sta.effs_q hi he
      have := (List.getElem?_eq_some_iff.1 h1).1
      rw [← hq he]; omega
    · exact I.kle
  · rw [hk']
    by_cases hei : e = i
    · subst hei
      have he' : (t.k e).isEff = true := (Sta.mem_effs.1 (List.mem_of_getElem? he)).2
      rw [if_pos he']
      have h1 := Sta.effs_q hi he'
      have hqe : q = t.q e := by
        obtain ⟨hx, hy⟩ := List.getElem?_eq_some_iff.1 h1
        obtain ⟨hx', hy'⟩ := List.getElem?_eq_some_iff.1 he
        rcases Nat.lt_trichotomy q (t.q e) with hlt | heq | hgt
        · have := List.pairwise_iff_getElem.1 (Sta.effs_sorted (t := t)) q (t.q e) hx' hx hlt; omega
        · exact heq
        · have := List.pairwise_iff_getElem.1 (Sta.effs_sorted (t := t)) (t.q e) q hx hx' hgt; omega
      simp only [Sadd_same, true_iff]
      rw [hqe, hq he']; omega
    · rw [Sadd_ne hei, I.eff q e he]
      split
      · rename_i he'
        have h1 := Sta.effs_q hi he'
        rw [hq he'] at h1
        have : q ≠ k := fun heq => by subst heq; rw [h1] at he; simp only [Option.some.injEq] at he; exact hei he.symm
        omega
      · exact Iff.rfl
  · cases hd : o.dst with
    | none => exact I.size
    | some x => simp only [Act.put]; rw [Array.size_setIfInBounds]; exact I.size
  · rw [hother tmp (hno i Sadd_same)]
    obtain ⟨v1, q1, q2⟩ := I.tT tmp v hv0 fun j hj => by
      have hji : j ≠ i := fun e => by subst e; rw [hS] at hj; cases hj
      exact hno j (by rw [Sadd_ne hji]; exact hj)
    exact ⟨v1, q1, q2.mono hm⟩
  · by_cases hji : j = i
    · subst hji
      rw [hrec] at hrj
      simp only [Option.some.injEq] at hrj
      subst hrj
      refine ⟨v', ?_, hv⟩
      rw [hdi] at hd
      rw [hd]
      simp only [Act.put]
      rw [Array.getElem?_setIfInBounds, if_pos rfl, if_pos (by rw [I.size]; exact hlt)]
    · rw [Sadd_ne hji] at hj
      have hne : t.d i ≠ some tmp := by
        intro hdt
        rcases Nat.lt_or_gt_of_ne hji with h1 | h1
        · exact hno i Sadd_same h1 hdt
        · have := hok.tmp ho (I.closed j hj).1 hji hd (.inl (hdi ▸ hdt))
          rw [if_neg (by omega)] at this
          rw [(I.closed j hj).2 i this] at hS; cases hS
      rw [hother tmp hne]
      obtain ⟨v1, q1, q2⟩ := I.tS j tmp rj hj hd hlt (fun x hx hlt' => by
        have hxi : x ≠ i := fun e => by subst e; rw [hS] at hx; cases hx
        exact hno x (by rw [Sadd_ne hxi]; exact hx) hlt') hrj
      exact ⟨v1, q1, q2.mono hm⟩
  · rw [Act.put_defers]; exact hH
end
end
end Go.Cl

/- Every order of a drawn region is as good as the plan's: one operation more. -/
namespace Go.Cl
noncomputable section
variable {P : Program} {X : Ctx} {E : Rec} {ro ob : Option Nat} {N m : Nat} {ops : Array Oper} {n0 : Nat} {t : Sta} {T0 : PM Value} {recs : PM ORec} {stg : PM (CS × List DItem)} {r0 : Ren} {s0 : CS} {w0 : World}
  {S : Nat → Bool} {k : Nat} {r : Ren} {a : Act} {w : World} {i : Nat} {o : Oper}

theorem addV_some {h : PM CObj} : ∀ {l : List (Nat × Nat)} {id : Nat} {x : CObj}, h.get id = some x → ∃ y, (addV n0 recs l h).get id = some y
  | [], id, x, hx => ⟨x, hx⟩
  | (g, z) :: l, id, x, hx => by
    rw [addV_cons]
    obtain ⟨y, hy⟩ := addV_some (l := l) hx
    cases lwOf recs z with
    | none => exact ⟨y, hy⟩
    | some ob =>
      simp only [PM.get_set]
      split
      · exact ⟨_, rfl⟩
      · exact ⟨y, hy⟩

theorem Step.lower {s' s'' : CS} {w' : World} {r' : Ren} (h : Step r0 s0 w0 r' s' w') (hsub : ∀ id o, s''.h.get id = some o → s'.h.get id = some o) (h1 : s''.nx = s'.nx) (h2 : s''.up = s'.up) : Step r0 s0 w0 r' s'' w' :=
  ⟨h.mono, by rw [h1, h2]; exact h.nx, h.size, h.frame, fun id l hl => by rw [h2]; exact h.new id l hl, fun id o hid ho => h.live id o hid (hsub _ _ ho), h.rest⟩

section
variable {s : CS} {D : List DItem} {vl vl' : List (Nat × Nat)} {r' : Ren} {s1 s1' s2 : CS} {w' : World} {D2 : List DItem} {ds : List Deferred} {k' : Nat}

/-- The memory's part, one operation more. -/
theorem HInv.step (hd0 : ∀ id l, r0 id = some l → id ≠ s0.nx ∧ id < s0.up) (hn0 : n0 = s0.up)
    (hR : R P r (dSee n0 recs vl s) w) (hSt : Step r0 s0 w0 r (dSee n0 recs vl s) w)
    (hsub : ∀ id x, s1.h.get id = some x → (dSee n0 recs vl s).h.get id = some x) (hd1 : ∀ id l, r id = some l → id ≠ s1.nx ∧ id < s1.up)
    (hR1 : R P r' s1' w') (hS1 : Step r s1 w r' s1' w') (hfresh : ∀ id, (id = s1.nx ∨ s1.up ≤ id) → (dSee n0 recs vl s).h.get id = none ∧ n0 ≤ id)
    (hs2 : stg.get k' = some (s2, D2)) (hD2 : DR r' D2 ds) (hvl' : VLF t (Sadd S i) k' vl') (hG : ∀ id x, (dSee n0 recs vl' s2).h.get id = some x → s1'.h.get id = some x ∨ ((dSee n0 recs vl s).h.get id = some x ∧ s1.h.get id = none))
    (hh' : ∀ g, g < t.n → (t.mask k').testBit g = false → s2.h.get (n0 + g) = none) (hnx' : n0 + t.n ≤ s2.nx) (hup' : s2.up ≤ bigU) (hlt' : s2.nx < s2.up)
    (hd' : ∀ id l, r' id = some l → id ≠ s2.nx ∧ id < s2.up) (hn' : ∀ id x, s2.h.get id = some x → id ≠ s2.nx ∧ id < s2.up) :
    HInv P n0 t recs stg r0 s0 w0 (Sadd S i) k' r' ds w' := by
  have := R.frame (s' := dSee n0 recs vl' s2) hd0 hSt hR hsub hd1 hR1 hS1 (fun id hid => ⟨(hfresh id hid).1, .inr (hn0 ▸ (hfresh id hid).2)⟩) hG hd' (by
    intro id x hx
    rcases addV_get (h := s2.h) hx with ⟨g, y, h1, h2, h3⟩ | ⟨h1, _⟩
    · have := Sta.mem_als.1 ((hvl' g y).1 h1).1
      simp only [dSee]; omega
    · exact hn' id x h1) hlt' ⟨.inr (by simp only [dSee]; omega), by simp only [dSee]; omega⟩
  exact ⟨s2, D2, vl', hs2, hD2, hvl', this.1, this.2, hh', hnx', hup'⟩
end

theorem wantedT_false {T : PM Value} {b : Bool} (hT : TR r T N a.tmps) (h : wantedT ops T o = some b) : Region.wanted o (yielded ops a.tmps) = b := wantedT_ok hT h

theorem VLF.same {vl : List (Nat × Nat)} (h : VLF t S k vl) (h1 : ∀ g, i ≠ g ∨ (t.k i).isAl = false) (h2 : ∀ g, g ∈ t.als → i ∉ t.ws g) : VLF t (Sadd S i) k vl := by
  intro g x
  rw [h g x]
  have hx : ∀ {y}, g ∈ t.als → y ∈ t.ws g → Sadd S i y = S y := fun {y} hg hy => Sadd_ne fun e => by subst e; exact h2 g hg hy
  have hgg : g ∈ t.als → g ∈ t.ws g := fun hg => Sta.mem_ws.2 ⟨(Sta.mem_als.1 hg).1, .inl rfl⟩
  constructor
  · rintro ⟨q1, q2, q3, q4, q5, q6⟩
    exact ⟨q1, by rw [hx q1 (hgg q1)]; exact q2, q3, q4, by rw [hx q1 q4]; exact q5, fun y hy hSy => q6 y hy (by rw [← hx q1 hy]; exact hSy)⟩
  · rintro ⟨q1, q2, q3, q4, q5, q6⟩
    exact ⟨q1, by rw [← hx q1 (hgg q1)]; exact q2, q3, q4, by rw [← hx q1 q4]; exact q5, fun y hy hSy => q6 y hy (by rw [hx q1 hy]; exact hSy)⟩

theorem notin_ws (hne : (t.k i).isAl = false) (hni : ∀ g p, t.k i ≠ .ins g p) : ∀ g, g ∈ t.als → i ∉ t.ws g := by
  intro g hg hi
  rcases (Sta.mem_ws.1 hi).2 with rfl | h
  · rw [(Sta.mem_als.1 hg).2] at hne; cases hne
  · cases hk : t.k i with
    | ins g' p => exact hni g' p hk
    | _ => rw [hk] at h; cases h

theorem Kd.eff_al {k : Kd} (h : k.isEff = true) (h2 : k.isAl = true) : False := by cases k <;> simp [Kd.isEff, Kd.isAl] at h h2

/-- A new object of the region's, or none. -/
theorem vl_next (hok : SOk t ops) (I : Inv P N n0 t T0 recs stg r0 s0 w0 S k r a w) (hS : S i = false) (hi : i < t.n) {vl : List (Nat × Nat)} (hvl : VLF t S k vl) (hni : ∀ g p, t.k i ≠ .ins g p) (hne : (t.k i).isEff = false) :
    ∃ vl', VLF t (Sadd S i) k vl' ∧ ∀ g x, (g, x) ∈ vl' ↔ (g, x) ∈ vl ∨ ((t.k i).isAl = true ∧ g = i ∧ x = i) := by
  cases hal : (t.k i).isAl with
  | false => exact ⟨vl, hvl.same (fun g => .inr hal) (notin_ws hal hni), fun g x => by simp⟩
  | true =>
    have hials : i ∈ t.als := Sta.mem_als.2 ⟨hi, hal⟩
    have hwsi : i ∈ t.ws i := Sta.mem_ws.2 ⟨hi, .inl rfl⟩
    have hmask : (t.mask k).testBit i = false := by
      cases hb : (t.mask k).testBit i with
      | false => rfl
      | true => rw [I.mask_done hb] at hS; cases hS
    have hnoS : ∀ y, y ∈ t.ws i → y ≠ i → S y = false := by
      intro y hy hyi
      cases hSy : S y with
      | false => rfl
      | true =>
        have hy2 := (Sta.mem_ws.1 hy).2
        have hlt : i < y := by
          rcases hy2 with h | h
          · exact absurd h hyi
          · cases hk : t.k y with
            | ins g p =>
              rw [hk] at h
              have hg : g = i := by simpa [Kd.isIns] using h
              have := (hok.ins (Sta.mem_ws.1 hy).1 hk).2.1
              omega
            | _ => rw [hk] at h; cases h
        rw [(I.closed y hSy).2 i (hok.chain hials hwsi hy hlt)] at hS; cases hS
    have hgws : ∀ {g}, g ∈ t.als → g ≠ i → i ∉ t.ws g := by
      intro g hg hgi hm
      rcases (Sta.mem_ws.1 hm).2 with h | h
      · exact hgi h.symm
      · cases hk : t.k i <;> rw [hk] at h hal <;> first | cases h | cases hal
    refine ⟨(i, i) :: vl, ?_, fun g x => by simp [Prod.ext_iff, or_comm]⟩
    intro g x
    rw [List.mem_cons, hvl g x]
    by_cases hgi : g = i
    · subst hgi
      constructor
      · rintro (h | h)
        · cases h
          refine ⟨hials, Sadd_same, hmask, hwsi, Sadd_same, fun y hy hSy => ?_⟩
          by_cases hyi : y = g
          · omega
          · rw [Sadd_ne hyi, hnoS y hy hyi] at hSy; cases hSy
        · rw [hS] at h; cases h.2.1
      · rintro ⟨_, _, _, q4, q5, _⟩
        left
        by_cases hxi : x = g
        · rw [hxi]
        · rw [Sadd_ne hxi, hnoS x q4 hxi] at q5; cases q5
    · have hx : ∀ {y}, g ∈ t.als → y ∈ t.ws g → Sadd S i y = S y := fun {y} hg hy => Sadd_ne fun e => by subst e; exact hgws hg hgi hy
      have hne : (g, x) ≠ (i, i) := fun e => hgi (Prod.ext_iff.1 e).1
      rw [Sadd_ne hgi]
      simp only [hne, false_or]
      constructor
      · rintro ⟨q1, q2, q3, q4, q5, q6⟩
        exact ⟨q1, q2, q3, q4, by rw [hx q1 q4]; exact q5, fun y hy hSy => q6 y hy (by rw [← hx q1 hy]; exact hSy)⟩
      · rintro ⟨q1, q2, q3, q4, q5, q6⟩
        exact ⟨q1, q2, q3, q4, by rw [← hx q1 q4]; exact q5, fun y hy hSy => q6 y hy (by rw [hx q1 hy]; exact hSy)⟩

/-- One operation of the region, at any time when it may come up. -/
theorem inv_step (hX : COk P X) (hE : RecOk P m E) (hok : SOk t ops) (hF : OpFact X E ro N ops n0 t T0 recs stg (fun k => k ≤ t.effs.length ∧ t.win i k = true) i o) (hups : ∀ k s D, stg.get k = some (s, D) → s.up ≤ bigU)
    (hd0 : ∀ id l, r0 id = some l → id ≠ s0.nx ∧ id < s0.up) (hn0 : n0 = s0.up) (hT0 : ∀ tmp v, T0.get tmp = some v → tmp < N) (hro : RO r0 ro ob) (I : Inv P N n0 t T0 recs stg r0 s0 w0 S k r a w) (hS : S i = false) (ho : ops[i]? = some o)
    (hready : ∀ e ∈ o.after.toList, Region.binds .any e = true → S e.on = true) :
    (Region.wanted o (yielded ops a.tmps) = true → ∀ (next : Act → World → Prop) (Q : Exit → Act → World → Prop), (∀ k' r' a' w', Inv P N n0 t T0 recs stg r0 s0 w0 (Sadd S i) k' r' a' w' → next a' w') → o.wpIn (fe ob) 0 P a w next Q) ∧
    (Region.wanted o (yielded ops a.tmps) = false → ∃ k', Inv P N n0 t T0 recs stg r0 s0 w0 (Sadd S i) k' r (a.put o.dst undef) w) := by
  have hi : i < t.n := by rw [hok.n]; exact (Array.getElem?_eq_some_iff.1 ho).1
  have hanc := ready_anc hok I.closed ho hready
  obtain ⟨rec, hrec, hTs, b, hw, hfalse, htrue⟩ := hF
  have hT : TR r rec.T N a.tmps := I.reads hok hT0 hS ho hanc hTs
  obtain ⟨s, D, vl, hs, hD, hvl, hR, hSt, hh, hnx, hup⟩ := I.st
  have hlt : s.nx < s.up := hR.lt
  have hdom : ∀ id l, r id = some l → id ≠ s.nx ∧ id < s.up := fun id l hl => (hR.dom id l hl).1
  have hsn : ∀ id x, s.h.get id = some x → id ≠ s.nx ∧ id < s.up := fun id x hx => by
    obtain ⟨y, hy⟩ := addV_some (n0 := n0) (recs := recs) (l := vl) hx
    exact hR.nx id y hy
  have hsees : ∀ id x, (dSee n0 recs (t.vis (t.a i) k) s).h.get id = some x → (dSee n0 recs vl s).h.get id = some x := fun id x hx => I.sees hanc hvl hh hx
  have hals : ∀ {g}, g ∈ t.als → g < t.n := fun hg => (Sta.mem_als.1 hg).1
  have hwin : k ≤ t.effs.length ∧ t.win i k = true := by
    refine ⟨I.kle, ?_⟩
    simp only [Sta.win, Bool.and_eq_true, List.all_eq_true, Bool.not_eq_true']
    refine ⟨fun e he => ?_, fun e he => ?_⟩
    · cases hb : (t.a e).testBit i with
      | false => rfl
      | true =>
        have := (I.closed e (I.effs_of_mask he).1).2 i hb
        rw [hS] at this; cases this
    · cases hb : (t.a i).testBit e with
      | false => rfl
      | true =>
        obtain ⟨q, hq, hqe⟩ := List.mem_iff_getElem.1 he
        simp only [List.length_drop] at hq
        rw [List.getElem_drop] at hqe
        have h2 : t.effs[k + q]? = some e := by rw [← hqe, List.getElem?_eq_getElem]
        have := (I.eff _ e h2).1 (hanc e hb)
        omega
  -- an effect comes at its stage
  have hq : (t.k i).isEff = true → t.q i = k := by
    intro he
    have h1 := Sta.effs_q hi he
    have h2 : ¬ t.q i < k := fun hlt => by rw [(I.eff _ _ h1).2 hlt] at hS; cases hS
    refine Nat.le_antisymm ?_ (Nat.le_of_not_lt h2)
    by_cases hz : t.q i = 0
    · omega
    · have hl : t.q i - 1 < t.effs.length := by have := Sta.q_le i (Nat.le_of_lt hi); omega
      have h3 : t.effs[t.q i - 1]? = some t.effs[t.q i - 1] := List.getElem?_eq_getElem hl
      have h4 : t.effs[t.q i - 1] < i := by
        obtain ⟨hx, hy⟩ := List.getElem?_eq_some_iff.1 h1
        have := List.pairwise_iff_getElem.1 (Sta.effs_sorted (t := t)) (t.q i - 1) (t.q i) hl hx (by omega)
        omega
      have h5 := hok.effc (List.mem_of_getElem? h3) (List.mem_of_getElem? h1) h4
      have := (I.eff _ _ h3).1 (hanc _ h5)
      omega
  have hrun : ∀ {n v' w'} {next : Act → World → Prop} {Q : Exit → Act → World → Prop} {c : CRes} {s1 : CS}, cop X rec.T s1 o = some c → (∀ f args cap, c ≠ .dfr f args cap) → (execOp a.eval o).run P w = .ok n w' → (n = .value v' ∨ n = .skip ∧ v' = undef) → next (a.put o.dst v') w' → o.wpIn (fe ob) 0 P a w next Q := by
    intro n v' w' next Q c s1 hc hnd hrun hn hnext
    refine ⟨fun f _ => fe_fn ob f, ?_⟩
    rw [fe_round, Oper.semAt_eq ob a.eval o (fun c' hc' => by obtain ⟨f, ar, ca, he⟩ := cop_defer hc' hc; exact hnd f ar ca he), hrun]
    rcases hn with rfl | ⟨rfl, rfl⟩
    · rw [Oper.uponIn_value]; exact hnext
    · rw [Oper.uponIn_skip]; exact hnext
  have hputd : ∀ {v'}, ({ a with defers := a.defers } : Act).put o.dst v' = a.put o.dst v' := rfl
  have hG0 : ∀ {vl' : List (Nat × Nat)}, (∀ g x, (g, x) ∈ vl' → (g, x) ∈ vl ∨ lwOf recs x = none) → (∀ g x, (g, x) ∈ vl → (g, x) ∈ vl' ∨ lwOf recs x = none) → ∀ id x, (dSee n0 recs vl' s).h.get id = some x → (dSee n0 recs vl s).h.get id = some x := by
    intro vl' hv1 hv2 id x hx
    rcases addV_get (h := s.h) hx with ⟨g, y, h1, rfl, h3⟩ | ⟨h1, h2⟩
    · rcases hv1 g y h1 with h | h
      · exact addV_mem hvl.fn h h3
      · rw [h3] at h; cases h
    · show (addV n0 recs vl s.h).get id = some x
      rw [addV_else, h1]
      intro g y hm hid
      rcases hv2 g y hm with h | h
      · exact h2 g y h hid
      · exact h
  cases b with
  | false =>
    refine ⟨fun hc => absurd ((wantedT_ok hT hw).symm.trans hc) (by simp), fun _ => ?_⟩
    obtain ⟨hv0, hlw, hni, heff⟩ := hfalse rfl
    have hlwi : lwOf recs i = none := by simp [lwOf, hrec, hlw]
    by_cases he : (t.k i).isEff = true
    · have hke : t.k i = .eff := by cases hk : t.k i <;> rw [hk] at he <;> first | rfl | cases he
      obtain ⟨s', D', h1, h2⟩ := heff hke
      rw [hq he, hs] at h1
      simp only [Option.some.injEq, Prod.mk.injEq] at h1
      obtain ⟨rfl, rfl⟩ := h1
      rw [hq he] at h2
      refine ⟨k + 1, Inv.put hok I hS ho hanc hrec (by rw [if_pos he]) (fun _ _ h => h) (by rw [hv0]; exact undef_vr) ?_ fun j hj hSj => I.un j hj (by
        by_cases hji : j = i
        · subst hji; rw [Sadd_same] at hSj; cases hSj
        · rwa [Sadd_ne hji] at hSj)⟩
      have hmem : ∀ g, (t.mask (k + 1)).testBit g = false → (t.mask k).testBit g = false ∧ (t.a i).testBit g = false := by
        intro g hg
        refine ⟨mask_mono hg, ?_⟩
        cases hb : (t.a i).testBit g with
        | false => rfl
        | true =>
          have : (t.mask (k + 1)).testBit g = true := Sta.mem_mask.2 ⟨i, by
            have h1 := Sta.effs_q hi he
            rw [hq he] at h1
            rw [List.take_add_one, h1]; simp, .inr hb⟩
          rw [this] at hg; cases hg
      have hsub2 : ∀ id x, (dSee n0 recs (vl.filter fun p => !(t.mask (k + 1)).testBit p.1) (dSee n0 recs (t.vis (t.a i) k) s)).h.get id = some x → (dSee n0 recs vl s).h.get id = some x := by
        intro id x hx
        rcases addV_get (h := (dSee n0 recs (t.vis (t.a i) k) s).h) hx with ⟨g, y, h1, rfl, h3⟩ | ⟨h1, _⟩
        · exact addV_mem hvl.fn (List.mem_filter.1 h1).1 h3
        · exact hsees _ _ h1
      refine ⟨_, _, vl.filter fun p => !(t.mask (k + 1)).testBit p.1, h2, hD, ?_, R.sub hR hsub2 hdom (fun id x hx => hR.nx id x (hsub2 _ _ hx)) hlt, hSt.lower hsub2 rfl rfl, ?_, hnx, hup⟩
      · have hsame := hvl.same (i := i) (fun g => .inr (by rw [hke]; rfl)) (notin_ws (by rw [hke]; rfl) hni)
        intro g x
        rw [List.mem_filter, hsame g x]
        constructor
        · rintro ⟨⟨q1, q2, q3, q4⟩, q5⟩
          exact ⟨q1, q2, by simpa using q5, q4⟩
        · rintro ⟨q1, q2, q3, q4⟩
          exact ⟨⟨q1, q2, mask_mono q3, q4⟩, by simpa using q3⟩
      · intro g hg hm
        obtain ⟨m1, m2⟩ := hmem g hm
        show (addV n0 recs (t.vis (t.a i) k) s.h).get (n0 + g) = none
        rw [addV_else, hh g hg m1]
        intro g' x hx hid
        have hgg : g' = g := by omega
        subst hgg
        obtain ⟨q1, q2, q3, rfl⟩ := Sta.mem_vis.1 hx
        rw [q2 g' (Sta.mem_ws.2 ⟨hg, .inl rfl⟩)] at m2; cases m2
    · have hne : (t.k i).isEff = false := by simpa using he
      refine ⟨k, Inv.put hok I hS ho hanc hrec (by rw [if_neg he]) (fun _ _ h => h) (by rw [hv0]; exact undef_vr) ?_ fun j hj hSj => I.un j hj (by
        by_cases hji : j = i
        · subst hji; rw [Sadd_same] at hSj; cases hSj
        · rwa [Sadd_ne hji] at hSj)⟩
      obtain ⟨vl', h1, h2⟩ := vl_next hok I hS hi hvl hni hne
      have hsub2 : ∀ id x, (dSee n0 recs vl' s).h.get id = some x → (dSee n0 recs vl s).h.get id = some x := hG0 (fun g x hm => by
        rcases (h2 g x).1 hm with h | ⟨_, rfl, rfl⟩
        · exact .inl h
        · exact .inr hlwi) (fun g x hm => .inl ((h2 g x).2 (.inl hm)))
      exact ⟨s, D, vl', hs, hD, h1, R.sub hR hsub2 hdom (fun id x hx => hR.nx id x (hsub2 _ _ hx)) hlt, hSt.lower hsub2 rfl rfl, hh, hnx, hup⟩
  | true =>
    refine ⟨fun _ next Q hnext => ?_, fun hc => absurd ((wantedT_ok hT hw).symm.trans hc) (by simp)⟩
    have hK := htrue rfl
    cases hk : t.k i with
    | pure =>
      rw [hk] at hK
      obtain ⟨hlw, hK⟩ := hK
      have hne : (t.k i).isEff = false := by rw [hk]; rfl
      have hR1 : R P r ⟨.nil, bigU, bigU + 1⟩ w := R.sub hR (fun id x hx => by rw [PM.get_nil'] at hx; cases hx) (fun id l hl => by have := hdom id l hl; exact ⟨Nat.ne_of_lt (by omega : id < bigU), by show id < bigU + 1; omega⟩) (fun id x hx => by rw [PM.get_nil'] at hx; cases hx) (by simp)
      have fin : ∀ {h : PM CObj} {r' : Ren} {v' : Value} {w' : World}, VR r' rec.v v' → R P r' ⟨h, bigU, bigU + 1⟩ w' → Step r ⟨.nil, bigU, bigU + 1⟩ w r' ⟨h, bigU, bigU + 1⟩ w' → next (a.put o.dst v') w' := by
        intro h r' v' w' q3 q4 q5
        have hnew : ∀ id l, r' id = some l → r id = some l := fun id l hl => by
          rcases q5.new id l hl with h | ⟨h1, h2, _⟩
          · exact h
          · have h3 := (q4.dom id l hl).1
            rcases h1 with h1 | h1
            · exact absurd h1 h3.1
            · exact absurd h2 (Nat.not_lt.2 h1)
        obtain ⟨vl', g1, g2⟩ := vl_next hok I hS hi hvl (by simp [hk]) hne
        refine hnext k r' _ w' (Inv.put hok I hS ho hanc hrec (by rw [hne]; rfl) q5.mono q3 ?_ fun j hj hSj => ?_)
        · refine HInv.step hd0 hn0 hR hSt (s1 := ⟨.nil, bigU, bigU + 1⟩) (fun id x hx => by rw [PM.get_nil'] at hx; cases hx) (fun id l hl => by have := hdom id l hl; exact ⟨Nat.ne_of_lt (by omega : id < bigU), by show id < bigU + 1; omega⟩) q4 q5 ?_ hs (hD.mono q5.mono) g1 ?_ hh hnx hup hlt (fun id l hl => hdom id l (hnew id l hl)) hsn
          · intro id hid
            refine ⟨?_, by simp only at hid; omega⟩
            cases hx : (dSee n0 recs vl s).h.get id with
            | none => rfl
            | some x => have := hR.nx id x hx; simp only [dSee] at hid this; omega
          · intro id x hx
            refine .inr ⟨hG0 (fun g y hm => ?_) (fun g y hm => .inl ((g2 g y).2 (.inl hm))) id x hx, PM.get_nil' _⟩
            rcases (g2 g y).1 hm with h | ⟨h, _⟩
            · exact .inl h
            · rw [hk] at h; cases h
        · by_cases hji : j = i
          · subst hji; rw [Sadd_same] at hSj; cases hSj
          · rw [Sadd_ne hji] at hSj
            have := I.un j hj hSj
            cases hx : r' (n0 + j) with
            | none => rfl
            | some l => rw [hnew _ _ hx] at this; cases this
      rcases hK with ⟨h, hc⟩ | hc
      · obtain ⟨n, v', r', w', q1, q2, q3, q4, q5⟩ := cop_ok hX hR1 hT hc
        exact hrun hc (by simp) q1 q2 (fin q3 q4 q5)
      · obtain ⟨f, args', q1, q2⟩ := cop_ok hX hR1 hT hc
        refine ⟨fun f _ => fe_fn ob f, ?_⟩
        rw [fe_round, Oper.semAt_eq ob a.eval o (fun c' hc' => by obtain ⟨f, ar, ca, he⟩ := cop_defer hc' hc; cases he), q1, Oper.uponIn_enter]
        refine ⟨fe_depth ob 0, fe_calls (CallsIn.imp q2 ?_)⟩
        rintro e w' ⟨v', r', rfl, h3, h4, h5⟩
        exact fin h3 h4 h5
    | read =>
      rw [hk] at hK
      obtain ⟨hlw, hK⟩ := hK
      obtain ⟨s', D', s1', h1, hc⟩ := hK k hwin
      rw [hs] at h1
      simp only [Option.some.injEq, Prod.mk.injEq] at h1
      obtain ⟨rfl, rfl⟩ := h1
      have hne : (t.k i).isEff = false := by rw [hk]; rfl
      have hrd := hok.rd ho
      rw [hk] at hrd
      obtain ⟨v0, hv0⟩ := rdOp_pure hrd hc
      simp only [CRes.val.injEq] at hv0
      obtain ⟨_, rfl⟩ := hv0
      have hR1 : R P r (dSee n0 recs (t.vis (t.a i) k) s) w := R.sub hR hsees hdom (fun id x hx => hR.nx id x (hsees _ _ hx)) hlt
      obtain ⟨n, v', r', w', q1, q2, q3, q4, q5⟩ := cop_ok hX hR1 hT hc
      have hnew : ∀ id l, r' id = some l → r id = some l := fun id l hl => by
        rcases q5.new id l hl with h | ⟨h1, h2, _⟩
        · exact h
        · have h3 := (q4.dom id l hl).1
          rcases h1 with h1 | h1
          · exact absurd h1 h3.1
          · exact absurd h2 (Nat.not_lt.2 h1)
      obtain ⟨vl', g1, g2⟩ := vl_next hok I hS hi hvl (by simp [hk]) hne
      refine hrun hc (by simp) q1 q2 (hnext k r' _ w' (Inv.put hok I hS ho hanc hrec (by rw [hne]; rfl) q5.mono q3 ?_ fun j hj hSj => ?_))
      · refine HInv.step hd0 hn0 hR hSt (s1 := dSee n0 recs (t.vis (t.a i) k) s) hsees hdom q4 q5 ?_ hs (hD.mono q5.mono) g1 ?_ hh hnx hup hlt (fun id l hl => hdom id l (hnew id l hl)) hsn
        · intro id hid
          refine ⟨?_, by simp only [dSee] at hid; omega⟩
          cases hx : (dSee n0 recs vl s).h.get id with
          | none => rfl
          | some x => have := hR.nx id x hx; simp only [dSee] at hid this; omega
        · intro id x hx
          have hx' := hG0 (fun g y hm => by
            rcases (g2 g y).1 hm with h | ⟨h, _⟩
            · exact .inl h
            · rw [hk] at h; cases h) (fun g y hm => .inl ((g2 g y).2 (.inl hm))) id x hx
          cases hy : (dSee n0 recs (t.vis (t.a i) k) s).h.get id with
          | none => exact .inr ⟨hx', rfl⟩
          | some y =>
            have := hsees _ _ hy
            rw [hx'] at this
            exact .inl this.symm
      · by_cases hji : j = i
        · subst hji; rw [Sadd_same] at hSj; cases hSj
        · rw [Sadd_ne hji] at hSj
          have := I.un j hj hSj
          cases hx : r' (n0 + j) with
          | none => rfl
          | some l => rw [hnew _ _ hx] at this; cases this
    | al =>
      rw [hk] at hK
      obtain ⟨h, obj, hc, hob, hlw⟩ := hK
      have hlwi : lwOf recs i = some obj := by simp [lwOf, hrec, hlw]
      have hne : (t.k i).isEff = false := by rw [hk]; rfl
      have hmaski : (t.mask k).testBit i = false := by
        cases hb : (t.mask k).testBit i with
        | false => rfl
        | true => rw [I.mask_done hb] at hS; cases hS
      have hd1 : ∀ id l, r id = some l → id ≠ n0 + i ∧ id < bigU := fun id l hl => by
        have := hdom id l hl
        refine ⟨fun e => ?_, by omega⟩
        subst e
        rw [I.un i hi hS] at hl; cases hl
      have hR1 : R P r ⟨.nil, n0 + i, bigU⟩ w := R.sub hR (fun id x hx => by rw [PM.get_nil'] at hx; cases hx) hd1 (fun id x hx => by rw [PM.get_nil'] at hx; cases hx) (by show n0 + i < bigU; omega)
      obtain ⟨n, v', r', w', q1, q2, q3, q4, q5⟩ := cop_ok hX hR1 hT hc
      have hnew : ∀ id l, r' id = some l → r id = some l ∨ id = n0 + i := fun id l hl => by
        rcases q5.new id l hl with h | ⟨h1, h2, _⟩
        · exact .inl h
        · have h3 := (q4.dom id l hl).1
          rcases h1 with h1 | h1
          · exact .inr h1
          · have h4 : id < bigU + 1 := h2
            have h5 : bigU ≤ id := h1
            have h6 : id ≠ bigU := h3.1
            omega
      obtain ⟨vl', g1, g2⟩ := vl_next hok I hS hi hvl (by simp [hk]) hne
      refine hrun hc (by simp) q1 q2 (hnext k r' _ w' (Inv.put hok I hS ho hanc hrec (by rw [hne]; rfl) q5.mono q3 ?_ fun j hj hSj => ?_))
      · refine HInv.step hd0 hn0 hR hSt (s1 := ⟨.nil, n0 + i, bigU⟩) (fun id x hx => by rw [PM.get_nil'] at hx; cases hx) hd1 q4 q5 ?_ hs (hD.mono q5.mono) g1 ?_ hh hnx hup hlt (fun id l hl => ?_) hsn
        · intro id hid
          refine ⟨?_, ?_⟩
          · rcases hid with hid | hid
            · have hid : id = n0 + i := hid
              subst hid
              cases hx : (dSee n0 recs vl s).h.get (n0 + i) with
              | none => rfl
              | some x =>
                rcases addV_get (h := s.h) hx with ⟨g, y, p1, p2, p3⟩ | ⟨p1, _⟩
                · have : g = i := by omega
                  subst this
                  rw [((hvl _ _).1 p1).2.1] at hS; cases hS
                · rw [hh i hi hmaski] at p1; cases p1
            · cases hx : (dSee n0 recs vl s).h.get id with
              | none => rfl
              | some x =>
                have := (hR.nx id x hx).2
                have h5 : bigU ≤ id := hid
                have h6 : id < s.up := this
                omega
          · rcases hid with hid | hid
            · have hid : id = n0 + i := hid
              omega
            · have h5 : bigU ≤ id := hid
              omega
        · intro id x hx
          rcases addV_get (h := s.h) hx with ⟨g, y, p1, rfl, p3⟩ | ⟨p1, p2⟩
          · rcases (g2 g y).1 p1 with p4 | ⟨_, rfl, rfl⟩
            · exact .inr ⟨addV_mem hvl.fn p4 p3, PM.get_nil' _⟩
            · rw [hlwi] at p3
              simp only [Option.some.injEq] at p3
              exact .inl (p3 ▸ hob)
          · refine .inr ⟨?_, PM.get_nil' _⟩
            show (addV n0 recs vl s.h).get id = some x
            rw [addV_else, p1]
            intro g y hm hid
            exact p2 g y ((g2 g y).2 (.inl hm)) hid
        · rcases hnew id l hl with h1 | h1
          · exact hdom id l h1
          · omega
      · by_cases hji : j = i
        · subst hji; rw [Sadd_same] at hSj; cases hSj
        · rw [Sadd_ne hji] at hSj
          have := I.un j hj hSj
          cases hx : r' (n0 + j) with
          | none => rfl
          | some l =>
            rcases hnew _ _ hx with h1 | h1
            · rw [h1] at this; cases this
            · omega
    | ins g pre =>
      rw [hk] at hK
      obtain ⟨pob, h, obj, hpre, hc, hob, hlw⟩ := hK
      have hlwi : lwOf recs i = some obj := by simp [lwOf, hrec, hlw]
      have hne : (t.k i).isEff = false := by rw [hk]; rfl
      obtain ⟨k1, k2, k3, k4, k5⟩ := hok.ins hi hk
      have hgn : g < t.n := by omega
      have hgals : g ∈ t.als := Sta.mem_als.2 ⟨hgn, k1⟩
      have hgws : g ∈ t.ws g := Sta.mem_ws.2 ⟨hgn, .inl rfl⟩
      have hiws : i ∈ t.ws g := Sta.mem_ws.2 ⟨hi, .inr (by rw [hk]; simp [Kd.isIns])⟩
      have hSpre : S pre = true := hanc pre k3
      have hpi : pre < i := hok.lt hi k3
      have hmax : ∀ y ∈ t.ws g, S y = true → y ≤ pre := by
        intro y hy hSy
        rcases k5 y hy with h1 | h1 | h1
        · subst h1; rw [hS] at hSy; cases hSy
        · exact h1
        · rw [(I.closed y hSy).2 i h1] at hS; cases hS
      have hSg : S g = true := by
        by_cases hgp : g = pre
        · rw [hgp]; exact hSpre
        · rcases Nat.lt_or_gt_of_ne hgp with h1 | h1
          · exact (I.closed pre hSpre).2 g (hok.chain hgals hgws k4 h1)
          · rcases (Sta.mem_ws.1 k4).2 with h2 | h2
            · omega
            · cases hkp : t.k pre with
              | ins g' p' =>
                rw [hkp] at h2
                have hgg : g' = g := by simpa [Kd.isIns] using h2
                have := (hok.ins (Sta.mem_ws.1 k4).1 hkp).2.1
                omega
              | _ => rw [hkp] at h2; cases h2
      have hmask : (t.mask k).testBit g = false := by
        cases hb : (t.mask k).testBit g with
        | false => rfl
        | true =>
          obtain ⟨e, h1, h2⟩ := Sta.mem_mask.1 hb
          obtain ⟨h3, h4⟩ := I.effs_of_mask h1
          rcases h2 with rfl | h2
          · have := (Sta.mem_effs.1 h4).2
            exact (Kd.eff_al this k1).elim
          · have := (I.closed e h3).2 i (hok.effo h4 hgals h2 i hiws)
            rw [hS] at this; cases this
      have hgvl : (g, pre) ∈ vl := (hvl g pre).2 ⟨hgals, hSg, hmask, k4, hSpre, hmax⟩
      have hsub1 : ∀ id x, (PM.nil.set (n0 + g) pob).get id = some x → (dSee n0 recs vl s).h.get id = some x := fun id x hx => by
        rw [PM.get_set] at hx
        split at hx
        · rename_i hid
          subst hid
          rw [← hx]
          exact addV_mem hvl.fn hgvl hpre
        · rw [PM.get_nil'] at hx; cases hx
      have hd1 : ∀ id l, r id = some l → id ≠ bigU ∧ id < bigU + 1 := fun id l hl => by have := hdom id l hl; exact ⟨Nat.ne_of_lt (by omega : id < bigU), by omega⟩
      have hR1 : R P r ⟨PM.nil.set (n0 + g) pob, bigU, bigU + 1⟩ w := R.sub hR hsub1 hd1 (fun id x hx => by
        have h6 := hR.nx id x (hsub1 id x hx)
        have h7 : id < s.up := h6.2
        exact ⟨Nat.ne_of_lt (by omega : id < bigU), by show id < bigU + 1; omega⟩) (by simp)
      obtain ⟨n, v', r', w', q1, q2, q3, q4, q5⟩ := cop_ok hX hR1 hT hc
      have hnew : ∀ id l, r' id = some l → r id = some l := fun id l hl => by
        rcases q5.new id l hl with h | ⟨h1, h2, _⟩
        · exact h
        · have h3 := (q4.dom id l hl).1
          rcases h1 with h1 | h1
          · exact absurd h1 h3.1
          · exact absurd h2 (Nat.not_lt.2 h1)
      have hignot : ∀ {g'}, g' ∈ t.als → g' ≠ g → i ∉ t.ws g' := by
        intro g' hg' hne' hm
        rcases (Sta.mem_ws.1 hm).2 with h1 | h1
        · subst h1
          have := (Sta.mem_als.1 hg').2
          rw [hk] at this; cases this
        · rw [hk] at h1
          have h2 : g = g' := by simpa [Kd.isIns] using h1
          exact hne' h2.symm
      have hmapm : ∀ g' x', (g', x') ∈ vl.map (fun p => if p.1 = g then (g, i) else p) ↔ (g' = g ∧ x' = i) ∨ (g' ≠ g ∧ (g', x') ∈ vl) := by
        intro g' x'
        rw [List.mem_map]
        constructor
        · rintro ⟨⟨a1, b1⟩, h1, h2⟩
          split at h2
          · simp only [Prod.mk.injEq] at h2; exact .inl ⟨h2.1.symm, h2.2.symm⟩
          · rename_i hne1
            simp only [Prod.mk.injEq] at h2
            obtain ⟨rfl, rfl⟩ := h2
            exact .inr ⟨hne1, h1⟩
        · rintro (⟨rfl, rfl⟩ | ⟨h1, h2⟩)
          · exact ⟨_, hgvl, by simp⟩
          · exact ⟨_, h2, by simp [h1]⟩
      have hvl' : VLF t (Sadd S i) k (vl.map (fun p => if p.1 = g then (g, i) else p)) := by
        intro g' x'
        rw [hmapm]
        by_cases hgg : g' = g
        · subst hgg
          constructor
          · rintro (⟨_, rfl⟩ | ⟨h1, _⟩)
            · refine ⟨hgals, by rw [Sadd_ne (by omega)]; exact hSg, hmask, hiws, Sadd_same, fun y hy hSy => ?_⟩
              by_cases hyi : y = x'
              · omega
              · rw [Sadd_ne hyi] at hSy; have := hmax y hy hSy; omega
            · exact absurd rfl h1
          · rintro ⟨_, _, _, p4, p5, p6⟩
            refine .inl ⟨rfl, ?_⟩
            have h1 := p6 i hiws Sadd_same
            by_cases hxi : x' = i
            · exact hxi
            · rw [Sadd_ne hxi] at p5; have := hmax x' p4 p5; omega
        · rw [hvl g' x']
          have hx : ∀ {y}, g' ∈ t.als → y ∈ t.ws g' → Sadd S i y = S y := fun {y} hg hy => Sadd_ne fun e => by subst e; exact hignot hg hgg hy
          have hself : g' ∈ t.als → g' ∈ t.ws g' := fun hg => Sta.mem_ws.2 ⟨hals hg, .inl rfl⟩
          constructor
          · rintro (⟨h1, _⟩ | ⟨_, p1, p2, p3, p4, p5, p6⟩)
            · exact absurd h1 hgg
            · exact ⟨p1, by rw [hx p1 (hself p1)]; exact p2, p3, p4, by rw [hx p1 p4]; exact p5, fun y hy hSy => p6 y hy (by rw [← hx p1 hy]; exact hSy)⟩
          · rintro ⟨p1, p2, p3, p4, p5, p6⟩
            exact .inr ⟨hgg, p1, by rw [← hx p1 (hself p1)]; exact p2, p3, p4, by rw [← hx p1 p4]; exact p5, fun y hy hSy => p6 y hy (by rw [hx p1 hy]; exact hSy)⟩
      refine hrun hc (by simp) q1 q2 (hnext k r' _ w' (Inv.put hok I hS ho hanc hrec (by rw [hne]; rfl) q5.mono q3 ?_ fun j hj hSj => ?_))
      · refine HInv.step hd0 hn0 hR hSt (s1 := ⟨PM.nil.set (n0 + g) pob, bigU, bigU + 1⟩) hsub1 hd1 q4 q5 ?_ hs (hD.mono q5.mono) hvl' ?_ hh hnx hup hlt (fun id l hl => hdom id l (hnew id l hl)) hsn
        · intro id hid
          have h5 : bigU ≤ id := by
            rcases hid with hid | hid
            · have hid : id = bigU := hid; omega
            · have hid : bigU + 1 ≤ id := hid; omega
          refine ⟨?_, by omega⟩
          cases hx : (dSee n0 recs vl s).h.get id with
          | none => rfl
          | some x =>
            have h6 : id < s.up := (hR.nx id x hx).2
            omega
        · intro id x hx
          rcases addV_get (h := s.h) hx with ⟨g', y, p1, rfl, p3⟩ | ⟨p1, p2⟩
          · rcases (hmapm g' y).1 p1 with ⟨rfl, rfl⟩ | ⟨p4, p5⟩
            · rw [hlwi] at p3
              simp only [Option.some.injEq] at p3
              exact .inl (p3 ▸ hob)
            · refine .inr ⟨addV_mem hvl.fn p5 p3, ?_⟩
              show (PM.nil.set (n0 + g) pob).get (n0 + g') = none
              rw [PM.get_set, if_neg (by omega), PM.get_nil']
          · have hidg : id ≠ n0 + g := fun e => by
              have := p2 g i ((hmapm g i).2 (.inl ⟨rfl, rfl⟩)) e
              rw [hlwi] at this; cases this
            refine .inr ⟨?_, ?_⟩
            · show (addV n0 recs vl s.h).get id = some x
              rw [addV_else, p1]
              intro g' y hm hid
              exact p2 g' y ((hmapm g' y).2 (.inr ⟨fun e => hidg (e ▸ hid), hm⟩)) hid
            · show (PM.nil.set (n0 + g) pob).get id = none
              rw [PM.get_set, if_neg hidg, PM.get_nil']
      · by_cases hji : j = i
        · subst hji; rw [Sadd_same] at hSj; cases hSj
        · rw [Sadd_ne hji] at hSj
          have := I.un j hj hSj
          cases hx : r' (n0 + j) with
          | none => rfl
          | some l => rw [hnew _ _ hx] at this; cases this
    | eff =>
      rw [hk] at hK
      obtain ⟨hlw, sa, Da, s', D', e1, e2, hO⟩ := hK
      have he : (t.k i).isEff = true := by rw [hk]; rfl
      rw [hq he, hs] at e1
      simp only [Option.some.injEq, Prod.mk.injEq] at e1
      obtain ⟨rfl, rfl⟩ := e1
      rw [hq he] at e2 hO
      have hR1 : R P r (dSee n0 recs (t.vis (t.a i) k) s) w := R.sub hR hsees hdom (fun id x hx => hR.nx id x (hsees _ _ hx)) hlt
      refine stepO_ok hX hE hO (hro.mono hSt.mono) hR1 hT hD ?_
      intro v' ds' r' w' q3 q4 hD' q5
      have hnx2 := q5.nx
      have hlt' := q4.lt
      have hnxs : n0 + t.n ≤ s'.nx := by
        have h1 : (s'.nx = s.nx ∨ s.up ≤ s'.nx) := hnx2.1
        omega
      have hin : i ∈ t.effs.take (k + 1) := by
        have h1 := Sta.effs_q hi he
        rw [hq he] at h1
        rw [List.take_add_one, h1]; simp
      have hmem : ∀ g, (t.mask (k + 1)).testBit g = false → (t.mask k).testBit g = false ∧ (t.a i).testBit g = false := by
        intro g hg
        refine ⟨mask_mono hg, ?_⟩
        cases hb : (t.a i).testBit g with
        | false => rfl
        | true =>
          have : (t.mask (k + 1)).testBit g = true := Sta.mem_mask.2 ⟨i, hin, .inr hb⟩
          rw [this] at hg; cases hg
      have hs1none : ∀ g, g < t.n → (t.mask (k + 1)).testBit g = false → (dSee n0 recs (t.vis (t.a i) k) s).h.get (n0 + g) = none := by
        intro g hg hm
        obtain ⟨m1, m2⟩ := hmem g hm
        show (addV n0 recs (t.vis (t.a i) k) s.h).get (n0 + g) = none
        rw [addV_else, hh g hg m1]
        intro g' x hx hid
        have hgg : g' = g := by omega
        subst hgg
        obtain ⟨p1, p2, p3, rfl⟩ := Sta.mem_vis.1 hx
        rw [p2 g' (Sta.mem_ws.2 ⟨hg, .inl rfl⟩)] at m2; cases m2
      have hni : ∀ g p, t.k i ≠ .ins g p := by simp [hk]
      have hsame := hvl.same (i := i) (fun g => .inr (by rw [hk]; rfl)) (notin_ws (by rw [hk]; rfl) hni)
      refine hnext (k + 1) r' _ w' (Inv.put hok I hS ho hanc hrec (by rw [he]; rfl) q5.mono q3 ?_ fun j hj hSj => ?_)
      · refine HInv.step (vl' := vl.filter fun p => !(t.mask (k + 1)).testBit p.1) hd0 hn0 hR hSt (s1 := dSee n0 recs (t.vis (t.a i) k) s) hsees hdom q4 q5 ?_ e2 hD' ?_ ?_ ?_ hnxs (hups _ _ _ e2) hlt' (fun id l hl => (q4.dom id l hl).1) (fun id x hx => q4.nx id x hx)
        · intro id hid
          refine ⟨?_, by
            have h1 : id = s.nx ∨ s.up ≤ id := hid
            omega⟩
          cases hx : (dSee n0 recs vl s).h.get id with
          | none => rfl
          | some x =>
            have h1 : id = s.nx ∨ s.up ≤ id := hid
            have h2 : id ≠ s.nx ∧ id < s.up := hR.nx id x hx
            omega
        · intro g x
          rw [List.mem_filter, hsame g x]
          constructor
          · rintro ⟨⟨p1, p2, p3, p4⟩, p5⟩
            exact ⟨p1, p2, by simpa using p5, p4⟩
          · rintro ⟨p1, p2, p3, p4⟩
            exact ⟨⟨p1, p2, mask_mono p3, p4⟩, by simpa using p3⟩
        · intro id x hx
          rcases addV_get (h := s'.h) hx with ⟨g, y, p1, rfl, p3⟩ | ⟨p1, _⟩
          · have p4 := List.mem_filter.1 p1
            have hgn := hals ((hvl g y).1 p4.1).1
            exact .inr ⟨addV_mem hvl.fn p4.1 p3, hs1none g hgn (by simpa using p4.2)⟩
          · exact .inl p1
        · intro g hg hm
          cases hx : s'.h.get (n0 + g) with
          | none => rfl
          | some x =>
            obtain ⟨y, hy, _⟩ := q5.live (n0 + g) x ⟨by show n0 + g ≠ s.nx; omega, by show n0 + g < s.up; omega⟩ hx
            rw [hs1none g hg hm] at hy; cases hy
      · by_cases hji : j = i
        · subst hji; rw [Sadd_same] at hSj; cases hSj
        · rw [Sadd_ne hji] at hSj
          have hun := I.un j hj hSj
          cases hx : r' (n0 + j) with
          | none => rfl
          | some l =>
            rcases q5.new _ _ hx with h1 | ⟨h1, _⟩
            · rw [h1] at hun; cases hun
            · have h1 : n0 + j = s.nx ∨ s.up ≤ n0 + j := h1
              omega
end
end Go.Cl

/- Every order of a drawn region is as good as the plan's: the whole. -/
namespace Go.Cl
noncomputable section
variable {P : Program} {X : Ctx} {E : Rec} {ro ob : Option Nat} {N m : Nat} {ops : Array Oper} {n0 : Nat} {t : Sta} {T0 : PM Value} {recs : PM ORec} {stg : PM (CS × List DItem)} {r0 : Ren} {s0 : CS} {w0 : World}

theorem filter_lt {S : Nat → Bool} {i : Nat} : ∀ {l : List Nat}, i ∈ l → S i = false → (l.filter fun j => !Sadd S i j).length < (l.filter fun j => !S j).length
  | x :: l, hm, hS => by
    have hle : ∀ l : List Nat, (l.filter fun j => !Sadd S i j).length ≤ (l.filter fun j => !S j).length := by
      intro l
      induction l with
      | nil => simp
      | cons y l ih =>
        simp only [List.filter_cons]
        by_cases hy : y = i
        · subst hy
          simp only [Sadd_same, Bool.not_true, Bool.false_eq_true, if_false]
          split
          · simp only [List.length_cons]; omega
          · exact ih
        · rw [Sadd_ne hy]
          split
          · simp only [List.length_cons]; omega
          · exact ih
    simp only [List.filter_cons]
    by_cases hx : x = i
    · subst hx
      simp only [Sadd_same, hS, Bool.not_true, Bool.not_false, Bool.false_eq_true, if_false, if_true, List.length_cons]
      have := hle l
      omega
    · have hm' : i ∈ l := by
        rcases List.mem_cons.1 hm with h | h
        · exact absurd h.symm hx
        · exact h
      have ih := filter_lt hm' hS
      rw [Sadd_ne hx]
      split
      · simp only [List.length_cons]; omega
      · exact ih
  | [], hm, _ => by cases hm

/-- All is done. -/
theorem inv_done {S : Nat → Bool} {k : Nat} {r : Ren} {a : Act} {w : World} (I : Inv P N n0 t T0 recs stg r0 s0 w0 S k r a w) (hT0 : ∀ tmp v, T0.get tmp = some v → tmp < N) (hall : ∀ i, i < t.n → S i = true)
    {g : DSt} (hg : Gen N t T0 t.n g) (hr : g.recs = recs) (hs : g.stg = stg) : CPost P r0 s0 w0 N .normal g.T g.D (dSee n0 recs (t.vis (2 ^ t.n - 1) t.effs.length) g.s) .normal a w := by
  have hk : k = t.effs.length := by
    refine Nat.le_antisymm I.kle (Nat.le_of_not_lt fun hlt => ?_)
    have h1 : t.effs[k]? = some t.effs[k] := List.getElem?_eq_getElem hlt
    have h2 := (I.eff k _ h1).1 (hall _ (Sta.mem_effs.1 (List.mem_of_getElem? h1)).1)
    omega
  subst hk
  obtain ⟨s, D, vl, h1, hD, hvl, hR, hSt, hh, hnx, hup⟩ := I.st
  have h2 := hg.2.1
  rw [Sta.q_n, hs, h1] at h2
  simp only [Option.some.injEq, Prod.mk.injEq] at h2
  obtain ⟨rfl, rfl⟩ := h2
  have hsub : ∀ id x, (dSee n0 recs (t.vis (2 ^ t.n - 1) t.effs.length) g.s).h.get id = some x → (dSee n0 recs vl g.s).h.get id = some x := fun id x hx =>
    I.sees (A := 2 ^ t.n - 1) (fun j hj => hall j (by simpa [Nat.testBit_two_pow_sub_one] using hj)) hvl hh hx
  refine ⟨rfl, r, R.sub hR hsub (fun id l hl => (hR.dom id l hl).1) (fun id x hx => hR.nx id x (hsub _ _ hx)) hR.lt, ⟨I.size, fun tmp v hv => ?_⟩, hD, hSt.lower hsub rfl rfl⟩
  rcases hg.1 tmp v hv with ⟨j, rec, q1, q2, q3, q4, q5, q6⟩ | ⟨q1, q2⟩
  · rw [q5]
    rw [hr] at q4
    exact I.tS j tmp rec (hall j q1) q2 q3 (fun j' p1 p2 => q6 j' p2 (I.closed j' p1).1) q4
  · exact I.tT tmp v q2 fun j hj hd => q1 j (I.closed j hj).1 hd (hT0 _ _ q2)

theorem any_ok (hX : COk P X) (hE : RecOk P m E) (hok : SOk t ops) (hF : ∀ i o, ops[i]? = some o → OpFact X E ro N ops n0 t T0 recs stg (fun k => k ≤ t.effs.length ∧ t.win i k = true) i o) (hups : ∀ k s D, stg.get k = some (s, D) → s.up ≤ bigU)
    (hd0 : ∀ id l, r0 id = some l → id ≠ s0.nx ∧ id < s0.up) (hn0 : n0 = s0.up) (hT0 : ∀ tmp v, T0.get tmp = some v → tmp < N) (hro : RO r0 ro ob) {Q : Exit → Act → World → Prop}
    (hQ : ∀ S k r a w, Inv P N n0 t T0 recs stg r0 s0 w0 S k r a w → (∀ i, i < t.n → S i = true) → Q .normal a w) :
    ∀ (fuel : Nat) (listed : Array Bool) (S : Nat → Bool) (k : Nat) (r : Ren) (a : Act) (w : World), listed.size = t.n → (∀ i, i < t.n → listed[i]? = some (S i)) → ((List.range t.n).filter fun j => !S j).length ≤ fuel → Inv P N n0 t T0 recs stg r0 s0 w0 S k r a w →
      wpAnyIn (fe ob) 0 P .any ops Q fuel listed a w := by
  intro fuel
  have hget : ∀ {listed : Array Bool} {S : Nat → Bool}, (∀ i, i < t.n → listed[i]? = some (S i)) → ∀ {i}, i < t.n → ∀ d, listed.getD i d = S i := by
    intro listed S h i hi d
    rw [Array.getD_eq_getD_getElem?, h i hi]; rfl
  have hnil : ∀ (listed : Array Bool) (S : Nat → Bool), (∀ i, i < t.n → listed[i]? = some (S i)) → Region.ready .any ops listed = [] → ∀ i, i < t.n → S i = true := by
    intro listed S hl hr i
    induction i using Nat.strongRecOn with
    | _ i ih =>
      intro hi
      cases hS : S i with
      | true => rfl
      | false =>
        exfalso
        have ho : ops[i]? = some (ops[i]'(by rw [← hok.n]; exact hi)) := Array.getElem?_eq_getElem _
        have : i ∈ Region.ready .any ops listed := by
          rw [mem_ready]
          refine ⟨by rw [hget hl hi]; exact hS, _, ho, fun e he hb => ?_⟩
          have hlt := hok.edge ho (Array.mem_toList_iff.2 he) hb
          rw [hget hl (by omega)]
          exact ih e.on hlt (by omega)
        rw [hr] at this; cases this
  induction fuel with
  | zero =>
    intro listed S k r a w hsz hl hf I
    have hall : ∀ i, i < t.n → S i = true := by
      intro i hi
      cases hS : S i with
      | true => rfl
      | false =>
        have : i ∈ (List.range t.n).filter fun j => !S j := List.mem_filter.2 ⟨List.mem_range.2 hi, by simp [hS]⟩
        rw [List.length_eq_zero_iff.1 (Nat.le_zero.1 hf)] at this
        cases this
    refine ⟨?_, hQ S k r a w I hall⟩
    rw [List.eq_nil_iff_forall_not_mem]
    intro i hi
    obtain ⟨h1, o, h2, _⟩ := mem_ready.1 hi
    have hin : i < t.n := by rw [hok.n]; exact (Array.getElem?_eq_some_iff.1 h2).1
    rw [hget hl hin, hall i hin] at h1; cases h1
  | succ fuel ih =>
    intro listed S k r a w hsz hl hf I
    refine ⟨fun hr => hQ S k r a w I (hnil listed S hl hr), fun i hi => ?_⟩
    obtain ⟨h1, o, ho, h3⟩ := mem_ready.1 hi
    have hin : i < t.n := by rw [hok.n]; exact (Array.getElem?_eq_some_iff.1 ho).1
    rw [hget hl hin] at h1
    have hready : ∀ e ∈ o.after.toList, Region.binds .any e = true → S e.on = true := by
      intro e he hb
      have := h3 e (Array.mem_toList_iff.1 he) hb
      have hlt := hok.edge ho he hb
      rwa [hget hl (by omega)] at this
    have hnext : ∀ k' r' a' w', Inv P N n0 t T0 recs stg r0 s0 w0 (Sadd S i) k' r' a' w' → wpAnyIn (fe ob) 0 P .any ops Q fuel (listed.setIfInBounds i true) a' w' := by
      intro k' r' a' w' I'
      refine ih _ (Sadd S i) k' r' a' w' (by simpa using hsz) (fun j hj => ?_) ?_ I'
      · rw [Array.getElem?_setIfInBounds]
        by_cases hji : i = j
        · subst hji
          rw [if_pos rfl, if_pos (by omega), Sadd_same]
        · rw [if_neg hji, hl j hj, Sadd_ne (Ne.symm hji)]
      · have := filter_lt (l := List.range t.n) (List.mem_range.2 hin) h1
        omega
    obtain ⟨g1, g2⟩ := inv_step hX hE hok (hF i o ho) hups hd0 hn0 hT0 hro I h1 ho hready
    unfold wpOpIn
    simp only [ho]
    cases hw : Region.wanted o (yielded ops a.tmps) with
    | true => rw [if_pos rfl]; exact g1 hw _ _ hnext
    | false =>
      rw [if_neg (by simp)]
      obtain ⟨k', I'⟩ := g2 hw
      exact ⟨fun f _ => fe_fn ob f, hnext k' r _ w I'⟩

/-- **Drawn regions.** -/
theorem drawR_ok (hX : COk P X) : DrawOk P (drawR X) := by
  intro m E hE ro N ops T D s T' D' s' h id r w ob a hro hR hT hD
  unfold drawR at h
  split at h
  · cases h
  · rename_i pl hpl
    dsimp only at h
    split at h
    · rename_i hup
      split at h
      · rename_i g hg
        split at h
        · rename_i hc
          simp only [Option.some.injEq, Prod.mk.injEq] at h
          obtain ⟨rfl, rfl, rfl⟩ := h
          unfold mkPlan at hpl
          dsimp only at hpl
          split at hpl
          · rename_i hchk
            simp only [Option.some.injEq] at hpl
            subst hpl
            have hok := Sta.ok_spec hchk
            have hn : (mkSta (fun f => (X.pf f).isSome) ops).n = ops.size := rfl
            generalize ht : mkSta (fun f => (X.pf f).isSome) ops = t at *
            simp only at hg hc ⊢
            have hdom0 : ∀ id l, r id = some l → id ≠ s.nx ∧ id < s.up := fun id l hl => (hR.dom id l hl).1
            obtain ⟨hgen, hst0, hF⟩ := facts hok hup hg hc
            have hT0 : ∀ tmp v, T.get tmp = some v → tmp < N := fun tmp v hv => by
              obtain ⟨v', h1, _⟩ := hT.2 tmp v hv
              rw [← hT.1]; exact (Array.getElem?_eq_some_iff.1 h1).1
            refine wpIn_region_any hX.mixed ?_
            have hR0 : R P r s { w with drawn := w.drawn + 1 } := hR.same rfl
            have hS0 : Step r s w r s { w with drawn := w.drawn + 1 } := Step.same rfl ⟨rfl, rfl, rfl⟩
            have hlt := hR.lt
            have hmask0 : ∀ g, (t.mask 0).testBit g = false := fun g => by
              cases hb : (t.mask 0).testBit g with
              | false => rfl
              | true => obtain ⟨e, h1, _⟩ := Sta.mem_mask.1 hb; simp at h1
            have hRs : R P r (dSee s.up g.recs [] ⟨s.h, s.up + ops.size, s.up + ops.size + 1⟩) { w with drawn := w.drawn + 1 } :=
              R.sub hR0 (fun _ _ h => h) (fun id l hl => by have := hdom0 id l hl; simp only [dSee]; omega) (fun id x hx => by have := hR.nx id x hx; simp only [dSee]; omega) (by simp [dSee])
            have hSs : Step r s w r (dSee s.up g.recs [] ⟨s.h, s.up + ops.size, s.up + ops.size + 1⟩) { w with drawn := w.drawn + 1 } :=
              ⟨hS0.mono, ⟨.inr (by simp [dSee]), by simp only [dSee]; omega⟩, hS0.size, hS0.frame, fun id l hl => .inl hl, fun id o _ ho => ⟨o, ho, rfl⟩, rfl, rfl, rfl⟩
            refine any_ok (recs := g.recs) (stg := g.stg) (T0 := T) (N := N) (n0 := s.up) (r0 := r) (s0 := s) (w0 := w) hX hE hok hF hgen.2.2 hdom0 rfl hT0 hro ?_ ops.size (Array.replicate ops.size false) (fun _ => false) 0 r a _ (by simp [hn]) (fun i hi => by
              rw [hn] at hi; simp [hi]) (by simpa [hn] using List.length_filter_le (fun _ => true) (List.range t.n)) ?_
            · intro S k r1 a1 w1 I hall
              exact inv_done I hT0 hall hgen rfl rfl
            · refine ⟨fun i hi => absurd hi (by simp), Nat.zero_le _, fun q e _ => (by simp), hT.1, fun tmp v hv _ => hT.2 tmp v hv, fun i tmp rec hi => absurd hi (by simp), ⟨_, _, [], hst0, hD, ?_, hRs, hSs, fun g hg _ => ?_, by simp only [hn]; omega, hup⟩, fun i hi _ => ?_⟩
              · intro g x; simp
              · cases hx : s.h.get (s.up + g) with
                | none => rfl
                | some x => have := hR.nx _ x hx; omega
              · cases hx : r (s.up + i) with
                | none => rfl
                | some l => have := hdom0 _ l hx; omega
          · cases hpl
        · cases h
      · cases h
    · cases h
end
end Go.Cl

