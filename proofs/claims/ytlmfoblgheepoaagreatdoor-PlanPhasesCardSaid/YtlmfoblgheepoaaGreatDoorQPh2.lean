/- Ph: part 3 of the proof that the law's row holds: the printed walk of the program's functions, the plain law, the row. -/
import Derived.Test.YtlmfoblgheepoaaGreatDoorRows
import Derived.Test.YtlmfoblgheepoaaGreatDoorTie
import Derived.Test.YtlmfoblgheepoaaGreatDoorCards
import Derived.WalkKit
import Derived.ProofKit
import Derived.OpenShut
import Derived.ShutString
import Derived.ChangeOld
import Derived.Below
import Derived.SizedLaws
import Derived.Lay
import Derived.LaidOnce
import Derived.SevenTiedAt
import Derived.LaidByTextLater
import Derived.Lib.LaidTab
import Derived.Lib.LaidU8
import Derived.Stop.Joined
import Derived.Test.YtlmfoblgheepoaaGreatDoorQUq2
import Derived.Test.YtlmfoblgheepoaaGreatDoorQPh1
section
namespace Go.Proofs.YtlmfoblgheepoaaGreatDoor.Row
open Go.ChangeShapes Go.WideShapes Go.ChangeAt Go.RowKit Go.Proofs.GOpen Go.Proofs.YtlmfoblgheepoaaGreatDoor.Pl Go.Proofs.YtlmfoblgheepoaaGreatDoorW.PrintWords
open Go.ChangeMaps (open_string shut_string)
set_option maxRecDepth 100000
theorem own : ownKnob Tryz.prog.godebug = none := by kernel_rfl
theorem laidOut : laidOutB Tryz.prog = true := by kernel_rfl
theorem rngI64 {n : Int} (h : (Lit.int .i64 n).wf = true) : -9223372036854775808 ≤ n ∧ n ≤ 9223372036854775807 := by simpa [Lit.wf, IntKind.min, IntKind.max, IntKind.signed, IntKind.bits] using h
def I64 (n : Int) : Prop := -9223372036854775808 ≤ n ∧ n ≤ 9223372036854775807
theorem gPow : Tryz.prog.globalNamed "internal/strconv.uint64pow10" = some 4 := by kernel_rfl
theorem gPowType : (Tryz.prog.globals[4]?).map (·.type) = some 154 := by kernel_rfl
theorem powData : (Rows.laid_internal_strconv_uint64pow10 : DataW Unit) = Lib.tabData .u64 Lib.pow10Tab := by rfl
theorem glb_of_reads {W : World} (h : Lib.VarReads Tryz.prog W "internal/strconv.uint64pow10" Rows.laid_internal_strconv_uint64pow10) : Glb W := by
  rw [powData] at h
  obtain ⟨g, t, cs, fuel, p, h1, h2, h3, h4⟩ := h
  obtain rfl := Option.some.inj (gPow.symm.trans h1)
  obtain rfl := Option.some.inj (gPowType.symm.trans h2)
  unfold Glb Lib.TabIs
  rw [h3, ← Lib.cells_of_tab Tryz.underlying154 Tryz.underlying123 (by kernel_rfl) (by kernel_rfl) h4]
theorem read22 {H : Type} {enc : TypeId × Value → H} {W : World} {base : Nat} {spare : Nat → Bool} {held : Bool} {a : Option Addr} {len cap : Nat} {d : DataW H} {p : List MemPlace} (h : DataW.Trod enc Tryz.prog W base spare held 22 (.slice a len cap) d p) :
    ∃ l : List S23, l.length = len ∧ len ≤ cap ∧ len ≤ 9223372036854775807 ∧ Kd.C k23 W a l.length l ∧ ∀ x ∈ l, I64 x.f0 ∧ I64 x.f1 ∧ I64 x.f2 := by
  rcases open_slice_arrays Tryz.underlying22 Tryz.underlying23 Tryz.underlying3 (by kernel_rfl) (by kernel_rfl) h with ⟨rfl, rfl, rfl⟩ | ⟨ad, rfl, hl, hm, Z, hZ⟩
  · exact ⟨[], rfl, Nat.le_refl _, by omega, ⟨rfl, by simp, fun h0 => absurd h0 (by simp)⟩, fun x hx => by cases hx⟩
  · unfold maxLen at hm
    have hlen : ((List.range len).map fun i => (⟨Z i 0, Z i 1, Z i 2⟩ : S23)).length = len := by simp
    refine ⟨(List.range len).map fun i => (⟨Z i 0, Z i 1, Z i 2⟩ : S23), hlen, hl, by omega, ⟨rfl, by rw [hlen]; omega, fun _ => ⟨ad, rfl, fun j x hx => ?_⟩⟩, fun x hx => ?_⟩
    · have hj : j < len := by have := (List.getElem?_eq_some_iff.1 hx).1; simpa using this
      obtain rfl : (⟨Z j 0, Z j 1, Z j 2⟩ : S23) = x := by simpa [hj] using hx
      refine ⟨[.int .i64 (Z j 0), .int .i64 (Z j 1), .int .i64 (Z j 2)], rfl, k23_mk _ _, fun q u hu => ?_⟩
      have hq : q < 3 := by have := (List.getElem?_eq_some_iff.1 hu).1; simpa using this
      show W.cell? (ad.add (j * 3 + q)) = some u
      rw [(hZ j hj q hq).1]
      match q, hq, hu with
      | 0, _, hu => exact hu
      | 1, _, hu => exact hu
      | 2, _, hu => exact hu
    · obtain ⟨i, hi, rfl⟩ := List.mem_map.1 hx
      have hi2 : i < len := by simpa using hi
      exact ⟨rngI64 (hZ i hi2 0 (by omega)).2, rngI64 (hZ i hi2 1 (by omega)).2, rngI64 (hZ i hi2 2 (by omega)).2⟩
theorem read25 {H : Type} {enc : TypeId × Value → H} {W : World} {base : Nat} {spare : Nat → Bool} {held : Bool} {a : Option Addr} {len cap : Nat} {d : DataW H} {p : List MemPlace} (h : DataW.Trod enc Tryz.prog W base spare held 25 (.slice a len cap) d p) :
    ∃ l : List Int, l.length = len ∧ len ≤ cap ∧ len ≤ 9223372036854775807 ∧ Kd.C (Kd.int .i64) W a l.length l ∧ ∀ x ∈ l, I64 x := by
  obtain ⟨fuel, hf⟩ := h
  rcases open_ints Tryz.underlying25 Tryz.underlying3 (by kernel_rfl) hf with ⟨hcs, _⟩ | ⟨ad, l, c, zs, hcs, _, hl, hm, hzl, _, hcell, hwf⟩
  · simp [Value.cells] at hcs
    obtain ⟨rfl, rfl, rfl⟩ := hcs
    exact ⟨[], rfl, Nat.le_refl _, by omega, ⟨rfl, by simp, fun h0 => absurd h0 (by simp)⟩, fun x hx => by cases hx⟩
  · simp [Value.cells] at hcs
    obtain ⟨rfl, rfl, rfl⟩ := hcs
    unfold maxLen at hm
    have hz : len ≤ zs.length := by rw [hzl]; split <;> omega
    have hlen : (zs.take len).length = len := by rw [List.length_take]; omega
    refine ⟨zs.take len, hlen, hl, by omega, ⟨rfl, by rw [hlen]; omega, fun _ => ⟨ad, rfl, fun j x hx => ?_⟩⟩, fun x hx => rngI64 (hwf x (List.mem_of_mem_take hx))⟩
    have hj : j < len := by have := (List.getElem?_eq_some_iff.1 hx).1; omega
    refine ⟨[.int .i64 x], rfl, rfl, fun q u hu => ?_⟩
    have hq : q = 0 := by have := (List.getElem?_eq_some_iff.1 hu).1; simpa using this
    subst hq
    show W.cell? (ad.add (j * 1 + 0)) = some u
    have hx' : zs[j]? = some x := by rw [List.getElem?_take] at hx; simpa [hj] using hx
    rw [Nat.mul_one, Nat.add_zero, hcell j (by omega), List.getD_eq_getElem?_getD, hx']
    simpa using hu
end Go.Proofs.YtlmfoblgheepoaaGreatDoor.Row
end
section
namespace Go.Proofs.YtlmfoblgheepoaaGreatDoor.Pure
open Go.RowKit Go.Proofs.YtlmfoblgheepoaaGreatDoorW.PrintWords Go.Proofs.YtlmfoblgheepoaaGreatDoorW.PrintLast Go.Proofs.YtlmfoblgheepoaaGreatDoorW.PrintMore Go.Proofs.YtlmfoblgheepoaaGreatDoor.Pl Go.Proofs.YtlmfoblgheepoaaGreatDoor.Row
set_option linter.unusedVariables false
set_option linter.unusedSimpArgs false
theorem phases {p : List S29} (hv : vp p = true) (d : D) : (rS p d 1).2.2.2.2 = 0 ∧ (rS p d 2).2.2.2.2 = 0 ∧ (rS p d 3).2.2.2.2 = 0 ∧ ¬ ((rS p d 1).1 = 2 ∧ (rS p d 3).1 = 2) ∧ ((rS p d 1).1 = 2 → rS p d 2 = rS p d 1) ∧ ((rS p d 3).1 = 2 → rS p d 2 = rS p d 3) ∧ ((rS p d 1).1 ≠ 2 → (rS p d 3).1 ≠ 2 → (rS p d 2).1 ≠ 2 ∧ ((rS p d 2).1 = 1 ↔ ((rS p d 1).1 = 1 ∨ (rS p d 3).1 = 1))) := by
  have a1 := ents_apt hv 1
  have a2 := ents_apt hv 2
  have a3 := ents_apt hv 3
  have s1 : ∀ e, e ∈ ents 1 p 0 → e ∈ ents 2 p 0 := fun e h => ents_two.mpr (.inl h)
  have s3 : ∀ e, e ∈ ents 3 p 0 → e ∈ ents 2 p 0 := fun e h => ents_two.mpr (.inr h)
  have er : ∀ ph, (rS p d ph).2.2.2.2 = 0 := by
    intro ph
    rcases rE_kind (ents_apt hv ph) d with ⟨h, _⟩ | ⟨h, _⟩ | ⟨e, he, hp, hl, h⟩
    · unfold rS; rw [h]
    · unfold rS; rw [h]
    · unfold rS; rw [h, hit_num hl]
  have num : ∀ ph, (rS p d ph).1 = 2 → ∃ e ∈ ents ph p 0, e.key <+: d ∧ ¬ (d.length : Int) < e.len := by
    intro ph h2
    rcases rE_kind (ents_apt hv ph) d with ⟨h, _⟩ | ⟨h, _⟩ | ⟨e, he, hp, hl, h⟩
    · unfold rS at h2; rw [h] at h2; exact absurd h2 (by decide)
    · unfold rS at h2; rw [h] at h2; exact absurd h2 (by decide)
    · exact ⟨e, he, hp, hl⟩
  refine ⟨er 1, er 2, er 3, ?_, ?_, ?_, ?_⟩
  · rintro ⟨h1, h3⟩
    obtain ⟨e, he, hp, _⟩ := num 1 h1
    obtain ⟨f, hf, hq, _⟩ := num 3 h3
    have := pair_hit a2 (s1 e he) (s3 f hf) hp hq
    have l1 := ents_len1 hv he
    have l3 := ents_len3 hf
    rw [← this] at l3
    omega
  · intro h1
    obtain ⟨e, he, hp, _⟩ := num 1 h1
    unfold rS
    rw [rE_hit a2 (s1 e he) hp, rE_hit a1 he hp]
  · intro h1
    obtain ⟨e, he, hp, _⟩ := num 3 h1
    unfold rS
    rw [rE_hit a2 (s3 e he) hp, rE_hit a3 he hp]
  · intro h1 h3
    rcases rE_cases (ents 2 p 0) d with ⟨e, he, hp⟩ | hn
    · rcases ents_two.mp he with he' | he'
      · have q : rS p d 2 = rS p d 1 := by unfold rS; rw [rE_hit a2 he hp, rE_hit a1 he' hp]
        have q1 : (rS p d 1).1 = 1 := by
          unfold rS at h1 ⊢
          rw [rE_hit a1 he' hp] at h1 ⊢
          by_cases hl : (d.length : Int) < e.len
          · rw [hit_more hl]
          · rw [hit_num hl] at h1; exact absurd rfl h1
        exact ⟨by rw [q]; exact h1, by rw [q, q1]; simp⟩
      · have q : rS p d 2 = rS p d 3 := by unfold rS; rw [rE_hit a2 he hp, rE_hit a3 he' hp]
        have q1 : (rS p d 3).1 = 1 := by
          unfold rS at h3 ⊢
          rw [rE_hit a3 he' hp] at h3 ⊢
          by_cases hl : (d.length : Int) < e.len
          · rw [hit_more hl]
          · rw [hit_num hl] at h3; exact absurd rfl h3
        exact ⟨by rw [q]; exact h3, by rw [q, q1]; simp⟩
    · have e2 := rE_miss hn
      have e1 := rE_miss (l := ents 1 p 0) (fun e he => hn e (s1 e he))
      have e3 := rE_miss (l := ents 3 p 0) (fun e he => hn e (s3 e he))
      unfold rS
      rw [e1, e2, e3]
      have iff : ((ents 2 p 0).any (fun e => d.isPrefixOf e.key) = true) ↔ ((ents 1 p 0).any (fun e => d.isPrefixOf e.key) = true) ∨ ((ents 3 p 0).any (fun e => d.isPrefixOf e.key) = true) := by
        simp only [any_pre]
        constructor
        · rintro ⟨e, he, h⟩
          rcases ents_two.mp he with he | he
          · exact .inl ⟨e, he, h⟩
          · exact .inr ⟨e, he, h⟩
        · rintro (⟨e, he, h⟩ | ⟨e, he, h⟩)
          · exact ⟨e, s1 e he, h⟩
          · exact ⟨e, s3 e he, h⟩
      clear e1 e2 e3 h1 h3 er num s1 s3 a1 a2 a3 hn
      revert iff
      generalize (ents 1 p 0).any (fun e => d.isPrefixOf e.key) = x1
      generalize (ents 2 p 0).any (fun e => d.isPrefixOf e.key) = x2
      generalize (ents 3 p 0).any (fun e => d.isPrefixOf e.key) = x3
      revert x1 x2 x3
      decide
theorem ph_round (p : List S29) (hv : vp p = true) (ys : List ByteArray) (i : Nat) (hi : i < ys.length) (hy : ys.length ≤ 1000) (d : D) (hd : digs d = true) (hl : d.length ≤ 16) (he : ys[i] = b d) (h : Ev (fun k => dialtonelaw12_PlanPhases.l0 k true p ys (ys.length : Int) ((i + 1 : Nat) : Int)) true) :
    Ev (fun k => dialtonelaw12_PlanPhases.l0 k true p ys (ys.length : Int) (i : Int)) true := by
  refine Ev.step (fun k => by rw [dialtonelaw12_PlanPhases.l0]) ?_
  have h1 : ((i : Int) < ys.length) := by omega
  have h2 : (0 : Int) ≤ i := by omega
  have h3 : rdOf ByteArray.empty ys (i : Int) = b d := by unfold rdOf; simp [hi, he]
  simp only [h1, h2, if_true, h3]
  refine Ev.bind (read_ev p hv 1 rfl d hd hl) ?_
  refine Ev.bind (read_ev p hv 2 rfl d hd hl) ?_
  refine Ev.bind (read_ev p hv 3 rfl d hd hl) ?_
  obtain ⟨e1, e2, e3, n1, n2, n3, n4⟩ := phases hv d
  obtain ⟨B, hB⟩ : ∃ B, rS p d 1 = B := ⟨_, rfl⟩
  obtain ⟨C, hC⟩ : ∃ B, rS p d 2 = B := ⟨_, rfl⟩
  obtain ⟨E, hE⟩ : ∃ B, rS p d 3 = B := ⟨_, rfl⟩
  rw [hB] at e1 n1 n2 n4 ⊢
  rw [hC] at e2 n2 n3 n4 ⊢
  rw [hE] at e3 n1 n3 n4 ⊢
  simp only [e1, e2, e3, if_true]
  have hw := wi i (by omega)
  by_cases b2 : B.1 = 2
  · have d2 : ¬ E.1 = 2 := fun h => n1 ⟨b2, h⟩
    have d2' : (E.1 == 2) = false := beq_eq_false_iff_ne.mpr d2
    simp only [b2, if_true, d2']
    refine Ev.step (fun k => by rw [dialtonelaw12_PlanPhases.j1]) ?_
    have hc := n2 b2
    simp only [Bool.false_eq_true, if_false, if_true, hc, b2, beq_self_eq_true, Bool.not_true, Bool.or_self, hw]
    exact h
  · simp only [b2, if_false]
    refine Ev.step (fun k => by rw [dialtonelaw12_PlanPhases.j1]) ?_
    by_cases d2 : E.1 = 2
    · have hc := n3 d2
      simp only [Bool.false_eq_true, if_false, if_true, b2, d2, hc, beq_self_eq_true, Bool.not_true, Bool.or_self, hw]
      exact h
    · obtain ⟨c2, c1⟩ := n4 b2 d2
      simp only [Bool.false_eq_true, if_false, b2, d2, c2, hw]
      by_cases b1 : B.1 = 1
      · have : C.1 = 1 := c1.mpr (.inl b1)
        have t1 : ((C.1 == 1) != true) = false := by rw [this]; rfl
        simp only [b1, if_true, t1, Bool.false_eq_true, if_false]
        exact h
      · have t1 : ((C.1 == 1) != (E.1 == 1)) = false := by
          have : (C.1 == 1) = (E.1 == 1) := by
            rw [Bool.eq_iff_iff, beq_iff_eq, beq_iff_eq, c1]; simp [b1]
          rw [this]; simp
        simp only [b1, if_false, t1, Bool.false_eq_true]
        exact h
theorem PlanPhases : ∀ (l0 : List S23) (a1_0 : Int) (a1_1 : Int) (a2 : Int) (l3 : List Int), l0.length ≤ 9223372036854775807 → (∀ x ∈ l0, I64 x.f0 ∧ I64 x.f1 ∧ I64 x.f2) → I64 a1_0 → I64 a1_1 → I64 a2 → l3.length ≤ 9223372036854775807 → (∀ x ∈ l3, I64 x) → ∃ k, dialtonelaw12_PlanPhases.f k l0 a1_0 a1_1 a2 l3 = some true := by
  intro l0 a1_0 a1_1 a2 l3 hlen hl h10 h11 h2 hlen3 hl3
  apply Ev.rounds
  obtain ⟨p, hv, h8, evp⟩ := made_ev l0 hl
  obtain ⟨m, hm, evm⟩ := number_ev p hv a1_0 a1_1 h10 h11
  obtain ⟨r, lr, er⟩ := pick_lt a2 h2 3 (by decide)
  have er' : dialtonelaw12_pick.f a2 3 = some (r : Int) := er
  have hr := ph_of r lr
  obtain ⟨t, td, tl, t0, tle, tev⟩ := text_take l3 hl3 8 (by decide) hlen3
  obtain ⟨u, ud, ul, u0, ule, uev⟩ := text_take l3 hl3 16 (by decide) hlen3
  have t0' : (0 : Int) ≤ mn (l3.length : Int) 8 := t0
  have tle' : mn (l3.length : Int) 8 ≤ l3.length := tle
  have u0' : (0 : Int) ≤ mn (l3.length : Int) 16 := u0
  have ule' : mn (l3.length : Int) 16 ≤ l3.length := ule
  unfold dialtonelaw12_PlanPhases.f
  refine Ev.bind sane_ev ?_
  simp only [if_true]
  refine Ev.bind evp ?_
  refine Ev.bind evm ?_
  simp only [er', Option.bind_some]
  refine Ev.bind (write_ev p hv m hm _ hr.1) ?_
  obtain ⟨wd, wl⟩ := wS_first hv m (wrap64 (1 + (r : Int)))
  simp only [t0', tle', if_true]
  refine Ev.bind tev ?_
  have s1 : (b (wS p m (wrap64 (1 + (r : Int)))).1).size + (b t).size ≤ 9223372036854775807 := by rw [b_size, b_size]; omega
  simp only [s1, if_true, u0', ule']
  refine Ev.bind uev ?_
  simp only [Option.bind_some, b_append]
  refine ph_round p hv _ 0 (by simp) (by simp) ((wS p m (wrap64 (1 + (r : Int)))).1 ++ t) (by rw [digs_append, wd, td]; rfl) (by rw [List.length_append]; omega) rfl ?_
  refine ph_round p hv _ 1 (by simp) (by simp) u ud ul rfl ?_
  refine Ev.step (fun k => by rw [dialtonelaw12_PlanPhases.l0]) ?_
  simp
  exact Ev.now _
end Go.Proofs.YtlmfoblgheepoaaGreatDoor.Pure
end
section
namespace Go.Proofs.YtlmfoblgheepoaaGreatDoor.planPhases
open Go.ChangeShapes Go.WideShapes Go.ChangeAt Go.RowKit Go.Proofs.GOpen Go.Proofs.YtlmfoblgheepoaaGreatDoor.Pl Go.Proofs.YtlmfoblgheepoaaGreatDoor.Row Go.Proofs.YtlmfoblgheepoaaGreatDoorW.PrintWords
open Go.ChangeMaps (open_string shut_string)
theorem glb {W : World} (h : laidMetH Tryz.prog Rows.planPhasesRow.laid W) : Glb W := by
  rw [MakeChecks.laidMetH_plain _ _ _ (by kernel_rfl)] at h
  have hr := Lib.laidMet.reads h (n := "internal/strconv.uint64pow10") (d := Rows.laid_internal_strconv_uint64pow10) (by simp [Rows.planPhasesRow])
  exact glb_of_reads hr
set_option maxRecDepth 100000 in
theorem lifted (os : Os) (started : os.Started) (H : Type) (enc : TypeId × Value → H) :
    ReturnsInHanded {} Tryz.checked os 8 .any (fun w args => (Rows.planPhasesSpec.pre enc Tryz.prog Tryz.f8 [] false w args ∧ laidMetH Tryz.prog Rows.planPhasesRow.laid w) ∧ sizedMet enc Tryz.prog Tryz.f8 (OpenSpec.ofChange Rows.planPhasesSpec) false w args)
      (Rows.planPhasesSpec.post enc Tryz.prog Tryz.f8 false true false false) := by
  refine returnsInHanded_of_change_and (C := Tryz.checked) (X := fun w _ => laidMetH Tryz.prog Rows.planPhasesRow.laid w) (fun _ _ _ hh h => h.of_heap hh) own started (by kernel_rfl) Tryz.func8
    (ChangeSpec.witness_shaped (enc := enc) (C := Tryz.checked) (os := os) (X := fun w _ => laidMetH Tryz.prog Rows.planPhasesRow.laid w) false (World.laidAll Tryz.prog os Rows.planPhasesRow.laid) #[.slice none 0 0, .agg #[.int .i64 0, .int .i64 0], .int .i64 0, .slice none 0 0] 8 (World.laidAll_os _ _ _)
      (World.shaped_of_ZipB (by kernel_rfl) (by kernel_rfl)) (by kernel_rfl) (by kernel_rfl) (by kernel_rfl)
      (by rw [MakeChecks.laidMetH_plain _ _ _ (by kernel_rfl)]; exact laidMet_laidAll _ (by kernel_rfl) (by kernel_rfl))) ?_
  intro W base args ds gs before hval0 hW _ _ hL _
  have hval : ∀ (j : Nat) t v, Tryz.f8.params[j]? = some t → args[j]? = some v → Value.okWide Tryz.prog W .any base t v := hval0
  have hW' := hW
  obtain ⟨p, q, hA0, hV, rfl, _, _⟩ := hW
  have hA : DataW.TrodAll enc Tryz.prog W 0 (fun _ => true) true Tryz.f8.params.toList args.toList ds p := hA0
  rw [Tryz.params8] at hA hval
  obtain ⟨v0, vs0, d0, ds0, p0, q0, hargs, rfl, rfl, h0, r0⟩ := trodAll_cons hA
  obtain ⟨v1, vs1, d1, ds1, p1, q1, rfl, rfl, rfl, h1, r1⟩ := trodAll_cons r0
  obtain ⟨v2, vs2, d2, ds2, p2, q2, rfl, rfl, rfl, h2, r2⟩ := trodAll_cons r1
  obtain ⟨v3, vs3, d3, ds3, p3, q3, rfl, rfl, rfl, h3, r3⟩ := trodAll_cons r2
  obtain ⟨rfl, rfl, rfl⟩ := trodAll_nil r3
  obtain rfl : args = #[v0, v1, v2, v3] := by cases args; simp_all
  obtain ⟨rfl, rfl⟩ := trodVars_none hV
  have k0 := h0
  have lt0 : ∀ x ∈ p0, x.block < W.heap.size := by obtain ⟨m, hm⟩ := k0; exact DataW.trod_lt m _ _ _ hm
  obtain ⟨a0, len0, cap0, rfl⟩ := okWide_slice Tryz.underlying22 (hval 0 22 v0 rfl rfl)
  obtain ⟨l0, rfl, hc0, hm0, hC0, hw0⟩ := read22 h0
  have k1 := h1
  have lt1 : ∀ x ∈ p1, x.block < W.heap.size := by obtain ⟨m, hm⟩ := k1; exact DataW.trod_lt m _ _ _ hm
  obtain ⟨Z1, e1, w1⟩ := open_array Tryz.underlying50 Tryz.underlying3 (by kernel_rfl) (by kernel_rfl) (hval 1 50 v1 rfl rfl) h1
  obtain rfl : v1 = .agg #[.int .i64 (Z1 0), .int .i64 (Z1 1)] := e1
  have k2 := h2
  have lt2 : ∀ x ∈ p2, x.block < W.heap.size := by obtain ⟨m, hm⟩ := k2; exact DataW.trod_lt m _ _ _ hm
  obtain ⟨a2, rfl, rfl, rfl, w2⟩ := open_int Tryz.underlying3 (hval 2 3 v2 rfl rfl) h2
  have k3 := h3
  have lt3 : ∀ x ∈ p3, x.block < W.heap.size := by obtain ⟨m, hm⟩ := k3; exact DataW.trod_lt m _ _ _ hm
  obtain ⟨a3, len3, cap3, rfl⟩ := okWide_slice Tryz.underlying25 (hval 3 25 v3 rfl rfl)
  obtain ⟨l3, rfl, hc3, hm3, hC3, hw3⟩ := read25 h3
  clear hA0 hval0
  obtain ⟨k, hk⟩ := Pure.PlanPhases l0 (Z1 0) (Z1 1) a2 l3 hm0 hw0 (rngI64 (w1 0 (by omega))) (rngI64 (w1 1 (by omega))) (rngI64 w2) hm3 hw3
  refine (dialtonelaw12_PlanPhases.calls k _ _ l0 (Z1 0) (Z1 1) a2 _ _ l3 true W hC0 hc0 hC3 hc3 (glb hL) hk).mono fun e W' ⟨he, bel⟩ => ?_
  subst he
  exact ⟨_, rfl, _, _, _, [], _, [], hW', trodAll_mk1 (shut_bool Tryz.underlying4 _), (trodAll_cons_mk (Below.trod laidOut (by kernel_rfl) (of_decide_eq_true (by kernel_rfl)) k0 bel lt0) (trodAll_cons_mk (Below.trod laidOut (by kernel_rfl) (of_decide_eq_true (by kernel_rfl)) k1 bel lt1) (trodAll_cons_mk (Below.trod laidOut (by kernel_rfl) (of_decide_eq_true (by kernel_rfl)) k2 bel lt2) (trodAll_cons_mk (Below.trod laidOut (by kernel_rfl) (of_decide_eq_true (by kernel_rfl)) k3 bel lt3) trodAll_mk0)))), rfl, bel.frame _, fun h => by cases h⟩
theorem over : Rows.PlanPhasesSaid :=
  OpenClaim.holds_of_wide 8 Tryz.f8 rfl rfl rfl rfl rfl rfl rfl ⟨rfl, rfl, rfl, rfl, rfl⟩ rfl rfl rfl rfl rfl (by kernel_rfl) Tryz.func8 (by kernel_rfl)
    (of_decide_eq_true (by kernel_rfl)) (by unfold Func.isWrapper; first | (rw [if_pos (by decide +kernel)]; kernel_rfl) | (rw [if_neg (by decide +kernel)]; exact ⟨rfl, rfl⟩))
    (fun os started H enc _ => lifted os started H enc)
theorem plain (f : FuncId) (fn : Func) (hf : Tryz.pinned.checked.prog.funcNamed "dialtone/dialtonelaw12.PlanPhases" = some f) (hfn : Tryz.pinned.checked.prog.funcs[f]? = some fn) :
    true = Tryz.pinned.checked.prog.looks [] ∧ ∀ (j : Nat) t, fn.params[j]? = some t → Tryz.pinned.checked.prog.wantsStandIn t = false := by
  obtain rfl : f = 8 := Option.some.inj ((show Tryz.prog.funcNamed "dialtone/dialtonelaw12.PlanPhases" = some 8 by kernel_rfl).symm.trans hf) |>.symm
  obtain rfl : fn = Tryz.f8 := (Option.some.inj (Tryz.func8.symm.trans hfn)).symm
  refine ⟨by kernel_rfl, fun j t ht => ?_⟩
  rw [Tryz.params8] at ht
  have hm : t ∈ [22, 50, 3, 25] := by simpa using Array.mem_of_getElem? ht
  have hall : ([22, 50, 3, 25].all fun u => !Tryz.prog.wantsStandIn u) = true := by kernel_rfl
  exact (show Tryz.prog.wantsStandIn t = false by simpa using List.all_eq_true.1 hall t hm)
theorem card : Rows.PlanPhasesCardSaid :=
  Claim7.holds_tied_plain_at .later [] _ _ _ _ over (fun _ h => by cases h) (by kernel_rfl) (fun _ h => by cases h) planPhases_row_tie rfl ⟨rfl, rfl⟩ (by kernel_rfl) rfl plain (by kernel_rfl)
end Go.Proofs.YtlmfoblgheepoaaGreatDoor.planPhases
namespace Go.Proofs.YtlmfoblgheepoaaGreatDoor
theorem planPhases_holds : Rows.PlanPhasesCardSaid := planPhases.card
end Go.Proofs.YtlmfoblgheepoaaGreatDoor
end
