/- Ra: part 3 of the proof that the law's row holds: the printed walk of the program's functions, the plain law, the row. -/
import Derived.Test.YtlmfoblgheepoaaGreatDoorRows
import Derived.Test.YtlmfoblgheepoaaGreatDoorTie
import Derived.Test.YtlmfoblgheepoaaGreatDoorCards
import Derived.WalkKit
import Derived.ProofKit
import Derived.OpenShut
import Derived.ShutString
import Derived.ChangeOld
import Derived.Below
import Derived.SizedLaws
import Derived.Lay
import Derived.LaidOnce
import Derived.SevenTiedAt
import Derived.LaidByTextLater
import Derived.Lib.LaidTab
import Derived.Lib.LaidU8
import Derived.Stop.Joined
import Derived.Test.YtlmfoblgheepoaaGreatDoorQUq2
import Derived.Test.YtlmfoblgheepoaaGreatDoorQRa1
section
namespace Go.Proofs.YtlmfoblgheepoaaGreatDoor.Row
open Go.ChangeShapes Go.WideShapes Go.ChangeAt Go.RowKit Go.Proofs.GOpen Go.Proofs.YtlmfoblgheepoaaGreatDoor.Pl Go.Proofs.YtlmfoblgheepoaaGreatDoorW.PrintWords
open Go.ChangeMaps (open_string shut_string)
set_option maxRecDepth 100000
theorem own : ownKnob Tryz.prog.godebug = none := by kernel_rfl
theorem laidOut : laidOutB Tryz.prog = true := by kernel_rfl
theorem rngI64 {n : Int} (h : (Lit.int .i64 n).wf = true) : -9223372036854775808 ≤ n ∧ n ≤ 9223372036854775807 := by simpa [Lit.wf, IntKind.min, IntKind.max, IntKind.signed, IntKind.bits] using h
def I64 (n : Int) : Prop := -9223372036854775808 ≤ n ∧ n ≤ 9223372036854775807
theorem gPow : Tryz.prog.globalNamed "internal/strconv.uint64pow10" = some 4 := by kernel_rfl
theorem gPowType : (Tryz.prog.globals[4]?).map (·.type) = some 154 := by kernel_rfl
theorem powData : (Rows.laid_internal_strconv_uint64pow10 : DataW Unit) = Lib.tabData .u64 Lib.pow10Tab := by rfl
theorem glb_of_reads {W : World} (h : Lib.VarReads Tryz.prog W "internal/strconv.uint64pow10" Rows.laid_internal_strconv_uint64pow10) : Glb W := by
  rw [powData] at h
  obtain ⟨g, t, cs, fuel, p, h1, h2, h3, h4⟩ := h
  obtain rfl := Option.some.inj (gPow.symm.trans h1)
  obtain rfl := Option.some.inj (gPowType.symm.trans h2)
  unfold Glb Lib.TabIs
  rw [h3, ← Lib.cells_of_tab Tryz.underlying154 Tryz.underlying123 (by kernel_rfl) (by kernel_rfl) h4]
theorem read22 {H : Type} {enc : TypeId × Value → H} {W : World} {base : Nat} {spare : Nat → Bool} {held : Bool} {a : Option Addr} {len cap : Nat} {d : DataW H} {p : List MemPlace} (h : DataW.Trod enc Tryz.prog W base spare held 22 (.slice a len cap) d p) :
    ∃ l : List S23, l.length = len ∧ len ≤ cap ∧ len ≤ 9223372036854775807 ∧ Kd.C k23 W a l.length l ∧ ∀ x ∈ l, I64 x.f0 ∧ I64 x.f1 ∧ I64 x.f2 := by
  rcases open_slice_arrays Tryz.underlying22 Tryz.underlying23 Tryz.underlying3 (by kernel_rfl) (by kernel_rfl) h with ⟨rfl, rfl, rfl⟩ | ⟨ad, rfl, hl, hm, Z, hZ⟩
  · exact ⟨[], rfl, Nat.le_refl _, by omega, ⟨rfl, by simp, fun h0 => absurd h0 (by simp)⟩, fun x hx => by cases hx⟩
  · unfold maxLen at hm
    have hlen : ((List.range len).map fun i => (⟨Z i 0, Z i 1, Z i 2⟩ : S23)).length = len := by simp
    refine ⟨(List.range len).map fun i => (⟨Z i 0, Z i 1, Z i 2⟩ : S23), hlen, hl, by omega, ⟨rfl, by rw [hlen]; omega, fun _ => ⟨ad, rfl, fun j x hx => ?_⟩⟩, fun x hx => ?_⟩
    · have hj : j < len := by have := (List.getElem?_eq_some_iff.1 hx).1; simpa using this
      obtain rfl : (⟨Z j 0, Z j 1, Z j 2⟩ : S23) = x := by simpa [hj] using hx
      refine ⟨[.int .i64 (Z j 0), .int .i64 (Z j 1), .int .i64 (Z j 2)], rfl, k23_mk _ _, fun q u hu => ?_⟩
      have hq : q < 3 := by have := (List.getElem?_eq_some_iff.1 hu).1; simpa using this
      show W.cell? (ad.add (j * 3 + q)) = some u
      rw [(hZ j hj q hq).1]
      match q, hq, hu with
      | 0, _, hu => exact hu
      | 1, _, hu => exact hu
      | 2, _, hu => exact hu
    · obtain ⟨i, hi, rfl⟩ := List.mem_map.1 hx
      have hi2 : i < len := by simpa using hi
      exact ⟨rngI64 (hZ i hi2 0 (by omega)).2, rngI64 (hZ i hi2 1 (by omega)).2, rngI64 (hZ i hi2 2 (by omega)).2⟩
end Go.Proofs.YtlmfoblgheepoaaGreatDoor.Row
end
section
namespace Go.Proofs.YtlmfoblgheepoaaGreatDoor.Pure
open Go.RowKit Go.Proofs.YtlmfoblgheepoaaGreatDoorW.PrintWords Go.Proofs.YtlmfoblgheepoaaGreatDoorW.PrintLast Go.Proofs.YtlmfoblgheepoaaGreatDoorW.PrintMore Go.Proofs.YtlmfoblgheepoaaGreatDoor.Pl Go.Proofs.YtlmfoblgheepoaaGreatDoor.Row
set_option linter.unusedVariables false
set_option linter.unusedSimpArgs false
def up (i j : Nat) (A : Bool) : Int := if j < i ∧ A = true then 1 else 0
theorem up_step (i j : Nat) (A : Bool) : up (i + 1) j A = if i = j ∧ A = true then wrap64 (up i j A + 1) else up i j A := by
  unfold up
  have w1 : wrap64 (0 + 1) = 1 := by rw [w64 (by omega) (by omega)]; rfl
  cases A with
  | false => simp
  | true =>
    simp
    by_cases h1 : j < i
    · have h2 : ¬ i = j := by omega
      have h3 : j < i + 1 := by omega
      simp [h1, h2, h3]
    · by_cases h2 : i = j
      · have h3 : j < i + 1 := by omega
        simp [h1, h2, h3]; exact w1.symm
      · have h3 : ¬ j < i + 1 := by omega
        simp [h1, h2, h3]
theorem rloop (p : List S29) (hv : vp p = true) (m : Nat) (hm : m ≤ 99999999) (A B : Bool) (j0 : Nat) (hP : ∀ i (h : i < p.length), (lo p[i] ≤ m ∧ m < hi p[i] 2) ↔ (i = j0 ∧ A = true)) (hQ : ∀ i (h : i < p.length), (lo p[i] ≤ m ∧ m < hi p[i] 1) ↔ (i = j0 ∧ B = true)) (e f : Int)
    (he : (e = 0) ↔ A = true) (hf : (f = 0) ↔ B = true) (hBA : B = true → A = true) (hj : A = true → j0 < p.length) :
    ∀ r i : Nat, r + i = p.length → Ev (fun k => dialtonelaw12_PlanRanges.l0 k p (m : Int) e f (up i j0 A) (up i j0 B) (i : Int)) true
  | 0, i, h => by
    refine Ev.step (fun k => by rw [dialtonelaw12_PlanRanges.l0]) ?_
    have h1 : ¬ ((i : Int) < p.length) := by omega
    simp only [h1, if_false]
    cases A with
    | false =>
      have hb : B = false := by cases B with
        | false => rfl
        | true => exact absurd (hBA rfl) (by decide)
      subst hb
      have e1 : ¬ e = 0 := fun h => by have := he.mp h; cases this
      have f1 : ¬ f = 0 := fun h => by have := hf.mp h; cases this
      have e2 : (e == 0) = false := beq_eq_false_iff_ne.mpr e1
      have f2 : (f == 0) = false := beq_eq_false_iff_ne.mpr f1
      have u1 : up i j0 false = 0 := by unfold up; simp
      simp only [u1, e2, f2]
      exact Ev.now _
    | true =>
      have e1 : e = 0 := he.mpr rfl
      subst e1
      have u1 : up i j0 true = 1 := by unfold up; have := hj rfl; rw [if_pos ⟨by omega, rfl⟩]
      cases B with
      | false =>
        have f1 : ¬ f = 0 := fun h => by have := hf.mp h; cases this
        have f2 : (f == 0) = false := beq_eq_false_iff_ne.mpr f1
        have u2 : up i j0 false = 0 := by unfold up; simp
        simp only [u1, u2, f2]
        exact Ev.now _
      | true =>
        have f1 : f = 0 := hf.mpr rfl
        subst f1
        simp only [u1]
        exact Ev.now _
  | r + 1, i, h => by
    have h20 := vp_len hv
    have hil : i < p.length := by omega
    have ih := rloop p hv m hm A B j0 hP hQ e f he hf hBA hj r (i + 1) (by omega)
    rw [up_step, up_step] at ih
    refine Ev.step (fun k => by rw [dialtonelaw12_PlanRanges.l0]) ?_
    have h1 : ((i : Int) < p.length) := by omega
    simp only [h1, if_true]
    refine Ev.bind (range_ev p hv i hil 2 rfl) ?_
    refine Ev.bind (range_ev p hv i hil 1 rfl) ?_
    have hc := vp_one hv (List.getElem_mem hil)
    have hh := hi_le hc 1
    have hp := hP i hil
    have hq := hQ i hil
    generalize hi p[i] 1 = H1 at *
    generalize hi p[i] 2 = H2 at *
    generalize lo p[i] = L at *
    have c1 : ¬ (H1 : Int) > H2 := by omega
    have c2 : ¬ (H1 : Int) ≤ L := by omega
    have c3 : decide ((H2 : Int) > 100000000) = false := by rw [decide_eq_false_iff_not]; omega
    simp only [if_true, c1, c2, if_false, c3]
    refine Ev.step (fun k => by rw [dialtonelaw12_PlanRanges.j1]) ?_
    simp only [Bool.false_eq_true, if_false]
    rw [← wi i (by omega)] at ih
    by_cases d1 : L ≤ m
    · have d1' : (L : Int) ≤ m := by omega
      by_cases d2 : m < H2
      · have d2' : decide ((m : Int) < H2) = true := by rw [decide_eq_true_eq]; omega
        simp only [d1', if_true, d2']
        refine Ev.step (fun k => by rw [dialtonelaw12_PlanRanges.j2]) ?_
        have p1 : (i = j0 ∧ A = true) := hp.mp ⟨d1, d2⟩
        simp only [if_true, d1']
        simp only [p1, and_self, if_true] at ih
        by_cases d3 : m < H1
        · have d3' : (m : Int) < H1 := by omega
          have q1 := hq.mp ⟨d1, d3⟩
          simp only [d3', if_true]
          simp only [q1.2, p1.2, and_self, if_true] at ih ⊢
          first | exact ih | (simp only [p1.1]; exact ih)
        · have d3' : ¬ (m : Int) < H1 := by omega
          have q1 : B = false := by
            cases hb : B with
            | false => rfl
            | true => exact absurd (hq.mpr ⟨p1.1, hb⟩).2 d3
          simp only [d3', if_false]
          simp only [q1, p1.2, Bool.false_eq_true, and_false, if_false] at ih ⊢
          first | exact ih | (simp only [p1.1]; exact ih)
      · have d2' : decide ((m : Int) < H2) = false := by rw [decide_eq_false_iff_not]; omega
        have d3' : ¬ (m : Int) < H1 := by omega
        have p1 : ¬ (i = j0 ∧ A = true) := fun h => d2 (hp.mpr h).2
        have q1 : ¬ (i = j0 ∧ B = true) := fun h => absurd (hq.mpr h).2 (by omega)
        simp only [d1', if_true, d2']
        refine Ev.step (fun k => by rw [dialtonelaw12_PlanRanges.j2]) ?_
        simp only [Bool.false_eq_true, if_false, d1', if_true, d3']
        simp only [p1, q1, if_false] at ih
        exact ih
    · have d1' : ¬ (L : Int) ≤ m := by omega
      have p1 : ¬ (i = j0 ∧ A = true) := fun h => d1 (hp.mpr h).1
      have q1 : ¬ (i = j0 ∧ B = true) := fun h => d1 (hq.mpr h).1
      simp only [d1', if_false]
      refine Ev.step (fun k => by rw [dialtonelaw12_PlanRanges.j2]) ?_
      simp only [Bool.false_eq_true, if_false, d1']
      simp only [p1, q1, if_false] at ih
      exact ih
theorem find_index {p : List S29} (hv : vp p = true) {s : D} {i : Nat} (hi : i < p.length) (h : cn p[i] <+: s) : ∀ j (hj : j < p.length), cn p[j] <+: s → j = i := by
  intro j hj h1
  have e1 : eNew (0 + i) p[i] ∈ ents 2 p 0 := ents_mem.mpr ⟨i, hi, .inr ⟨by decide, rfl⟩⟩
  have e2 : eNew (0 + j) p[j] ∈ ents 2 p 0 := ents_mem.mpr ⟨j, hj, .inr ⟨by decide, rfl⟩⟩
  have := pair_hit (ents_apt hv 2) e1 e2 (d := s) h h1
  have hij : ((0 + i : Nat) : Int) = ((0 + j : Nat) : Int) := congrArg En.idx this
  omega
theorem PlanRanges : ∀ (l0 : List S23) (a1_0 : Int) (a1_1 : Int), l0.length ≤ 9223372036854775807 → (∀ x ∈ l0, I64 x.f0 ∧ I64 x.f1 ∧ I64 x.f2) → I64 a1_0 → I64 a1_1 → ∃ k, dialtonelaw12_PlanRanges.f k l0 a1_0 a1_1 = some true := by
  intro l0 a1_0 a1_1 hlen hl h10 h11
  apply Ev.rounds
  obtain ⟨p, hv, h8, evp⟩ := made_ev l0 hl
  obtain ⟨m, hm, evm⟩ := number_ev p hv a1_0 a1_1 h10 h11
  unfold dialtonelaw12_PlanRanges.f
  refine Ev.bind sane_ev ?_
  simp only [if_true]
  refine Ev.bind evp ?_
  refine Ev.bind evm ?_
  refine Ev.bind (write_ev p hv m hm 3 rfl) ?_
  refine Ev.bind (write_ev p hv m hm 1 rfl) ?_
  have ho : ∀ i (h : i < p.length), One p[i] := fun i h => vp_one hv (List.getElem_mem h)
  have u0 : ∀ (j : Nat) (A : Bool), up 0 j A = 0 := fun j A => by unfold up; rw [if_neg (by omega)]
  cases hf : p.find? (fun c => (cn c).isPrefixOf (eightK 8 m)) with
  | none =>
    have hn : ∀ i (h : i < p.length), ¬ cn p[i] <+: eightK 8 m := fun i h hp => by
      have := List.find?_eq_none.mp hf p[i] (List.getElem_mem h)
      rw [List.isPrefixOf_iff_prefix] at this
      exact this hp
    rw [wS_none hf, wS_none hf]
    have := rloop p hv m hm false false 0 (fun i h => by rw [in_whole (ho i h) hm]; simp [hn i h]) (fun i h => by rw [in_old (ho i h) hm]; simp [hn i h]) 120 120 (by decide) (by decide) (fun h => h) (fun h => by cases h) p.length 0 (by omega)
    first | (rw [u0, u0] at this; exact this) | (rw [u0] at this; exact this)
  | some c =>
    have h1 := List.find?_some hf
    obtain ⟨j, hj, hcj⟩ := List.mem_iff_getElem.mp (List.mem_of_find?_eq_some hf)
    subst hcj
    rw [List.isPrefixOf_iff_prefix] at h1
    have hu := find_index hv hj h1
    rw [wS_some hf, wS_some hf]
    have w3 : wC p[j] (eightK 8 m) 3 = (eightK 8 m, 0) := by unfold wC; exact if_neg (by decide)
    rw [w3]
    have hP : ∀ i (h : i < p.length), (lo p[i] ≤ m ∧ m < hi p[i] 2) ↔ (i = j ∧ true = true) := fun i h => by
      rw [in_whole (ho i h) hm]
      constructor
      · intro hp; exact ⟨hu i h hp, rfl⟩
      · rintro ⟨rfl, _⟩; exact h1
    have hQ : ∀ i (h : i < p.length), (lo p[i] ≤ m ∧ m < hi p[i] 1) ↔ (i = j ∧ z48 (((eightK 8 m).drop (cn p[j]).length).take (cutOf p[j] - (cn p[j]).length)) = true) := fun i h => by
      rw [in_old (ho i h) hm]
      constructor
      · rintro ⟨hp, hz⟩
        have := hu i h hp
        subst this
        exact ⟨rfl, hz⟩
      · rintro ⟨rfl, hz⟩; exact ⟨h1, hz⟩
    have hst : ((wC p[j] (eightK 8 m) 1).2 = 0) ↔ z48 (((eightK 8 m).drop (cn p[j]).length).take (cutOf p[j] - (cn p[j]).length)) = true := by
      unfold wC
      rw [if_pos rfl]
      cases z48 (((eightK 8 m).drop (cn p[j]).length).take (cutOf p[j] - (cn p[j]).length)) <;> simp
    have := rloop p hv m hm true _ j hP hQ 0 (wC p[j] (eightK 8 m) 1).2 (by decide) hst (fun _ => rfl) (fun _ => hj) p.length 0 (by omega)
    rw [u0, u0] at this
    exact this
end Go.Proofs.YtlmfoblgheepoaaGreatDoor.Pure
end
section
namespace Go.Proofs.YtlmfoblgheepoaaGreatDoor.planRanges
open Go.ChangeShapes Go.WideShapes Go.ChangeAt Go.RowKit Go.Proofs.GOpen Go.Proofs.YtlmfoblgheepoaaGreatDoor.Pl Go.Proofs.YtlmfoblgheepoaaGreatDoor.Row Go.Proofs.YtlmfoblgheepoaaGreatDoorW.PrintWords
open Go.ChangeMaps (open_string shut_string)
theorem glb {W : World} (h : laidMetH Tryz.prog Rows.planRangesRow.laid W) : Glb W := by
  rw [MakeChecks.laidMetH_plain _ _ _ (by kernel_rfl)] at h
  have hr := Lib.laidMet.reads h (n := "internal/strconv.uint64pow10") (d := Rows.laid_internal_strconv_uint64pow10) (by simp [Rows.planRangesRow])
  exact glb_of_reads hr
set_option maxRecDepth 100000 in
theorem lifted (os : Os) (started : os.Started) (H : Type) (enc : TypeId × Value → H) :
    ReturnsInHanded {} Tryz.checked os 9 .any (fun w args => (Rows.planRangesSpec.pre enc Tryz.prog Tryz.f9 [] false w args ∧ laidMetH Tryz.prog Rows.planRangesRow.laid w) ∧ sizedMet enc Tryz.prog Tryz.f9 (OpenSpec.ofChange Rows.planRangesSpec) false w args)
      (Rows.planRangesSpec.post enc Tryz.prog Tryz.f9 false true false false) := by
  refine returnsInHanded_of_change_and (C := Tryz.checked) (X := fun w _ => laidMetH Tryz.prog Rows.planRangesRow.laid w) (fun _ _ _ hh h => h.of_heap hh) own started (by kernel_rfl) Tryz.func9
    (ChangeSpec.witness_shaped (enc := enc) (C := Tryz.checked) (os := os) (X := fun w _ => laidMetH Tryz.prog Rows.planRangesRow.laid w) false (World.laidAll Tryz.prog os Rows.planRangesRow.laid) #[.slice none 0 0, .agg #[.int .i64 0, .int .i64 0]] 8 (World.laidAll_os _ _ _)
      (World.shaped_of_ZipB (by kernel_rfl) (by kernel_rfl)) (by kernel_rfl) (by kernel_rfl) (by kernel_rfl)
      (by rw [MakeChecks.laidMetH_plain _ _ _ (by kernel_rfl)]; exact laidMet_laidAll _ (by kernel_rfl) (by kernel_rfl))) ?_
  intro W base args ds gs before hval0 hW _ _ hL _
  have hval : ∀ (j : Nat) t v, Tryz.f9.params[j]? = some t → args[j]? = some v → Value.okWide Tryz.prog W .any base t v := hval0
  have hW' := hW
  obtain ⟨p, q, hA0, hV, rfl, _, _⟩ := hW
  have hA : DataW.TrodAll enc Tryz.prog W 0 (fun _ => true) true Tryz.f9.params.toList args.toList ds p := hA0
  rw [Tryz.params9] at hA hval
  obtain ⟨v0, vs0, d0, ds0, p0, q0, hargs, rfl, rfl, h0, r0⟩ := trodAll_cons hA
  obtain ⟨v1, vs1, d1, ds1, p1, q1, rfl, rfl, rfl, h1, r1⟩ := trodAll_cons r0
  obtain ⟨rfl, rfl, rfl⟩ := trodAll_nil r1
  obtain rfl : args = #[v0, v1] := by cases args; simp_all
  obtain ⟨rfl, rfl⟩ := trodVars_none hV
  have k0 := h0
  have lt0 : ∀ x ∈ p0, x.block < W.heap.size := by obtain ⟨m, hm⟩ := k0; exact DataW.trod_lt m _ _ _ hm
  obtain ⟨a0, len0, cap0, rfl⟩ := okWide_slice Tryz.underlying22 (hval 0 22 v0 rfl rfl)
  obtain ⟨l0, rfl, hc0, hm0, hC0, hw0⟩ := read22 h0
  have k1 := h1
  have lt1 : ∀ x ∈ p1, x.block < W.heap.size := by obtain ⟨m, hm⟩ := k1; exact DataW.trod_lt m _ _ _ hm
  obtain ⟨Z1, e1, w1⟩ := open_array Tryz.underlying50 Tryz.underlying3 (by kernel_rfl) (by kernel_rfl) (hval 1 50 v1 rfl rfl) h1
  obtain rfl : v1 = .agg #[.int .i64 (Z1 0), .int .i64 (Z1 1)] := e1
  clear hA0 hval0
  obtain ⟨k, hk⟩ := Pure.PlanRanges l0 (Z1 0) (Z1 1) hm0 hw0 (rngI64 (w1 0 (by omega))) (rngI64 (w1 1 (by omega)))
  refine (dialtonelaw12_PlanRanges.calls k _ _ l0 (Z1 0) (Z1 1) true W hC0 hc0 (glb hL) hk).mono fun e W' ⟨he, bel⟩ => ?_
  subst he
  exact ⟨_, rfl, _, _, _, [], _, [], hW', trodAll_mk1 (shut_bool Tryz.underlying4 _), (trodAll_cons_mk (Below.trod laidOut (by kernel_rfl) (of_decide_eq_true (by kernel_rfl)) k0 bel lt0) (trodAll_cons_mk (Below.trod laidOut (by kernel_rfl) (of_decide_eq_true (by kernel_rfl)) k1 bel lt1) trodAll_mk0)), rfl, bel.frame _, fun h => by cases h⟩
theorem over : Rows.PlanRangesSaid :=
  OpenClaim.holds_of_wide 9 Tryz.f9 rfl rfl rfl rfl rfl rfl rfl ⟨rfl, rfl, rfl, rfl, rfl⟩ rfl rfl rfl rfl rfl (by kernel_rfl) Tryz.func9 (by kernel_rfl)
    (of_decide_eq_true (by kernel_rfl)) (by unfold Func.isWrapper; first | (rw [if_pos (by decide +kernel)]; kernel_rfl) | (rw [if_neg (by decide +kernel)]; exact ⟨rfl, rfl⟩))
    (fun os started H enc _ => lifted os started H enc)
theorem plain (f : FuncId) (fn : Func) (hf : Tryz.pinned.checked.prog.funcNamed "dialtone/dialtonelaw12.PlanRanges" = some f) (hfn : Tryz.pinned.checked.prog.funcs[f]? = some fn) :
    true = Tryz.pinned.checked.prog.looks [] ∧ ∀ (j : Nat) t, fn.params[j]? = some t → Tryz.pinned.checked.prog.wantsStandIn t = false := by
  obtain rfl : f = 9 := Option.some.inj ((show Tryz.prog.funcNamed "dialtone/dialtonelaw12.PlanRanges" = some 9 by kernel_rfl).symm.trans hf) |>.symm
  obtain rfl : fn = Tryz.f9 := (Option.some.inj (Tryz.func9.symm.trans hfn)).symm
  refine ⟨by kernel_rfl, fun j t ht => ?_⟩
  rw [Tryz.params9] at ht
  have hm : t ∈ [22, 50] := by simpa using Array.mem_of_getElem? ht
  have hall : ([22, 50].all fun u => !Tryz.prog.wantsStandIn u) = true := by kernel_rfl
  exact (show Tryz.prog.wantsStandIn t = false by simpa using List.all_eq_true.1 hall t hm)
theorem card : Rows.PlanRangesCardSaid :=
  Claim7.holds_tied_plain_at .later [] _ _ _ _ over (fun _ h => by cases h) (by kernel_rfl) (fun _ h => by cases h) planRanges_row_tie rfl ⟨rfl, rfl⟩ (by kernel_rfl) rfl plain (by kernel_rfl)
end Go.Proofs.YtlmfoblgheepoaaGreatDoor.planRanges
namespace Go.Proofs.YtlmfoblgheepoaaGreatDoor
theorem planRanges_holds : Rows.PlanRangesCardSaid := planRanges.card
end Go.Proofs.YtlmfoblgheepoaaGreatDoor
end
