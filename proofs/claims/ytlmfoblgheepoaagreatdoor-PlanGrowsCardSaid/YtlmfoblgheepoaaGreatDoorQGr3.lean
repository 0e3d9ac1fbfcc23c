/- Gr: part 4 of the proof that the law's row holds: the printed walk of the program's functions, the plain law, the row. -/
import Derived.Test.YtlmfoblgheepoaaGreatDoorRows
import Derived.Test.YtlmfoblgheepoaaGreatDoorTie
import Derived.Test.YtlmfoblgheepoaaGreatDoorCards
import Derived.WalkKit
import Derived.ProofKit
import Derived.OpenShut
import Derived.ShutString
import Derived.ChangeOld
import Derived.Below
import Derived.SizedLaws
import Derived.Lay
import Derived.LaidOnce
import Derived.SevenTiedAt
import Derived.LaidByTextLater
import Derived.Lib.LaidTab
import Derived.Lib.LaidU8
import Derived.Stop.Joined
import Derived.Test.YtlmfoblgheepoaaGreatDoorQUq2
import Derived.Test.YtlmfoblgheepoaaGreatDoorQGr2
section
namespace Go.Proofs.YtlmfoblgheepoaaGreatDoor.Row
open Go.ChangeShapes Go.WideShapes Go.ChangeAt Go.RowKit Go.Proofs.GOpen Go.Proofs.YtlmfoblgheepoaaGreatDoor.Pl Go.Proofs.YtlmfoblgheepoaaGreatDoorW.PrintWords
open Go.ChangeMaps (open_string shut_string)
set_option maxRecDepth 100000
theorem own : ownKnob Tryz.prog.godebug = none := by kernel_rfl
theorem laidOut : laidOutB Tryz.prog = true := by kernel_rfl
theorem rngI64 {n : Int} (h : (Lit.int .i64 n).wf = true) : -9223372036854775808 ≤ n ∧ n ≤ 9223372036854775807 := by simpa [Lit.wf, IntKind.min, IntKind.max, IntKind.signed, IntKind.bits] using h
def I64 (n : Int) : Prop := -9223372036854775808 ≤ n ∧ n ≤ 9223372036854775807
theorem gPow : Tryz.prog.globalNamed "internal/strconv.uint64pow10" = some 4 := by kernel_rfl
theorem gPowType : (Tryz.prog.globals[4]?).map (·.type) = some 154 := by kernel_rfl
theorem powData : (Rows.laid_internal_strconv_uint64pow10 : DataW Unit) = Lib.tabData .u64 Lib.pow10Tab := by rfl
theorem glb_of_reads {W : World} (h : Lib.VarReads Tryz.prog W "internal/strconv.uint64pow10" Rows.laid_internal_strconv_uint64pow10) : Glb W := by
  rw [powData] at h
  obtain ⟨g, t, cs, fuel, p, h1, h2, h3, h4⟩ := h
  obtain rfl := Option.some.inj (gPow.symm.trans h1)
  obtain rfl := Option.some.inj (gPowType.symm.trans h2)
  unfold Glb Lib.TabIs
  rw [h3, ← Lib.cells_of_tab Tryz.underlying154 Tryz.underlying123 (by kernel_rfl) (by kernel_rfl) h4]
theorem read22 {H : Type} {enc : TypeId × Value → H} {W : World} {base : Nat} {spare : Nat → Bool} {held : Bool} {a : Option Addr} {len cap : Nat} {d : DataW H} {p : List MemPlace} (h : DataW.Trod enc Tryz.prog W base spare held 22 (.slice a len cap) d p) :
    ∃ l : List S23, l.length = len ∧ len ≤ cap ∧ len ≤ 9223372036854775807 ∧ Kd.C k23 W a l.length l ∧ ∀ x ∈ l, I64 x.f0 ∧ I64 x.f1 ∧ I64 x.f2 := by
  rcases open_slice_arrays Tryz.underlying22 Tryz.underlying23 Tryz.underlying3 (by kernel_rfl) (by kernel_rfl) h with ⟨rfl, rfl, rfl⟩ | ⟨ad, rfl, hl, hm, Z, hZ⟩
  · exact ⟨[], rfl, Nat.le_refl _, by omega, ⟨rfl, by simp, fun h0 => absurd h0 (by simp)⟩, fun x hx => by cases hx⟩
  · unfold maxLen at hm
    have hlen : ((List.range len).map fun i => (⟨Z i 0, Z i 1, Z i 2⟩ : S23)).length = len := by simp
    refine ⟨(List.range len).map fun i => (⟨Z i 0, Z i 1, Z i 2⟩ : S23), hlen, hl, by omega, ⟨rfl, by rw [hlen]; omega, fun _ => ⟨ad, rfl, fun j x hx => ?_⟩⟩, fun x hx => ?_⟩
    · have hj : j < len := by have := (List.getElem?_eq_some_iff.1 hx).1; simpa using this
      obtain rfl : (⟨Z j 0, Z j 1, Z j 2⟩ : S23) = x := by simpa [hj] using hx
      refine ⟨[.int .i64 (Z j 0), .int .i64 (Z j 1), .int .i64 (Z j 2)], rfl, k23_mk _ _, fun q u hu => ?_⟩
      have hq : q < 3 := by have := (List.getElem?_eq_some_iff.1 hu).1; simpa using this
      show W.cell? (ad.add (j * 3 + q)) = some u
      rw [(hZ j hj q hq).1]
      match q, hq, hu with
      | 0, _, hu => exact hu
      | 1, _, hu => exact hu
      | 2, _, hu => exact hu
    · obtain ⟨i, hi, rfl⟩ := List.mem_map.1 hx
      have hi2 : i < len := by simpa using hi
      exact ⟨rngI64 (hZ i hi2 0 (by omega)).2, rngI64 (hZ i hi2 1 (by omega)).2, rngI64 (hZ i hi2 2 (by omega)).2⟩
theorem read25 {H : Type} {enc : TypeId × Value → H} {W : World} {base : Nat} {spare : Nat → Bool} {held : Bool} {a : Option Addr} {len cap : Nat} {d : DataW H} {p : List MemPlace} (h : DataW.Trod enc Tryz.prog W base spare held 25 (.slice a len cap) d p) :
    ∃ l : List Int, l.length = len ∧ len ≤ cap ∧ len ≤ 9223372036854775807 ∧ Kd.C (Kd.int .i64) W a l.length l ∧ ∀ x ∈ l, I64 x := by
  obtain ⟨fuel, hf⟩ := h
  rcases open_ints Tryz.underlying25 Tryz.underlying3 (by kernel_rfl) hf with ⟨hcs, _⟩ | ⟨ad, l, c, zs, hcs, _, hl, hm, hzl, _, hcell, hwf⟩
  · simp [Value.cells] at hcs
    obtain ⟨rfl, rfl, rfl⟩ := hcs
    exact ⟨[], rfl, Nat.le_refl _, by omega, ⟨rfl, by simp, fun h0 => absurd h0 (by simp)⟩, fun x hx => by cases hx⟩
  · simp [Value.cells] at hcs
    obtain ⟨rfl, rfl, rfl⟩ := hcs
    unfold maxLen at hm
    have hz : len ≤ zs.length := by rw [hzl]; split <;> omega
    have hlen : (zs.take len).length = len := by rw [List.length_take]; omega
    refine ⟨zs.take len, hlen, hl, by omega, ⟨rfl, by rw [hlen]; omega, fun _ => ⟨ad, rfl, fun j x hx => ?_⟩⟩, fun x hx => rngI64 (hwf x (List.mem_of_mem_take hx))⟩
    have hj : j < len := by have := (List.getElem?_eq_some_iff.1 hx).1; omega
    refine ⟨[.int .i64 x], rfl, rfl, fun q u hu => ?_⟩
    have hq : q = 0 := by have := (List.getElem?_eq_some_iff.1 hu).1; simpa using this
    subst hq
    show W.cell? (ad.add (j * 1 + 0)) = some u
    have hx' : zs[j]? = some x := by rw [List.getElem?_take] at hx; simpa [hj] using hx
    rw [Nat.mul_one, Nat.add_zero, hcell j (by omega), List.getD_eq_getElem?_getD, hx']
    simpa using hu
end Go.Proofs.YtlmfoblgheepoaaGreatDoor.Row
end
section
namespace Go.Proofs.YtlmfoblgheepoaaGreatDoor.Pure
open Go.RowKit Go.Proofs.YtlmfoblgheepoaaGreatDoorW.PrintWords Go.Proofs.YtlmfoblgheepoaaGreatDoorW.PrintLast Go.Proofs.YtlmfoblgheepoaaGreatDoorW.PrintMore Go.Proofs.YtlmfoblgheepoaaGreatDoor.Pl Go.Proofs.YtlmfoblgheepoaaGreatDoor.Row
set_option linter.unusedVariables false
set_option linter.unusedSimpArgs false
theorem write_bad (p : List S29) (hs : smallP p) (hl : p.length < 3518437208883) (hv : vp p = false) (m ph : Int) : Ev (fun k => plan_Write.f k p m ph) (b [], 120) := by
  unfold plan_Write.f
  refine Ev.bind (valid_ev p hl hs) ?_
  simp only [hv, Bool.false_eq_true, if_false]
  refine Ev.step (fun k => by rw [plan_Write.j0]) ?_
  simp only [if_true]
  exact Ev.now _
theorem wS_grow {p : List S29} {c : S29} {m : Nat} {ph : Int} {f : D} (h : wS p m ph = (f, 0)) : wS (p ++ [c]) m ph = (f, 0) := by
  cases hf : p.find? (fun c => (cn c).isPrefixOf (eightK 8 m)) with
  | none => rw [wS_none hf] at h; simp at h
  | some d =>
    rw [wS_some hf] at h
    have : (p ++ [c]).find? (fun c => (cn c).isPrefixOf (eightK 8 m)) = some d := by rw [List.find?_append, hf]; rfl
    rw [wS_some this]; exact h
theorem PlanGrows : ∀ (l0 : List S23) (a1_0 : Int) (a1_1 : Int) (a1_2 : Int) (a2_0 : Int) (a2_1 : Int) (a3 : Int) (l4 : List Int), l0.length ≤ 9223372036854775807 → (∀ x ∈ l0, I64 x.f0 ∧ I64 x.f1 ∧ I64 x.f2) → I64 a1_0 → I64 a1_1 → I64 a1_2 → I64 a2_0 → I64 a2_1 → I64 a3 → l4.length ≤ 9223372036854775807 → (∀ x ∈ l4, I64 x) → ∃ k, dialtonelaw12_PlanGrows.f k l0 a1_0 a1_1 a1_2 a2_0 a2_1 a3 l4 = some true := by
  intro l0 a1_0 a1_1 a1_2 a2_0 a2_1 a3 l4 hlen hl h10 h11 h12 h20 h21 h3 hlen4 hl4
  apply Ev.rounds
  obtain ⟨p, hv, h8, evp⟩ := made_ev l0 hl
  obtain ⟨c, hc, hcj, evc⟩ := one_made a1_0 a1_1 a1_2 h10 h11 h12
  obtain ⟨m, hm, evm⟩ := number_ev p hv a2_0 a2_1 h20 h21
  obtain ⟨r, lr, er⟩ := pick_lt a3 h3 3 (by decide)
  have er' : dialtonelaw12_pick.f a3 3 = some (r : Int) := er
  have hr := ph_of r lr
  obtain ⟨t, td, tl, t0, tle, tev⟩ := text_take l4 hl4 8 (by decide) hlen4
  have t0' : (0 : Int) ≤ mn (l4.length : Int) 8 := t0
  have tle' : mn (l4.length : Int) 8 ≤ l4.length := tle
  have hsq : smallP (p ++ [c]) := by
    intro d hd
    rcases List.mem_append.mp hd with hd | hd
    · exact vp_small hv d hd
    · rw [List.mem_singleton.mp hd]
      have a := hc.s0; have a' := hc.s1
      omega
  have hql : (p ++ [c]).length < 3518437208883 := by rw [List.length_append]; simp; omega
  have g1 : 0 + p.length < 3518437208883 := by omega
  have g2 : p.length < 3518437208883 := by omega
  have hnil : (b []).toList = ([] : D) := by rw [Lib.toList_data, b_data]
  unfold dialtonelaw12_PlanGrows.f
  refine Ev.bind sane_ev ?_
  simp only [if_true]
  refine Ev.bind evp ?_
  simp only [Option.bind_some, List.length_nil, List.nil_append, g1, g2, if_true]
  refine Ev.bind evc ?_
  simp only [er', Option.bind_some]
  refine Ev.bind evm ?_
  refine Ev.bind (write_ev p hv m hm _ hr.1) ?_
  have hph := hr.1
  generalize wrap64 (1 + (r : Int)) = ph at *
  have hqd : (⟨c.f0, c.f1, c.f2⟩ : S29) = c := rfl
  simp only [hqd]
  cases hvq : vp (p ++ [c]) with
  | false =>
    refine Ev.bind (write_bad _ hsq hql hvq _ _) ?_
    refine Ev.bind (valid_ev _ hql hsq) ?_
    simp only [hvq, Bool.false_eq_true, if_false, if_true, hnil]
    exact Ev.now _
  | true =>
    refine Ev.bind (write_ev _ hvq m hm ph hph) ?_
    refine Ev.bind (valid_ev _ hql hsq) ?_
    simp only [hvq, if_true]
    rcases wS_form hv m ph with hW | ⟨f, e, hW, hF⟩
    · rw [hW]
      have c1 : ¬ (120 : Int) = 0 := by decide
      simp only [c1, if_false]
      exact Ev.now _
    · have hWq := wS_grow (c := c) hW
      obtain ⟨wd, wl⟩ := wS_first hv m ph
      rw [hW] at wd wl
      have wd' : digs f = true := wd
      have wl' : f.length ≤ 8 := wl
      rcases wS_form hvq m ph with hQ | ⟨g, e', hQ, hG⟩
      · rw [hWq] at hQ; have : (0 : Int) = 120 := (Prod.mk.inj hQ).2; omega
      · have hgf : g = f := by rw [hWq] at hQ; exact (Prod.mk.inj hQ).1.symm
        subst hgf
        rw [hW, hWq]
        simp only [if_true, t0', tle']
        refine Ev.bind tev ?_
        have s1 : (b g).size + (b t).size ≤ 9223372036854775807 := by rw [b_size, b_size]; omega
        simp only [s1, if_true, b_append]
        have dd : digs (g ++ t) = true := by rw [digs_append, wd', td]; rfl
        have dl : (g ++ t).length ≤ 16 := by rw [List.length_append]; omega
        refine Ev.bind (read_ev p hv ph hph _ dd dl) ?_
        refine Ev.bind tev ?_
        simp only [s1, if_true, b_append]
        refine Ev.bind (read_ev _ hvq ph hph _ dd dl) ?_
        have r1 := form_hit hv hm hF (ph' := ph) (fun h => by rw [h]; decide) (fun h => h) t
        have r2 := form_hit hvq hm hG (ph' := ph) (fun h => by rw [h]; decide) (fun h => h) t
        have hid : e.idx = e'.idx := by
          rw [hF.idx, hG.idx]
          have hi := hF.i0
          rw [hF.idx] at hi
          rw [List.findIdx_append, if_pos (by omega)]
        simp only [r1, r2, if_true, hid, beq_self_eq_true, Bool.and_self]
        exact Ev.now _
end Go.Proofs.YtlmfoblgheepoaaGreatDoor.Pure
end
section
namespace Go.Proofs.YtlmfoblgheepoaaGreatDoor.planGrows
open Go.ChangeShapes Go.WideShapes Go.ChangeAt Go.RowKit Go.Proofs.GOpen Go.Proofs.YtlmfoblgheepoaaGreatDoor.Pl Go.Proofs.YtlmfoblgheepoaaGreatDoor.Row Go.Proofs.YtlmfoblgheepoaaGreatDoorW.PrintWords
open Go.ChangeMaps (open_string shut_string)
theorem glb {W : World} (h : laidMetH Tryz.prog Rows.planGrowsRow.laid W) : Glb W := by
  rw [MakeChecks.laidMetH_plain _ _ _ (by kernel_rfl)] at h
  have hr := Lib.laidMet.reads h (n := "internal/strconv.uint64pow10") (d := Rows.laid_internal_strconv_uint64pow10) (by simp [Rows.planGrowsRow])
  exact glb_of_reads hr
set_option maxRecDepth 100000 in
theorem lifted (os : Os) (started : os.Started) (H : Type) (enc : TypeId × Value → H) :
    ReturnsInHanded {} Tryz.checked os 10 .any (fun w args => (Rows.planGrowsSpec.pre enc Tryz.prog Tryz.f10 [] false w args ∧ laidMetH Tryz.prog Rows.planGrowsRow.laid w) ∧ sizedMet enc Tryz.prog Tryz.f10 (OpenSpec.ofChange Rows.planGrowsSpec) false w args)
      (Rows.planGrowsSpec.post enc Tryz.prog Tryz.f10 false true false false) := by
  refine returnsInHanded_of_change_and (C := Tryz.checked) (X := fun w _ => laidMetH Tryz.prog Rows.planGrowsRow.laid w) (fun _ _ _ hh h => h.of_heap hh) own started (by kernel_rfl) Tryz.func10
    (ChangeSpec.witness_shaped (enc := enc) (C := Tryz.checked) (os := os) (X := fun w _ => laidMetH Tryz.prog Rows.planGrowsRow.laid w) false (World.laidAll Tryz.prog os Rows.planGrowsRow.laid) #[.slice none 0 0, .agg #[.int .i64 0, .int .i64 0, .int .i64 0], .agg #[.int .i64 0, .int .i64 0], .int .i64 0, .slice none 0 0] 8 (World.laidAll_os _ _ _)
      (World.shaped_of_ZipB (by kernel_rfl) (by kernel_rfl)) (by kernel_rfl) (by kernel_rfl) (by kernel_rfl)
      (by rw [MakeChecks.laidMetH_plain _ _ _ (by kernel_rfl)]; exact laidMet_laidAll _ (by kernel_rfl) (by kernel_rfl))) ?_
  intro W base args ds gs before hval0 hW _ _ hL _
  have hval : ∀ (j : Nat) t v, Tryz.f10.params[j]? = some t → args[j]? = some v → Value.okWide Tryz.prog W .any base t v := hval0
  have hW' := hW
  obtain ⟨p, q, hA0, hV, rfl, _, _⟩ := hW
  have hA : DataW.TrodAll enc Tryz.prog W 0 (fun _ => true) true Tryz.f10.params.toList args.toList ds p := hA0
  rw [Tryz.params10] at hA hval
  obtain ⟨v0, vs0, d0, ds0, p0, q0, hargs, rfl, rfl, h0, r0⟩ := trodAll_cons hA
  obtain ⟨v1, vs1, d1, ds1, p1, q1, rfl, rfl, rfl, h1, r1⟩ := trodAll_cons r0
  obtain ⟨v2, vs2, d2, ds2, p2, q2, rfl, rfl, rfl, h2, r2⟩ := trodAll_cons r1
  obtain ⟨v3, vs3, d3, ds3, p3, q3, rfl, rfl, rfl, h3, r3⟩ := trodAll_cons r2
  obtain ⟨v4, vs4, d4, ds4, p4, q4, rfl, rfl, rfl, h4, r4⟩ := trodAll_cons r3
  obtain ⟨rfl, rfl, rfl⟩ := trodAll_nil r4
  obtain rfl : args = #[v0, v1, v2, v3, v4] := by cases args; simp_all
  obtain ⟨rfl, rfl⟩ := trodVars_none hV
  have k0 := h0
  have lt0 : ∀ x ∈ p0, x.block < W.heap.size := by obtain ⟨m, hm⟩ := k0; exact DataW.trod_lt m _ _ _ hm
  obtain ⟨a0, len0, cap0, rfl⟩ := okWide_slice Tryz.underlying22 (hval 0 22 v0 rfl rfl)
  obtain ⟨l0, rfl, hc0, hm0, hC0, hw0⟩ := read22 h0
  have k1 := h1
  have lt1 : ∀ x ∈ p1, x.block < W.heap.size := by obtain ⟨m, hm⟩ := k1; exact DataW.trod_lt m _ _ _ hm
  obtain ⟨Z1, e1, w1⟩ := open_array Tryz.underlying23 Tryz.underlying3 (by kernel_rfl) (by kernel_rfl) (hval 1 23 v1 rfl rfl) h1
  obtain rfl : v1 = .agg #[.int .i64 (Z1 0), .int .i64 (Z1 1), .int .i64 (Z1 2)] := e1
  have k2 := h2
  have lt2 : ∀ x ∈ p2, x.block < W.heap.size := by obtain ⟨m, hm⟩ := k2; exact DataW.trod_lt m _ _ _ hm
  obtain ⟨Z2, e2, w2⟩ := open_array Tryz.underlying50 Tryz.underlying3 (by kernel_rfl) (by kernel_rfl) (hval 2 50 v2 rfl rfl) h2
  obtain rfl : v2 = .agg #[.int .i64 (Z2 0), .int .i64 (Z2 1)] := e2
  have k3 := h3
  have lt3 : ∀ x ∈ p3, x.block < W.heap.size := by obtain ⟨m, hm⟩ := k3; exact DataW.trod_lt m _ _ _ hm
  obtain ⟨a3, rfl, rfl, rfl, w3⟩ := open_int Tryz.underlying3 (hval 3 3 v3 rfl rfl) h3
  have k4 := h4
  have lt4 : ∀ x ∈ p4, x.block < W.heap.size := by obtain ⟨m, hm⟩ := k4; exact DataW.trod_lt m _ _ _ hm
  obtain ⟨a4, len4, cap4, rfl⟩ := okWide_slice Tryz.underlying25 (hval 4 25 v4 rfl rfl)
  obtain ⟨l4, rfl, hc4, hm4, hC4, hw4⟩ := read25 h4
  clear hA0 hval0
  obtain ⟨k, hk⟩ := Pure.PlanGrows l0 (Z1 0) (Z1 1) (Z1 2) (Z2 0) (Z2 1) a3 l4 hm0 hw0 (rngI64 (w1 0 (by omega))) (rngI64 (w1 1 (by omega))) (rngI64 (w1 2 (by omega))) (rngI64 (w2 0 (by omega))) (rngI64 (w2 1 (by omega))) (rngI64 w3) hm4 hw4
  refine (dialtonelaw12_PlanGrows.calls k _ _ l0 (Z1 0) (Z1 1) (Z1 2) (Z2 0) (Z2 1) a3 _ _ l4 true W hC0 hc0 hC4 hc4 (glb hL) hk).mono fun e W' ⟨he, bel⟩ => ?_
  subst he
  exact ⟨_, rfl, _, _, _, [], _, [], hW', trodAll_mk1 (shut_bool Tryz.underlying4 _), (trodAll_cons_mk (Below.trod laidOut (by kernel_rfl) (of_decide_eq_true (by kernel_rfl)) k0 bel lt0) (trodAll_cons_mk (Below.trod laidOut (by kernel_rfl) (of_decide_eq_true (by kernel_rfl)) k1 bel lt1) (trodAll_cons_mk (Below.trod laidOut (by kernel_rfl) (of_decide_eq_true (by kernel_rfl)) k2 bel lt2) (trodAll_cons_mk (Below.trod laidOut (by kernel_rfl) (of_decide_eq_true (by kernel_rfl)) k3 bel lt3) (trodAll_cons_mk (Below.trod laidOut (by kernel_rfl) (of_decide_eq_true (by kernel_rfl)) k4 bel lt4) trodAll_mk0))))), rfl, bel.frame _, fun h => by cases h⟩
theorem over : Rows.PlanGrowsSaid :=
  OpenClaim.holds_of_wide 10 Tryz.f10 rfl rfl rfl rfl rfl rfl rfl ⟨rfl, rfl, rfl, rfl, rfl⟩ rfl rfl rfl rfl rfl (by kernel_rfl) Tryz.func10 (by kernel_rfl)
    (of_decide_eq_true (by kernel_rfl)) (by unfold Func.isWrapper; first | (rw [if_pos (by decide +kernel)]; kernel_rfl) | (rw [if_neg (by decide +kernel)]; exact ⟨rfl, rfl⟩))
    (fun os started H enc _ => lifted os started H enc)
theorem plain (f : FuncId) (fn : Func) (hf : Tryz.pinned.checked.prog.funcNamed "dialtone/dialtonelaw12.PlanGrows" = some f) (hfn : Tryz.pinned.checked.prog.funcs[f]? = some fn) :
    true = Tryz.pinned.checked.prog.looks [] ∧ ∀ (j : Nat) t, fn.params[j]? = some t → Tryz.pinned.checked.prog.wantsStandIn t = false := by
  obtain rfl : f = 10 := Option.some.inj ((show Tryz.prog.funcNamed "dialtone/dialtonelaw12.PlanGrows" = some 10 by kernel_rfl).symm.trans hf) |>.symm
  obtain rfl : fn = Tryz.f10 := (Option.some.inj (Tryz.func10.symm.trans hfn)).symm
  refine ⟨by kernel_rfl, fun j t ht => ?_⟩
  rw [Tryz.params10] at ht
  have hm : t ∈ [22, 23, 50, 3, 25] := by simpa using Array.mem_of_getElem? ht
  have hall : ([22, 23, 50, 3, 25].all fun u => !Tryz.prog.wantsStandIn u) = true := by kernel_rfl
  exact (show Tryz.prog.wantsStandIn t = false by simpa using List.all_eq_true.1 hall t hm)
theorem card : Rows.PlanGrowsCardSaid :=
  Claim7.holds_tied_plain_at .later [] _ _ _ _ over (fun _ h => by cases h) (by kernel_rfl) (fun _ h => by cases h) planGrows_row_tie rfl ⟨rfl, rfl⟩ (by kernel_rfl) rfl plain (by kernel_rfl)
end Go.Proofs.YtlmfoblgheepoaaGreatDoor.planGrows
namespace Go.Proofs.YtlmfoblgheepoaaGreatDoor
theorem planGrows_holds : Rows.PlanGrowsCardSaid := planGrows.card
end Go.Proofs.YtlmfoblgheepoaaGreatDoor
end
