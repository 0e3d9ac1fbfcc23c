/- Fo: part 3 of the proof that the law's row holds: the printed walk of the program's functions, the plain law, the row. -/
import Derived.Test.YtlmfoblgheepoaaGreatDoorRows
import Derived.Test.YtlmfoblgheepoaaGreatDoorTie
import Derived.Test.YtlmfoblgheepoaaGreatDoorCards
import Derived.WalkKit
import Derived.ProofKit
import Derived.OpenShut
import Derived.ShutString
import Derived.ChangeOld
import Derived.Below
import Derived.SizedLaws
import Derived.Lay
import Derived.LaidOnce
import Derived.SevenTiedAt
import Derived.LaidByTextLater
import Derived.Lib.LaidTab
import Derived.Lib.LaidU8
import Derived.Stop.Joined
import Derived.Test.YtlmfoblgheepoaaGreatDoorQUq2
import Derived.Test.YtlmfoblgheepoaaGreatDoorQFo1
section
namespace Go.Proofs.YtlmfoblgheepoaaGreatDoor.Row
open Go.ChangeShapes Go.WideShapes Go.ChangeAt Go.RowKit Go.Proofs.GOpen Go.Proofs.YtlmfoblgheepoaaGreatDoor.Pl Go.Proofs.YtlmfoblgheepoaaGreatDoorW.PrintWords
open Go.ChangeMaps (open_string shut_string)
set_option maxRecDepth 100000
theorem own : ownKnob Tryz.prog.godebug = none := by kernel_rfl
theorem laidOut : laidOutB Tryz.prog = true := by kernel_rfl
theorem rngI64 {n : Int} (h : (Lit.int .i64 n).wf = true) : -9223372036854775808 ≤ n ∧ n ≤ 9223372036854775807 := by simpa [Lit.wf, IntKind.min, IntKind.max, IntKind.signed, IntKind.bits] using h
def I64 (n : Int) : Prop := -9223372036854775808 ≤ n ∧ n ≤ 9223372036854775807
theorem gPow : Tryz.prog.globalNamed "internal/strconv.uint64pow10" = some 4 := by kernel_rfl
theorem gPowType : (Tryz.prog.globals[4]?).map (·.type) = some 154 := by kernel_rfl
theorem powData : (Rows.laid_internal_strconv_uint64pow10 : DataW Unit) = Lib.tabData .u64 Lib.pow10Tab := by rfl
theorem glb_of_reads {W : World} (h : Lib.VarReads Tryz.prog W "internal/strconv.uint64pow10" Rows.laid_internal_strconv_uint64pow10) : Glb W := by
  rw [powData] at h
  obtain ⟨g, t, cs, fuel, p, h1, h2, h3, h4⟩ := h
  obtain rfl := Option.some.inj (gPow.symm.trans h1)
  obtain rfl := Option.some.inj (gPowType.symm.trans h2)
  unfold Glb Lib.TabIs
  rw [h3, ← Lib.cells_of_tab Tryz.underlying154 Tryz.underlying123 (by kernel_rfl) (by kernel_rfl) h4]
theorem read22 {H : Type} {enc : TypeId × Value → H} {W : World} {base : Nat} {spare : Nat → Bool} {held : Bool} {a : Option Addr} {len cap : Nat} {d : DataW H} {p : List MemPlace} (h : DataW.Trod enc Tryz.prog W base spare held 22 (.slice a len cap) d p) :
    ∃ l : List S23, l.length = len ∧ len ≤ cap ∧ len ≤ 9223372036854775807 ∧ Kd.C k23 W a l.length l ∧ ∀ x ∈ l, I64 x.f0 ∧ I64 x.f1 ∧ I64 x.f2 := by
  rcases open_slice_arrays Tryz.underlying22 Tryz.underlying23 Tryz.underlying3 (by kernel_rfl) (by kernel_rfl) h with ⟨rfl, rfl, rfl⟩ | ⟨ad, rfl, hl, hm, Z, hZ⟩
  · exact ⟨[], rfl, Nat.le_refl _, by omega, ⟨rfl, by simp, fun h0 => absurd h0 (by simp)⟩, fun x hx => by cases hx⟩
  · unfold maxLen at hm
    have hlen : ((List.range len).map fun i => (⟨Z i 0, Z i 1, Z i 2⟩ : S23)).length = len := by simp
    refine ⟨(List.range len).map fun i => (⟨Z i 0, Z i 1, Z i 2⟩ : S23), hlen, hl, by omega, ⟨rfl, by rw [hlen]; omega, fun _ => ⟨ad, rfl, fun j x hx => ?_⟩⟩, fun x hx => ?_⟩
    · have hj : j < len := by have := (List.getElem?_eq_some_iff.1 hx).1; simpa using this
      obtain rfl : (⟨Z j 0, Z j 1, Z j 2⟩ : S23) = x := by simpa [hj] using hx
      refine ⟨[.int .i64 (Z j 0), .int .i64 (Z j 1), .int .i64 (Z j 2)], rfl, k23_mk _ _, fun q u hu => ?_⟩
      have hq : q < 3 := by have := (List.getElem?_eq_some_iff.1 hu).1; simpa using this
      show W.cell? (ad.add (j * 3 + q)) = some u
      rw [(hZ j hj q hq).1]
      match q, hq, hu with
      | 0, _, hu => exact hu
      | 1, _, hu => exact hu
      | 2, _, hu => exact hu
    · obtain ⟨i, hi, rfl⟩ := List.mem_map.1 hx
      have hi2 : i < len := by simpa using hi
      exact ⟨rngI64 (hZ i hi2 0 (by omega)).2, rngI64 (hZ i hi2 1 (by omega)).2, rngI64 (hZ i hi2 2 (by omega)).2⟩
theorem read25 {H : Type} {enc : TypeId × Value → H} {W : World} {base : Nat} {spare : Nat → Bool} {held : Bool} {a : Option Addr} {len cap : Nat} {d : DataW H} {p : List MemPlace} (h : DataW.Trod enc Tryz.prog W base spare held 25 (.slice a len cap) d p) :
    ∃ l : List Int, l.length = len ∧ len ≤ cap ∧ len ≤ 9223372036854775807 ∧ Kd.C (Kd.int .i64) W a l.length l ∧ ∀ x ∈ l, I64 x := by
  obtain ⟨fuel, hf⟩ := h
  rcases open_ints Tryz.underlying25 Tryz.underlying3 (by kernel_rfl) hf with ⟨hcs, _⟩ | ⟨ad, l, c, zs, hcs, _, hl, hm, hzl, _, hcell, hwf⟩
  · simp [Value.cells] at hcs
    obtain ⟨rfl, rfl, rfl⟩ := hcs
    exact ⟨[], rfl, Nat.le_refl _, by omega, ⟨rfl, by simp, fun h0 => absurd h0 (by simp)⟩, fun x hx => by cases hx⟩
  · simp [Value.cells] at hcs
    obtain ⟨rfl, rfl, rfl⟩ := hcs
    unfold maxLen at hm
    have hz : len ≤ zs.length := by rw [hzl]; split <;> omega
    have hlen : (zs.take len).length = len := by rw [List.length_take]; omega
    refine ⟨zs.take len, hlen, hl, by omega, ⟨rfl, by rw [hlen]; omega, fun _ => ⟨ad, rfl, fun j x hx => ?_⟩⟩, fun x hx => rngI64 (hwf x (List.mem_of_mem_take hx))⟩
    have hj : j < len := by have := (List.getElem?_eq_some_iff.1 hx).1; omega
    refine ⟨[.int .i64 x], rfl, rfl, fun q u hu => ?_⟩
    have hq : q = 0 := by have := (List.getElem?_eq_some_iff.1 hu).1; simpa using this
    subst hq
    show W.cell? (ad.add (j * 1 + 0)) = some u
    have hx' : zs[j]? = some x := by rw [List.getElem?_take] at hx; simpa [hj] using hx
    rw [Nat.mul_one, Nat.add_zero, hcell j (by omega), List.getD_eq_getElem?_getD, hx']
    simpa using hu
end Go.Proofs.YtlmfoblgheepoaaGreatDoor.Row
end
section
namespace Go.Proofs.YtlmfoblgheepoaaGreatDoor.Pure
open Go.RowKit Go.Proofs.YtlmfoblgheepoaaGreatDoorW.PrintWords Go.Proofs.YtlmfoblgheepoaaGreatDoorW.PrintLast Go.Proofs.YtlmfoblgheepoaaGreatDoorW.PrintMore Go.Proofs.YtlmfoblgheepoaaGreatDoor.Pl Go.Proofs.YtlmfoblgheepoaaGreatDoor.Row
set_option linter.unusedVariables false
set_option linter.unusedSimpArgs false
theorem PlanForms : ∀ (l0 : List S23) (a1_0 : Int) (a1_1 : Int) (l2 : List Int) (a3 : Int), l0.length ≤ 9223372036854775807 → (∀ x ∈ l0, I64 x.f0 ∧ I64 x.f1 ∧ I64 x.f2) → I64 a1_0 → I64 a1_1 → l2.length ≤ 9223372036854775807 → (∀ x ∈ l2, I64 x) → I64 a3 → ∃ k, dialtonelaw12_PlanForms.f k l0 a1_0 a1_1 l2 a3 = some true := by
  intro l0 a1_0 a1_1 l2 a3 hlen hl h10 h11 hlen2 hl2 h3
  apply Ev.rounds
  obtain ⟨p, hv, h8, evp⟩ := made_ev l0 hl
  obtain ⟨m, hm, evm⟩ := number_ev p hv a1_0 a1_1 h10 h11
  obtain ⟨r, lr, er⟩ := pick_lt a3 h3 3 (by decide)
  have er' : dialtonelaw12_pick.f a3 3 = some (r : Int) := er
  have hr := ph_of r lr
  obtain ⟨t, td, tl, t0, tle, tev⟩ := text_take l2 hl2 8 (by decide) hlen2
  have t0' : (0 : Int) ≤ mn (l2.length : Int) 8 := t0
  have tle' : mn (l2.length : Int) 8 ≤ l2.length := tle
  unfold dialtonelaw12_PlanForms.f
  refine Ev.bind sane_ev ?_
  simp only [if_true]
  refine Ev.bind evp ?_
  simp only [er', Option.bind_some]
  refine Ev.bind evm ?_
  refine Ev.bind (write_ev p hv m hm _ hr.1) ?_
  obtain ⟨wd, wl⟩ := wS_first hv m (wrap64 (1 + (r : Int)))
  have hph := hr.1
  generalize wrap64 (1 + (r : Int)) = ph at *
  have rest : Ev (fun k => dialtonelaw12_PlanForms.j0 k l2 p ph (b (wS p m ph).1)) true := by
    refine Ev.step (fun k => by rw [dialtonelaw12_PlanForms.j0]) ?_
    simp only [t0', tle', if_true]
    refine Ev.bind tev ?_
    have s1 : (b (wS p m ph).1).size + (b t).size ≤ 9223372036854775807 := by rw [b_size, b_size]; omega
    simp only [s1, if_true, b_append]
    have dd : digs ((wS p m ph).1 ++ t) = true := by rw [digs_append, wd, td]; rfl
    have dl : ((wS p m ph).1 ++ t).length ≤ 16 := by rw [List.length_append]; omega
    generalize (wS p m ph).1 ++ t = d at *
    refine Ev.bind (read_ev p hv ph hph d dd dl) ?_
    have fin : ∀ x : Bool, (x = true → (rS p d ph) = ((rS p d ph).1, 0, 0, 0, 0)) → (x = false → (rS p d ph).1 = 2) → Ev (fun k => dialtonelaw12_PlanForms.j1 k p ph (b d) (rS p d ph).2.2.2.2 x (rS p d ph).1 (rS p d ph).2.1 (rS p d ph).2.2.1 (rS p d ph).2.2.2.1) true := by
      intro x h1 h2
      refine Ev.step (fun k => by rw [dialtonelaw12_PlanForms.j1]) ?_
      cases x with
      | true =>
        rw [h1 rfl]
        simp
        exact Ev.now _
      | false =>
        simp only [Bool.false_eq_true, if_false]
        obtain ⟨N, used, hN, hn1, hu, hul, hw⟩ := read_form hv hph dd dl (h2 rfl)
        rw [hn1, hu]
        refine Ev.bind (write_ev p hv N hN 1 rfl) ?_
        refine Ev.bind (write_ev p hv N hN 3 rfl) ?_
        obtain ⟨f, hf3, hcase⟩ := hw
        have c1 : ¬ (used : Int) > (b d).size := by rw [b_size]; omega
        have c2 : (0 : Int) ≤ used := by omega
        have c3 : (used : Int) ≤ (b d).size := by rw [b_size]; omega
        simp only [hf3, if_true, c1, if_false, c2, c3, Int.toNat_natCast, ext_take, Lib.toList_data, b_data]
        rcases hcase with ⟨p1, e1⟩ | ⟨p3, e1⟩
        · simp only [e1, if_true, p1, if_false]
          exact Ev.now _
        · have p3' : (ph != 3) = true := bne_iff_ne.mpr p3
          simp only [e1, if_true, p3', b_data]
          refine ⟨0, fun k _ => ?_⟩
          split
          · split <;> rfl
          · rfl
    rcases rE_kind (ents_apt hv ph) d with ⟨h, _⟩ | ⟨h, _⟩ | ⟨e, he, hp, hl', h⟩
    · have hR : rS p d ph = (0, 0, 0, 0, 0) := h
      have e5 : (rS p d ph).2.2.2.2 = 0 := by rw [hR]
      have e1 : ((rS p d ph).1 != 2) = true := by rw [hR]; rfl
      simp only [e5, if_true, e1]
      have := fin true (fun _ => by rw [hR]) (fun h => by cases h)
      rw [e5] at this; exact this
    · have hR : rS p d ph = (1, 0, 0, 0, 0) := h
      have e5 : (rS p d ph).2.2.2.2 = 0 := by rw [hR]
      have e1 : ((rS p d ph).1 != 2) = true := by rw [hR]; rfl
      simp only [e5, if_true, e1]
      have := fin true (fun _ => by rw [hR]) (fun h => by cases h)
      rw [e5] at this; exact this
    · have hR : rS p d ph = hitS e d := h
      have e5 : (rS p d ph).2.2.2.2 = 0 := by rw [hR, hit_num hl']
      have e1 : ((rS p d ph).1 != 2) = false := by rw [hR, hit_num hl']; rfl
      simp only [e5, if_true, e1]
      have := fin false (fun h => by cases h) (fun _ => by rw [hR, hit_num hl'])
      rw [e5] at this; exact this
  rcases wS_form hv m ph with hW | ⟨f, e, hW, hF⟩
  · rw [hW] at rest ⊢
    have c1 : ¬ (120 : Int) = 0 := by decide
    simp only [c1, if_false]
    exact rest
  · rw [hW] at rest wl ⊢
    simp only [if_true]
    refine Ev.bind (read_ev p hv ph hph f hF.dig (by have wl' : f.length ≤ 8 := wl; omega)) ?_
    have hp12 : ph ≠ 1 → ph ≠ 1 := fun h => h
    have r1 := form_hit0 hv hm hF (ph' := ph) (fun h => by rw [h]; decide) hp12
    have i0 : ¬ e.idx < 0 := by rw [hF.idx]; omega
    have i1 : ¬ e.idx ≥ (p.length : Int) := by have := hF.i0; omega
    simp only [r1, if_true, b_size, i0, i1, if_false]
    exact rest
end Go.Proofs.YtlmfoblgheepoaaGreatDoor.Pure
end
section
namespace Go.Proofs.YtlmfoblgheepoaaGreatDoor.planForms
open Go.ChangeShapes Go.WideShapes Go.ChangeAt Go.RowKit Go.Proofs.GOpen Go.Proofs.YtlmfoblgheepoaaGreatDoor.Pl Go.Proofs.YtlmfoblgheepoaaGreatDoor.Row Go.Proofs.YtlmfoblgheepoaaGreatDoorW.PrintWords
open Go.ChangeMaps (open_string shut_string)
theorem glb {W : World} (h : laidMetH Tryz.prog Rows.planFormsRow.laid W) : Glb W := by
  rw [MakeChecks.laidMetH_plain _ _ _ (by kernel_rfl)] at h
  have hr := Lib.laidMet.reads h (n := "internal/strconv.uint64pow10") (d := Rows.laid_internal_strconv_uint64pow10) (by simp [Rows.planFormsRow])
  exact glb_of_reads hr
set_option maxRecDepth 100000 in
theorem lifted (os : Os) (started : os.Started) (H : Type) (enc : TypeId × Value → H) :
    ReturnsInHanded {} Tryz.checked os 7 .any (fun w args => (Rows.planFormsSpec.pre enc Tryz.prog Tryz.f7 [] false w args ∧ laidMetH Tryz.prog Rows.planFormsRow.laid w) ∧ sizedMet enc Tryz.prog Tryz.f7 (OpenSpec.ofChange Rows.planFormsSpec) false w args)
      (Rows.planFormsSpec.post enc Tryz.prog Tryz.f7 false true false false) := by
  refine returnsInHanded_of_change_and (C := Tryz.checked) (X := fun w _ => laidMetH Tryz.prog Rows.planFormsRow.laid w) (fun _ _ _ hh h => h.of_heap hh) own started (by kernel_rfl) Tryz.func7
    (ChangeSpec.witness_shaped (enc := enc) (C := Tryz.checked) (os := os) (X := fun w _ => laidMetH Tryz.prog Rows.planFormsRow.laid w) false (World.laidAll Tryz.prog os Rows.planFormsRow.laid) #[.slice none 0 0, .agg #[.int .i64 0, .int .i64 0], .slice none 0 0, .int .i64 0] 8 (World.laidAll_os _ _ _)
      (World.shaped_of_ZipB (by kernel_rfl) (by kernel_rfl)) (by kernel_rfl) (by kernel_rfl) (by kernel_rfl)
      (by rw [MakeChecks.laidMetH_plain _ _ _ (by kernel_rfl)]; exact laidMet_laidAll _ (by kernel_rfl) (by kernel_rfl))) ?_
  intro W base args ds gs before hval0 hW _ _ hL _
  have hval : ∀ (j : Nat) t v, Tryz.f7.params[j]? = some t → args[j]? = some v → Value.okWide Tryz.prog W .any base t v := hval0
  have hW' := hW
  obtain ⟨p, q, hA0, hV, rfl, _, _⟩ := hW
  have hA : DataW.TrodAll enc Tryz.prog W 0 (fun _ => true) true Tryz.f7.params.toList args.toList ds p := hA0
  rw [Tryz.params7] at hA hval
  obtain ⟨v0, vs0, d0, ds0, p0, q0, hargs, rfl, rfl, h0, r0⟩ := trodAll_cons hA
  obtain ⟨v1, vs1, d1, ds1, p1, q1, rfl, rfl, rfl, h1, r1⟩ := trodAll_cons r0
  obtain ⟨v2, vs2, d2, ds2, p2, q2, rfl, rfl, rfl, h2, r2⟩ := trodAll_cons r1
  obtain ⟨v3, vs3, d3, ds3, p3, q3, rfl, rfl, rfl, h3, r3⟩ := trodAll_cons r2
  obtain ⟨rfl, rfl, rfl⟩ := trodAll_nil r3
  obtain rfl : args = #[v0, v1, v2, v3] := by cases args; simp_all
  obtain ⟨rfl, rfl⟩ := trodVars_none hV
  have k0 := h0
  have lt0 : ∀ x ∈ p0, x.block < W.heap.size := by obtain ⟨m, hm⟩ := k0; exact DataW.trod_lt m _ _ _ hm
  obtain ⟨a0, len0, cap0, rfl⟩ := okWide_slice Tryz.underlying22 (hval 0 22 v0 rfl rfl)
  obtain ⟨l0, rfl, hc0, hm0, hC0, hw0⟩ := read22 h0
  have k1 := h1
  have lt1 : ∀ x ∈ p1, x.block < W.heap.size := by obtain ⟨m, hm⟩ := k1; exact DataW.trod_lt m _ _ _ hm
  obtain ⟨Z1, e1, w1⟩ := open_array Tryz.underlying50 Tryz.underlying3 (by kernel_rfl) (by kernel_rfl) (hval 1 50 v1 rfl rfl) h1
  obtain rfl : v1 = .agg #[.int .i64 (Z1 0), .int .i64 (Z1 1)] := e1
  have k2 := h2
  have lt2 : ∀ x ∈ p2, x.block < W.heap.size := by obtain ⟨m, hm⟩ := k2; exact DataW.trod_lt m _ _ _ hm
  obtain ⟨a2, len2, cap2, rfl⟩ := okWide_slice Tryz.underlying25 (hval 2 25 v2 rfl rfl)
  obtain ⟨l2, rfl, hc2, hm2, hC2, hw2⟩ := read25 h2
  have k3 := h3
  have lt3 : ∀ x ∈ p3, x.block < W.heap.size := by obtain ⟨m, hm⟩ := k3; exact DataW.trod_lt m _ _ _ hm
  obtain ⟨a3, rfl, rfl, rfl, w3⟩ := open_int Tryz.underlying3 (hval 3 3 v3 rfl rfl) h3
  clear hA0 hval0
  obtain ⟨k, hk⟩ := Pure.PlanForms l0 (Z1 0) (Z1 1) l2 a3 hm0 hw0 (rngI64 (w1 0 (by omega))) (rngI64 (w1 1 (by omega))) hm2 hw2 (rngI64 w3)
  refine (dialtonelaw12_PlanForms.calls k _ _ l0 (Z1 0) (Z1 1) _ _ l2 a3 true W hC0 hc0 hC2 hc2 (glb hL) hk).mono fun e W' ⟨he, bel⟩ => ?_
  subst he
  exact ⟨_, rfl, _, _, _, [], _, [], hW', trodAll_mk1 (shut_bool Tryz.underlying4 _), (trodAll_cons_mk (Below.trod laidOut (by kernel_rfl) (of_decide_eq_true (by kernel_rfl)) k0 bel lt0) (trodAll_cons_mk (Below.trod laidOut (by kernel_rfl) (of_decide_eq_true (by kernel_rfl)) k1 bel lt1) (trodAll_cons_mk (Below.trod laidOut (by kernel_rfl) (of_decide_eq_true (by kernel_rfl)) k2 bel lt2) (trodAll_cons_mk (Below.trod laidOut (by kernel_rfl) (of_decide_eq_true (by kernel_rfl)) k3 bel lt3) trodAll_mk0)))), rfl, bel.frame _, fun h => by cases h⟩
theorem over : Rows.PlanFormsSaid :=
  OpenClaim.holds_of_wide 7 Tryz.f7 rfl rfl rfl rfl rfl rfl rfl ⟨rfl, rfl, rfl, rfl, rfl⟩ rfl rfl rfl rfl rfl (by kernel_rfl) Tryz.func7 (by kernel_rfl)
    (of_decide_eq_true (by kernel_rfl)) (by unfold Func.isWrapper; first | (rw [if_pos (by decide +kernel)]; kernel_rfl) | (rw [if_neg (by decide +kernel)]; exact ⟨rfl, rfl⟩))
    (fun os started H enc _ => lifted os started H enc)
theorem plain (f : FuncId) (fn : Func) (hf : Tryz.pinned.checked.prog.funcNamed "dialtone/dialtonelaw12.PlanForms" = some f) (hfn : Tryz.pinned.checked.prog.funcs[f]? = some fn) :
    true = Tryz.pinned.checked.prog.looks [] ∧ ∀ (j : Nat) t, fn.params[j]? = some t → Tryz.pinned.checked.prog.wantsStandIn t = false := by
  obtain rfl : f = 7 := Option.some.inj ((show Tryz.prog.funcNamed "dialtone/dialtonelaw12.PlanForms" = some 7 by kernel_rfl).symm.trans hf) |>.symm
  obtain rfl : fn = Tryz.f7 := (Option.some.inj (Tryz.func7.symm.trans hfn)).symm
  refine ⟨by kernel_rfl, fun j t ht => ?_⟩
  rw [Tryz.params7] at ht
  have hm : t ∈ [22, 50, 25, 3] := by simpa using Array.mem_of_getElem? ht
  have hall : ([22, 50, 25, 3].all fun u => !Tryz.prog.wantsStandIn u) = true := by kernel_rfl
  exact (show Tryz.prog.wantsStandIn t = false by simpa using List.all_eq_true.1 hall t hm)
theorem card : Rows.PlanFormsCardSaid :=
  Claim7.holds_tied_plain_at .later [] _ _ _ _ over (fun _ h => by cases h) (by kernel_rfl) (fun _ h => by cases h) planForms_row_tie rfl ⟨rfl, rfl⟩ (by kernel_rfl) rfl plain (by kernel_rfl)
end Go.Proofs.YtlmfoblgheepoaaGreatDoor.planForms
namespace Go.Proofs.YtlmfoblgheepoaaGreatDoor
theorem planForms_holds : Rows.PlanFormsCardSaid := planForms.card
end Go.Proofs.YtlmfoblgheepoaaGreatDoor
end
