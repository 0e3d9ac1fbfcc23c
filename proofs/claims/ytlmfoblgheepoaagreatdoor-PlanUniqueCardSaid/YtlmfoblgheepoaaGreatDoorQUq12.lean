/- Uq: part 13 of the proof that the law's row holds: the printed walk of the program's functions, the plain law, the row. -/
import Derived.Test.YtlmfoblgheepoaaGreatDoorRows
import Derived.Test.YtlmfoblgheepoaaGreatDoorTie
import Derived.Test.YtlmfoblgheepoaaGreatDoorCards
import Derived.WalkKit
import Derived.ProofKit
import Derived.OpenShut
import Derived.ShutString
import Derived.ChangeOld
import Derived.Below
import Derived.SizedLaws
import Derived.Lay
import Derived.LaidOnce
import Derived.SevenTiedAt
import Derived.LaidByTextLater
import Derived.Lib.LaidTab
import Derived.Lib.LaidU8
import Derived.Stop.Joined
import Derived.Test.YtlmfoblgheepoaaGreatDoorQUq2
import Derived.Test.YtlmfoblgheepoaaGreatDoorQUq11
section
namespace Go.Proofs.YtlmfoblgheepoaaGreatDoor.Row
open Go.ChangeShapes Go.WideShapes Go.ChangeAt Go.RowKit Go.Proofs.GOpen Go.Proofs.YtlmfoblgheepoaaGreatDoor.Pl Go.Proofs.YtlmfoblgheepoaaGreatDoorW.PrintWords
open Go.ChangeMaps (open_string shut_string)
set_option maxRecDepth 100000
theorem own : ownKnob Tryz.prog.godebug = none := by kernel_rfl
theorem laidOut : laidOutB Tryz.prog = true := by kernel_rfl
theorem rngI64 {n : Int} (h : (Lit.int .i64 n).wf = true) : -9223372036854775808 ≤ n ∧ n ≤ 9223372036854775807 := by simpa [Lit.wf, IntKind.min, IntKind.max, IntKind.signed, IntKind.bits] using h
def I64 (n : Int) : Prop := -9223372036854775808 ≤ n ∧ n ≤ 9223372036854775807
theorem gPow : Tryz.prog.globalNamed "internal/strconv.uint64pow10" = some 4 := by kernel_rfl
theorem gPowType : (Tryz.prog.globals[4]?).map (·.type) = some 154 := by kernel_rfl
theorem powData : (Rows.laid_internal_strconv_uint64pow10 : DataW Unit) = Lib.tabData .u64 Lib.pow10Tab := by rfl
theorem glb_of_reads {W : World} (h : Lib.VarReads Tryz.prog W "internal/strconv.uint64pow10" Rows.laid_internal_strconv_uint64pow10) : Glb W := by
  rw [powData] at h
  obtain ⟨g, t, cs, fuel, p, h1, h2, h3, h4⟩ := h
  obtain rfl := Option.some.inj (gPow.symm.trans h1)
  obtain rfl := Option.some.inj (gPowType.symm.trans h2)
  unfold Glb Lib.TabIs
  rw [h3, ← Lib.cells_of_tab Tryz.underlying154 Tryz.underlying123 (by kernel_rfl) (by kernel_rfl) h4]
theorem read22 {H : Type} {enc : TypeId × Value → H} {W : World} {base : Nat} {spare : Nat → Bool} {held : Bool} {a : Option Addr} {len cap : Nat} {d : DataW H} {p : List MemPlace} (h : DataW.Trod enc Tryz.prog W base spare held 22 (.slice a len cap) d p) :
    ∃ l : List S23, l.length = len ∧ len ≤ cap ∧ len ≤ 9223372036854775807 ∧ Kd.C k23 W a l.length l ∧ ∀ x ∈ l, I64 x.f0 ∧ I64 x.f1 ∧ I64 x.f2 := by
  rcases open_slice_arrays Tryz.underlying22 Tryz.underlying23 Tryz.underlying3 (by kernel_rfl) (by kernel_rfl) h with ⟨rfl, rfl, rfl⟩ | ⟨ad, rfl, hl, hm, Z, hZ⟩
  · exact ⟨[], rfl, Nat.le_refl _, by omega, ⟨rfl, by simp, fun h0 => absurd h0 (by simp)⟩, fun x hx => by cases hx⟩
  · unfold maxLen at hm
    have hlen : ((List.range len).map fun i => (⟨Z i 0, Z i 1, Z i 2⟩ : S23)).length = len := by simp
    refine ⟨(List.range len).map fun i => (⟨Z i 0, Z i 1, Z i 2⟩ : S23), hlen, hl, by omega, ⟨rfl, by rw [hlen]; omega, fun _ => ⟨ad, rfl, fun j x hx => ?_⟩⟩, fun x hx => ?_⟩
    · have hj : j < len := by have := (List.getElem?_eq_some_iff.1 hx).1; simpa using this
      obtain rfl : (⟨Z j 0, Z j 1, Z j 2⟩ : S23) = x := by simpa [hj] using hx
      refine ⟨[.int .i64 (Z j 0), .int .i64 (Z j 1), .int .i64 (Z j 2)], rfl, k23_mk _ _, fun q u hu => ?_⟩
      have hq : q < 3 := by have := (List.getElem?_eq_some_iff.1 hu).1; simpa using this
      show W.cell? (ad.add (j * 3 + q)) = some u
      rw [(hZ j hj q hq).1]
      match q, hq, hu with
      | 0, _, hu => exact hu
      | 1, _, hu => exact hu
      | 2, _, hu => exact hu
    · obtain ⟨i, hi, rfl⟩ := List.mem_map.1 hx
      have hi2 : i < len := by simpa using hi
      exact ⟨rngI64 (hZ i hi2 0 (by omega)).2, rngI64 (hZ i hi2 1 (by omega)).2, rngI64 (hZ i hi2 2 (by omega)).2⟩
end Go.Proofs.YtlmfoblgheepoaaGreatDoor.Row
end
section
namespace Go.Proofs.YtlmfoblgheepoaaGreatDoor.Pure
open Go.RowKit Go.Proofs.YtlmfoblgheepoaaGreatDoorW.PrintWords Go.Proofs.YtlmfoblgheepoaaGreatDoorW.PrintLast Go.Proofs.YtlmfoblgheepoaaGreatDoorW.PrintMore Go.Proofs.YtlmfoblgheepoaaGreatDoor.Pl Go.Proofs.YtlmfoblgheepoaaGreatDoor.Row
set_option linter.unusedVariables false
set_option linter.unusedSimpArgs false
theorem lbegins_eq (x y : ByteArray) : dialtonelaw12_begins.f x y = some (x.data.toList.isPrefixOf y.data.toList) := begins_eq x y
theorem PlanUnique : ∀ (l0 : List S23) (a1_0 : Int) (a1_1 : Int) (a2_0 : Int) (a2_1 : Int) (a3 : Int) (a4 : Int), l0.length ≤ 9223372036854775807 → (∀ x ∈ l0, I64 x.f0 ∧ I64 x.f1 ∧ I64 x.f2) → I64 a1_0 → I64 a1_1 → I64 a2_0 → I64 a2_1 → I64 a3 → I64 a4 → ∃ k, dialtonelaw12_PlanUnique.f k l0 a1_0 a1_1 a2_0 a2_1 a3 a4 = some true := by
  intro l0 a1_0 a1_1 a2_0 a2_1 a3 a4 hlen hl h10 h11 h20 h21 h3 h4
  apply Ev.rounds
  obtain ⟨p, hv, h8, evp⟩ := made_ev l0 hl
  obtain ⟨m, hm, evm⟩ := number_ev p hv a1_0 a1_1 h10 h11
  obtain ⟨n, hn, evn⟩ := number_ev p hv a2_0 a2_1 h20 h21
  obtain ⟨r, lr, er⟩ := pick_lt a3 h3 3 (by decide)
  obtain ⟨q, lq, eq⟩ := pick_lt a4 h4 3 (by decide)
  have er' : dialtonelaw12_pick.f a3 3 = some (r : Int) := er
  have eq' : dialtonelaw12_pick.f a4 3 = some (q : Int) := eq
  have hr := ph_of r lr
  have hq := ph_of q lq
  unfold dialtonelaw12_PlanUnique.f
  refine Ev.bind sane_ev ?_
  simp only [if_true]
  refine Ev.bind evp ?_
  refine Ev.bind evm ?_
  refine Ev.bind evn ?_
  simp only [er', eq', Option.bind_some]
  refine Ev.bind (write_ev p hv m hm _ hr.1) ?_
  refine Ev.bind (write_ev p hv n hn _ hq.1) ?_
  generalize wrap64 (1 + (r : Int)) = ph
  generalize wrap64 (1 + (q : Int)) = qh
  have hnil : (b []).toList = ([] : D) := by rw [Lib.toList_data, b_data]
  rcases wS_form hv m ph with hW | ⟨f, e, hW, hF⟩
  · simp only [hW]
    have c1 : ¬ (120 : Int) = 0 := by decide
    simp only [c1, if_false]
    refine Ev.step (fun k => by rw [dialtonelaw12_PlanUnique.j0]) ?_
    simp only [if_true, c1, if_false, hnil]
    rcases wS_form hv n qh with hV | ⟨g, e', hV, hG⟩
    · simp only [hV, c1, if_false, if_true, hnil]
      exact Ev.now _
    · simp only [hV, if_true]
      exact Ev.now _
  · simp only [hW, if_true]
    rcases wS_form hv n qh with hV | ⟨g, e', hV, hG⟩
    · have c1 : ¬ (120 : Int) = 0 := by decide
      simp only [hV]
      have c2 : ((120 : Int) != 0) = true := rfl
      simp only [c2]
      refine Ev.step (fun k => by rw [dialtonelaw12_PlanUnique.j0]) ?_
      simp only [if_true, c1, if_false, hnil]
      exact Ev.now _
    · simp only [hV]
      have c2 : ((0 : Int) != 0) = false := rfl
      simp only [c2]
      refine Ev.step (fun k => by rw [dialtonelaw12_PlanUnique.j0]) ?_
      simp only [Bool.false_eq_true, if_false]
      have fin : ∀ x : Bool, (x = true → f = g) → (x = false → ¬ f <+: g ∧ ¬ g <+: f) → Ev (fun k => dialtonelaw12_PlanUnique.j1 k (b f) (b g) x) true := by
        intro x h1 h2
        refine Ev.step (fun k => by rw [dialtonelaw12_PlanUnique.j1]) ?_
        cases x with
        | true =>
          simp only [if_true, h1 rfl]
          simp
          exact Ev.now _
        | false =>
          have e1 : f.isPrefixOf g = false := by
            rw [Bool.eq_false_iff]; intro h; exact (h2 rfl).1 (List.isPrefixOf_iff_prefix.mp h)
          have e2 : g.isPrefixOf f = false := by
            rw [Bool.eq_false_iff]; intro h; exact (h2 rfl).2 (List.isPrefixOf_iff_prefix.mp h)
          simp only [Bool.false_eq_true, if_false, lbegins_eq, b_data, Option.bind_some, e1, e2]
          exact Ev.now _
      have un1 := fun h => unique hv hm hn hF hG (f := f) (g := g) h
      have un2 := fun h => unique hv hn hm hG hF (f := g) (g := f) h
      by_cases hmn : m = n
      · have hmn' : (m : Int) = n := by omega
        simp only [hmn', if_true]
        refine fin _ (fun hx => ?_) (fun hx => ?_)
        · have hx' : (ph = 1) ↔ (qh = 1) := by
            have := eq_of_beq hx
            rw [Bool.eq_iff_iff, beq_iff_eq, beq_iff_eq] at this
            exact this
          rw [← hmn] at hV
          by_cases h1 : ph = 1
          · rw [h1] at hW; rw [hx'.mp h1] at hV
            rw [hW] at hV
            exact (Prod.mk.inj hV).1
          · have h2 : ¬ qh = 1 := fun h => h1 (hx'.mpr h)
            rw [(hF.new h1).2, (hG.new h2).2, hmn]
        · have hx' : ¬ ((ph = 1) ↔ (qh = 1)) := by
            intro h
            have : (ph == 1) = (qh == 1) := by rw [Bool.eq_iff_iff, beq_iff_eq, beq_iff_eq]; exact h
            rw [this] at hx; simp at hx
          exact ⟨fun h => hx' (un1 h).2.1, fun h => hx' (un2 h).2.1.symm⟩
      · have hmn' : ¬ (m : Int) = n := by omega
        simp only [hmn', if_false]
        exact fin _ (fun h => by cases h) (fun _ => ⟨fun h => hmn (un1 h).1, fun h => hmn (un2 h).1.symm⟩)
end Go.Proofs.YtlmfoblgheepoaaGreatDoor.Pure
end
section
namespace Go.Proofs.YtlmfoblgheepoaaGreatDoor.planUnique
open Go.ChangeShapes Go.WideShapes Go.ChangeAt Go.RowKit Go.Proofs.GOpen Go.Proofs.YtlmfoblgheepoaaGreatDoor.Pl Go.Proofs.YtlmfoblgheepoaaGreatDoor.Row Go.Proofs.YtlmfoblgheepoaaGreatDoorW.PrintWords
open Go.ChangeMaps (open_string shut_string)
theorem glb {W : World} (h : laidMetH Tryz.prog Rows.planUniqueRow.laid W) : Glb W := by
  rw [MakeChecks.laidMetH_plain _ _ _ (by kernel_rfl)] at h
  have hr := Lib.laidMet.reads h (n := "internal/strconv.uint64pow10") (d := Rows.laid_internal_strconv_uint64pow10) (by simp [Rows.planUniqueRow])
  exact glb_of_reads hr
set_option maxRecDepth 100000 in
theorem lifted (os : Os) (started : os.Started) (H : Type) (enc : TypeId × Value → H) :
    ReturnsInHanded {} Tryz.checked os 4 .any (fun w args => (Rows.planUniqueSpec.pre enc Tryz.prog Tryz.f4 [] false w args ∧ laidMetH Tryz.prog Rows.planUniqueRow.laid w) ∧ sizedMet enc Tryz.prog Tryz.f4 (OpenSpec.ofChange Rows.planUniqueSpec) false w args)
      (Rows.planUniqueSpec.post enc Tryz.prog Tryz.f4 false true false false) := by
  refine returnsInHanded_of_change_and (C := Tryz.checked) (X := fun w _ => laidMetH Tryz.prog Rows.planUniqueRow.laid w) (fun _ _ _ hh h => h.of_heap hh) own started (by kernel_rfl) Tryz.func4
    (ChangeSpec.witness_shaped (enc := enc) (C := Tryz.checked) (os := os) (X := fun w _ => laidMetH Tryz.prog Rows.planUniqueRow.laid w) false (World.laidAll Tryz.prog os Rows.planUniqueRow.laid) #[.slice none 0 0, .agg #[.int .i64 0, .int .i64 0], .agg #[.int .i64 0, .int .i64 0], .int .i64 0, .int .i64 0] 8 (World.laidAll_os _ _ _)
      (World.shaped_of_ZipB (by kernel_rfl) (by kernel_rfl)) (by kernel_rfl) (by kernel_rfl) (by kernel_rfl)
      (by rw [MakeChecks.laidMetH_plain _ _ _ (by kernel_rfl)]; exact laidMet_laidAll _ (by kernel_rfl) (by kernel_rfl))) ?_
  intro W base args ds gs before hval0 hW _ _ hL _
  have hval : ∀ (j : Nat) t v, Tryz.f4.params[j]? = some t → args[j]? = some v → Value.okWide Tryz.prog W .any base t v := hval0
  have hW' := hW
  obtain ⟨p, q, hA0, hV, rfl, _, _⟩ := hW
  have hA : DataW.TrodAll enc Tryz.prog W 0 (fun _ => true) true Tryz.f4.params.toList args.toList ds p := hA0
  rw [Tryz.params4] at hA hval
  obtain ⟨v0, vs0, d0, ds0, p0, q0, hargs, rfl, rfl, h0, r0⟩ := trodAll_cons hA
  obtain ⟨v1, vs1, d1, ds1, p1, q1, rfl, rfl, rfl, h1, r1⟩ := trodAll_cons r0
  obtain ⟨v2, vs2, d2, ds2, p2, q2, rfl, rfl, rfl, h2, r2⟩ := trodAll_cons r1
  obtain ⟨v3, vs3, d3, ds3, p3, q3, rfl, rfl, rfl, h3, r3⟩ := trodAll_cons r2
  obtain ⟨v4, vs4, d4, ds4, p4, q4, rfl, rfl, rfl, h4, r4⟩ := trodAll_cons r3
  obtain ⟨rfl, rfl, rfl⟩ := trodAll_nil r4
  obtain rfl : args = #[v0, v1, v2, v3, v4] := by cases args; simp_all
  obtain ⟨rfl, rfl⟩ := trodVars_none hV
  have k0 := h0
  have lt0 : ∀ x ∈ p0, x.block < W.heap.size := by obtain ⟨m, hm⟩ := k0; exact DataW.trod_lt m _ _ _ hm
  obtain ⟨a0, len0, cap0, rfl⟩ := okWide_slice Tryz.underlying22 (hval 0 22 v0 rfl rfl)
  obtain ⟨l0, rfl, hc0, hm0, hC0, hw0⟩ := read22 h0
  have k1 := h1
  have lt1 : ∀ x ∈ p1, x.block < W.heap.size := by obtain ⟨m, hm⟩ := k1; exact DataW.trod_lt m _ _ _ hm
  obtain ⟨Z1, e1, w1⟩ := open_array Tryz.underlying50 Tryz.underlying3 (by kernel_rfl) (by kernel_rfl) (hval 1 50 v1 rfl rfl) h1
  obtain rfl : v1 = .agg #[.int .i64 (Z1 0), .int .i64 (Z1 1)] := e1
  have k2 := h2
  have lt2 : ∀ x ∈ p2, x.block < W.heap.size := by obtain ⟨m, hm⟩ := k2; exact DataW.trod_lt m _ _ _ hm
  obtain ⟨Z2, e2, w2⟩ := open_array Tryz.underlying50 Tryz.underlying3 (by kernel_rfl) (by kernel_rfl) (hval 2 50 v2 rfl rfl) h2
  obtain rfl : v2 = .agg #[.int .i64 (Z2 0), .int .i64 (Z2 1)] := e2
  have k3 := h3
  have lt3 : ∀ x ∈ p3, x.block < W.heap.size := by obtain ⟨m, hm⟩ := k3; exact DataW.trod_lt m _ _ _ hm
  obtain ⟨a3, rfl, rfl, rfl, w3⟩ := open_int Tryz.underlying3 (hval 3 3 v3 rfl rfl) h3
  have k4 := h4
  have lt4 : ∀ x ∈ p4, x.block < W.heap.size := by obtain ⟨m, hm⟩ := k4; exact DataW.trod_lt m _ _ _ hm
  obtain ⟨a4, rfl, rfl, rfl, w4⟩ := open_int Tryz.underlying3 (hval 4 3 v4 rfl rfl) h4
  clear hA0 hval0
  obtain ⟨k, hk⟩ := Pure.PlanUnique l0 (Z1 0) (Z1 1) (Z2 0) (Z2 1) a3 a4 hm0 hw0 (rngI64 (w1 0 (by omega))) (rngI64 (w1 1 (by omega))) (rngI64 (w2 0 (by omega))) (rngI64 (w2 1 (by omega))) (rngI64 w3) (rngI64 w4)
  refine (dialtonelaw12_PlanUnique.calls k _ _ l0 (Z1 0) (Z1 1) (Z2 0) (Z2 1) a3 a4 true W hC0 hc0 (glb hL) hk).mono fun e W' ⟨he, bel⟩ => ?_
  subst he
  exact ⟨_, rfl, _, _, _, [], _, [], hW', trodAll_mk1 (shut_bool Tryz.underlying4 _), (trodAll_cons_mk (Below.trod laidOut (by kernel_rfl) (of_decide_eq_true (by kernel_rfl)) k0 bel lt0) (trodAll_cons_mk (Below.trod laidOut (by kernel_rfl) (of_decide_eq_true (by kernel_rfl)) k1 bel lt1) (trodAll_cons_mk (Below.trod laidOut (by kernel_rfl) (of_decide_eq_true (by kernel_rfl)) k2 bel lt2) (trodAll_cons_mk (Below.trod laidOut (by kernel_rfl) (of_decide_eq_true (by kernel_rfl)) k3 bel lt3) (trodAll_cons_mk (Below.trod laidOut (by kernel_rfl) (of_decide_eq_true (by kernel_rfl)) k4 bel lt4) trodAll_mk0))))), rfl, bel.frame _, fun h => by cases h⟩
theorem over : Rows.PlanUniqueSaid :=
  OpenClaim.holds_of_wide 4 Tryz.f4 rfl rfl rfl rfl rfl rfl rfl ⟨rfl, rfl, rfl, rfl, rfl⟩ rfl rfl rfl rfl rfl (by kernel_rfl) Tryz.func4 (by kernel_rfl)
    (of_decide_eq_true (by kernel_rfl)) (by unfold Func.isWrapper; first | (rw [if_pos (by decide +kernel)]; kernel_rfl) | (rw [if_neg (by decide +kernel)]; exact ⟨rfl, rfl⟩))
    (fun os started H enc _ => lifted os started H enc)
theorem plain (f : FuncId) (fn : Func) (hf : Tryz.pinned.checked.prog.funcNamed "dialtone/dialtonelaw12.PlanUnique" = some f) (hfn : Tryz.pinned.checked.prog.funcs[f]? = some fn) :
    true = Tryz.pinned.checked.prog.looks [] ∧ ∀ (j : Nat) t, fn.params[j]? = some t → Tryz.pinned.checked.prog.wantsStandIn t = false := by
  obtain rfl : f = 4 := Option.some.inj ((show Tryz.prog.funcNamed "dialtone/dialtonelaw12.PlanUnique" = some 4 by kernel_rfl).symm.trans hf) |>.symm
  obtain rfl : fn = Tryz.f4 := (Option.some.inj (Tryz.func4.symm.trans hfn)).symm
  refine ⟨by kernel_rfl, fun j t ht => ?_⟩
  rw [Tryz.params4] at ht
  have hm : t ∈ [22, 50, 50, 3, 3] := by simpa using Array.mem_of_getElem? ht
  have hall : ([22, 50, 50, 3, 3].all fun u => !Tryz.prog.wantsStandIn u) = true := by kernel_rfl
  exact (show Tryz.prog.wantsStandIn t = false by simpa using List.all_eq_true.1 hall t hm)
theorem card : Rows.PlanUniqueCardSaid :=
  Claim7.holds_tied_plain_at .later [] _ _ _ _ over (fun _ h => by cases h) (by kernel_rfl) (fun _ h => by cases h) planUnique_row_tie rfl ⟨rfl, rfl⟩ (by kernel_rfl) rfl plain (by kernel_rfl)
end Go.Proofs.YtlmfoblgheepoaaGreatDoor.planUnique
namespace Go.Proofs.YtlmfoblgheepoaaGreatDoor
theorem planUnique_holds : Rows.PlanUniqueCardSaid := planUnique.card
end Go.Proofs.YtlmfoblgheepoaaGreatDoor
end
