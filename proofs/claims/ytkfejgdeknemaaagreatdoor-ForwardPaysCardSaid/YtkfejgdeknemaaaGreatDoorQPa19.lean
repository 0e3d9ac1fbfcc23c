/- Pa: part 20 of the proof that the law's row holds: the printed walk of the program's functions, the plain law, the row. -/
import Derived.Test.YtkfejgdeknemaaaGreatDoorQPa14
import Derived.Test.YtkfejgdeknemaaaGreatDoorQPa15
import Derived.Test.YtkfejgdeknemaaaGreatDoorQPa18
section
namespace Go.Proofs.YtkfejgdeknemaaaGreatDoor.Pure
open Go.RowKit Go.Proofs.YtkfejgdeknemaaaGreatDoorW.PrintWords Go.Proofs.YtkfejgdeknemaaaGreatDoorW.PrintLast Go.Proofs.YtkfejgdeknemaaaGreatDoorW.PrintMore Go.Proofs.YtkfejgdeknemaaaGreatDoor.Fw Go.Proofs.YtkfejgdeknemaaaGreatDoor.Row
set_option linter.unusedVariables false
set_option linter.unusedSimpArgs false
theorem ForwardPays : ∀ (l0 : List S66) (a1 : Int) (a2 : Int) (a3 : Int), l0.length ≤ 9223372036854775807 → (∀ x ∈ l0, I64 x.f0 ∧ I64 x.f1 ∧ I64 x.f2 ∧ I64 x.f3 ∧ I64 x.f4) → I64 a1 → I64 a2 → I64 a3 → ∃ k, dialtonelaw22_ForwardPays.f k l0 a1 a2 a3 = some true := by
  intro l0 a1 a2 a3 hlen hl h1 h2 h3
  apply Ev.rounds
  obtain ⟨l, hv, ho, h16, evl⟩ := made_ev l0 ⟨hlen, hl⟩
  obtain ⟨q, hq, evq⟩ := cond_ev a1 h1
  obtain ⟨n, ln, en⟩ := pick_lt a2 h2 9 (by decide)
  obtain ⟨t, lt, et⟩ := pick_lt a3 h3 120 (by decide)
  have en' : dialtonelaw22_pick.f a2 9 = some (n : Int) := en
  have et' : dialtonelaw22_pick.f a3 120 = some (t : Int) := et
  have wn0 : wrap64 (10 + (n : Int)) = 10 + (n : Int) := w64 (by omega) (by omega)
  obtain ⟨x, hx⟩ : ∃ x : Int, x = 10 + (n : Int) := ⟨_, rfl⟩
  have wn : wrap64 (10 + (n : Int)) = x := wn0.trans hx.symm
  clear wn0
  obtain ⟨p, u, hp, hu, hpu, hp6⟩ := resS_path l q x (t : Int)
  have hr := @res_ok l q x (t : Int) (val_of hv hq) ⟨by omega, by omega⟩ ⟨by omega, by omega⟩
  unfold dialtonelaw22_ForwardPays.f
  simp only [dialtonelaw22_sane.f, Option.bind_some, if_true]
  refine Ev.bind evl ?_
  refine Ev.bind evq ?_
  simp only [en', et', wn, Option.bind_some, hr, hp, hu, forward_Payers.f]
  have hlc : ((x :: p).length : Int) = (p.length : Int) + 1 := by rw [List.length_cons]; omega
  have hl1 : (x :: p).length < 1000000 := by omega
  have hl0 : ([] : List Int).length < 1000000 := by decide
  have hpay : payS (x :: p) = -1 :: (x :: p).dropLast := by simp [payS]
  have hpay0 : payS [] = [] := rfl
  have e1 : ((-1 :: (x :: p).dropLast : List Int).length : Int) = ((x :: p).length : Int) := by simp
  have e2 : ¬ ((x :: p).length : Int) = 0 := by omega
  have e3 : (0 : Int) < ((x :: p).length : Int) := by omega
  have e4 : (1 : Int) ≤ ((x :: p).length : Int) := by omega
  have e5 : rd (-1 :: (x :: p).dropLast) 0 = -1 := rfl
  have ew : wrap64 (((x :: p).length : Int) - 1) = (p.length : Int) := by rw [w64 (by omega) (by omega)]; omega
  have e6 : (0 : Int) ≤ (p.length : Int) := by omega
  have e7 : (p.length : Int) ≤ ((x :: p).length : Int) := by omega
  have e8 : (([] : List Int).length : Int) = 0 := rfl
  simp only [hl1, hl0, if_true, Option.bind_some, hpay, hpay0, e1, e2, if_false, e3, e5, e8, e4, ew, e6, e7]
  refine Ev.bind (ints_true ?_ ?_) (Ev.now _)
  · rw [List.drop_one, List.tail_cons, Int.toNat_natCast, List.dropLast_eq_take]
    simp
  · simp; omega
end Go.Proofs.YtkfejgdeknemaaaGreatDoor.Pure
end
section
namespace Go.Proofs.YtkfejgdeknemaaaGreatDoor.forwardPays
open Go.ChangeShapes Go.WideShapes Go.ChangeAt Go.RowKit Go.Proofs.GOpen Go.Proofs.YtkfejgdeknemaaaGreatDoor.Fw Go.Proofs.YtkfejgdeknemaaaGreatDoor.Row Go.Proofs.YtkfejgdeknemaaaGreatDoorW.PrintWords
open Go.ChangeMaps (open_string shut_string)
set_option maxRecDepth 100000 in
theorem lifted (os : Os) (started : os.Started) (H : Type) (enc : TypeId × Value → H) :
    ReturnsInHanded {} Tryz.checked os 6 .any (fun w args => (Rows.forwardPaysSpec.pre enc Tryz.prog Tryz.f6 [] false w args ∧ laidMetH Tryz.prog Rows.forwardPaysRow.laid w) ∧ sizedMet enc Tryz.prog Tryz.f6 (OpenSpec.ofChange Rows.forwardPaysSpec) false w args)
      (Rows.forwardPaysSpec.post enc Tryz.prog Tryz.f6 false true false false) := by
  refine returnsInHanded_of_change_and (C := Tryz.checked) (X := fun w _ => laidMetH Tryz.prog Rows.forwardPaysRow.laid w) (fun _ _ _ hh h => h.of_heap hh) own started (by kernel_rfl) Tryz.func6
    (ChangeSpec.witness_shaped (enc := enc) (C := Tryz.checked) (os := os) (X := fun w _ => laidMetH Tryz.prog Rows.forwardPaysRow.laid w) false (World.laidAll Tryz.prog os Rows.forwardPaysRow.laid) #[.slice none 0 0, .int .i64 0, .int .i64 0, .int .i64 0] 8 (World.laidAll_os _ _ _)
      (World.shaped_of_ZipB (by kernel_rfl) (by kernel_rfl)) (by kernel_rfl) (by kernel_rfl) (by kernel_rfl)
      (by rw [MakeChecks.laidMetH_plain _ _ _ (by kernel_rfl)]; exact laidMet_laidAll _ (by kernel_rfl) (by kernel_rfl))) ?_
  intro W base args ds gs before hval0 hW _ _ hL _
  have hval : ∀ (j : Nat) t v, Tryz.f6.params[j]? = some t → args[j]? = some v → Value.okWide Tryz.prog W .any base t v := hval0
  have hW' := hW
  obtain ⟨p, q, hA0, hV, rfl, _, _⟩ := hW
  have hA : DataW.TrodAll enc Tryz.prog W 0 (fun _ => true) true Tryz.f6.params.toList args.toList ds p := hA0
  rw [Tryz.params6] at hA hval
  obtain ⟨v0, vs0, d0, ds0, p0, q0, hargs, rfl, rfl, h0, r0⟩ := trodAll_cons hA
  obtain ⟨v1, vs1, d1, ds1, p1, q1, rfl, rfl, rfl, h1, r1⟩ := trodAll_cons r0
  obtain ⟨v2, vs2, d2, ds2, p2, q2, rfl, rfl, rfl, h2, r2⟩ := trodAll_cons r1
  obtain ⟨v3, vs3, d3, ds3, p3, q3, rfl, rfl, rfl, h3, r3⟩ := trodAll_cons r2
  obtain ⟨rfl, rfl, rfl⟩ := trodAll_nil r3
  obtain rfl : args = #[v0, v1, v2, v3] := by cases args; simp_all
  obtain ⟨rfl, rfl⟩ := trodVars_none hV
  have k0 := h0
  have lt0 : ∀ x ∈ p0, x.block < W.heap.size := by obtain ⟨m, hm⟩ := k0; exact DataW.trod_lt m _ _ _ hm
  obtain ⟨a0, len0, cap0, rfl⟩ := okWide_slice Tryz.underlying22 (hval 0 22 v0 rfl rfl)
  obtain ⟨l0, rfl, hc0, hm0, hC0, hw0⟩ := read22 h0
  have k1 := h1
  have lt1 : ∀ x ∈ p1, x.block < W.heap.size := by obtain ⟨m, hm⟩ := k1; exact DataW.trod_lt m _ _ _ hm
  obtain ⟨a1, rfl, rfl, rfl, w1⟩ := open_int Tryz.underlying3 (hval 1 3 v1 rfl rfl) h1
  have k2 := h2
  have lt2 : ∀ x ∈ p2, x.block < W.heap.size := by obtain ⟨m, hm⟩ := k2; exact DataW.trod_lt m _ _ _ hm
  obtain ⟨a2, rfl, rfl, rfl, w2⟩ := open_int Tryz.underlying3 (hval 2 3 v2 rfl rfl) h2
  have k3 := h3
  have lt3 : ∀ x ∈ p3, x.block < W.heap.size := by obtain ⟨m, hm⟩ := k3; exact DataW.trod_lt m _ _ _ hm
  obtain ⟨a3, rfl, rfl, rfl, w3⟩ := open_int Tryz.underlying3 (hval 3 3 v3 rfl rfl) h3
  clear hA0 hval0
  obtain ⟨k, hk⟩ := Pure.ForwardPays l0 a1 a2 a3 hm0 hw0 (rngI64 w1) (rngI64 w2) (rngI64 w3)
  refine (dialtonelaw22_ForwardPays.calls k _ _ l0 a1 a2 a3 true W hC0 hc0 hk).mono fun e W' ⟨he, bel⟩ => ?_
  subst he
  exact ⟨_, rfl, _, _, _, [], _, [], hW', trodAll_mk1 (shut_bool Tryz.underlying4 _), (trodAll_cons_mk (Below.trod Row.laidOut (by kernel_rfl) (of_decide_eq_true (by kernel_rfl)) k0 bel lt0) (trodAll_cons_mk (Below.trod Row.laidOut (by kernel_rfl) (of_decide_eq_true (by kernel_rfl)) k1 bel lt1) (trodAll_cons_mk (Below.trod Row.laidOut (by kernel_rfl) (of_decide_eq_true (by kernel_rfl)) k2 bel lt2) (trodAll_cons_mk (Below.trod Row.laidOut (by kernel_rfl) (of_decide_eq_true (by kernel_rfl)) k3 bel lt3) trodAll_mk0)))), rfl, bel.frame _, fun h => by cases h⟩
theorem over : Rows.ForwardPaysSaid :=
  OpenClaim.holds_of_wide 6 Tryz.f6 rfl rfl rfl rfl rfl rfl rfl ⟨rfl, rfl, rfl, rfl, rfl⟩ rfl rfl rfl rfl rfl (by kernel_rfl) Tryz.func6 (by kernel_rfl)
    (of_decide_eq_true (by kernel_rfl)) (by unfold Func.isWrapper; first | (rw [if_pos (by decide +kernel)]; kernel_rfl) | (rw [if_neg (by decide +kernel)]; exact ⟨rfl, rfl⟩))
    (fun os started H enc _ => lifted os started H enc)
theorem plain (f : FuncId) (fn : Func) (hf : Tryz.pinned.checked.prog.funcNamed "dialtone/dialtonelaw22.ForwardPays" = some f) (hfn : Tryz.pinned.checked.prog.funcs[f]? = some fn) :
    true = Tryz.pinned.checked.prog.looks [] ∧ ∀ (j : Nat) t, fn.params[j]? = some t → Tryz.pinned.checked.prog.wantsStandIn t = false := by
  obtain rfl : f = 6 := Option.some.inj ((show Tryz.prog.funcNamed "dialtone/dialtonelaw22.ForwardPays" = some 6 by kernel_rfl).symm.trans hf) |>.symm
  obtain rfl : fn = Tryz.f6 := (Option.some.inj (Tryz.func6.symm.trans hfn)).symm
  refine ⟨by kernel_rfl, fun j t ht => ?_⟩
  rw [Tryz.params6] at ht
  have hm : t ∈ [22, 3, 3, 3] := by simpa using Array.mem_of_getElem? ht
  have hall : ([22, 3, 3, 3].all fun u => !Tryz.prog.wantsStandIn u) = true := by kernel_rfl
  exact (show Tryz.prog.wantsStandIn t = false by simpa using List.all_eq_true.1 hall t hm)
theorem card : Rows.ForwardPaysCardSaid :=
  Claim7.holds_tied_plain_at .later [] _ _ _ _ over (fun _ h => by cases h) (by kernel_rfl) (fun _ h => by cases h) forwardPays_row_tie rfl ⟨rfl, rfl⟩ (by kernel_rfl) rfl plain (by kernel_rfl)
end Go.Proofs.YtkfejgdeknemaaaGreatDoor.forwardPays
namespace Go.Proofs.YtkfejgdeknemaaaGreatDoor
theorem forwardPays_holds : Rows.ForwardPaysCardSaid := forwardPays.card
end Go.Proofs.YtkfejgdeknemaaaGreatDoor
end
