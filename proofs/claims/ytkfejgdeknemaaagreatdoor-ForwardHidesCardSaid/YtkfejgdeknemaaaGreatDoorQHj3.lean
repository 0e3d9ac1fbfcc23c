/- Hj: part 4 of the proof that the law's row holds: the printed walk of the program's functions, the plain law, the row. -/
import Derived.Test.YtkfejgdeknemaaaGreatDoorQPa0
import Derived.Test.YtkfejgdeknemaaaGreatDoorQPa1
import Derived.Test.YtkfejgdeknemaaaGreatDoorQPa11
import Derived.Test.YtkfejgdeknemaaaGreatDoorQPa15
import Derived.Test.YtkfejgdeknemaaaGreatDoorQPa2
import Derived.Test.YtkfejgdeknemaaaGreatDoorQPa6
import Derived.Test.YtkfejgdeknemaaaGreatDoorQPa7
import Derived.Test.YtkfejgdeknemaaaGreatDoorQPa9
import Derived.Test.YtkfejgdeknemaaaGreatDoorQHj0
import Derived.Test.YtkfejgdeknemaaaGreatDoorQHj2
section
namespace Go.Proofs.YtkfejgdeknemaaaGreatDoor.Pure
open Go.RowKit Go.Proofs.YtkfejgdeknemaaaGreatDoorW.PrintWords Go.Proofs.YtkfejgdeknemaaaGreatDoorW.PrintLast Go.Proofs.YtkfejgdeknemaaaGreatDoorW.PrintMore Go.Proofs.YtkfejgdeknemaaaGreatDoor.Fw Go.Proofs.YtkfejgdeknemaaaGreatDoor.Row
set_option linter.unusedVariables false
set_option linter.unusedSimpArgs false
structure OddS (q : List S37) (k : Int) (i : Nat) (done : Bool) (a : List S37) : Prop where
  asc : a.Pairwise fun x y => x.f0 < y.f0
  all : ∀ c ∈ a, 10 ≤ c.f0 ∧ c.f0 ≤ 17 ∧ 2 ≤ c.f1 ∧ c.f1 ≤ 4
  len : a.length ≤ i + 1
  low : ∀ c ∈ a, ∀ d ∈ q.drop i, c.f0 < d.f0
  und : done = false → a.length ≤ i ∧ ∀ c ∈ a, c.f0 < k
  same : ∀ x, x ≠ k → cOf a x = cOf (q.take i) x
theorem asc_drop {q : List S37} (hq : ConS q) {i : Nat} (hi : i < q.length) : ∀ d ∈ q.drop (i + 1), q[i].f0 < d.f0 := by
  have h : (q.drop i).Pairwise fun x y => x.f0 < y.f0 := List.Pairwise.sublist (List.drop_sublist _ _) hq.asc
  rw [drop_at q i hi] at h
  exact (List.pairwise_cons.1 h).1
theorem cOf_take {q : List S37} {i : Nat} (hi : i < q.length) (x : Int) : cOf (q.take (i + 1)) x = conC q[i] (cOf (q.take i)) x := by
  rw [← take_at q i hi]
  show consTo (q.take i ++ [q[i]]) _ x = _
  rw [consTo_app]
theorem OddS.ins {q : List S37} {k : Int} {i : Nat} {a : List S37} (h : OddS q k i false a) (hk : 10 ≤ k ∧ k ≤ 17) {r : Int} (hr : 2 ≤ r ∧ r ≤ 4) (hlo : ∀ d ∈ q.drop i, k < d.f0) : OddS q k i true (a ++ [⟨k, r⟩]) := by
  refine ⟨?_, ?_, ?_, ?_, (fun e => by cases e), ?_⟩
  · rw [List.pairwise_append]
    exact ⟨h.asc, by simp, fun x hx y hy => by rw [List.mem_singleton.1 hy]; exact (h.und rfl).2 x hx⟩
  · intro c hc
    rcases List.mem_append.1 hc with hc | hc
    · exact h.all c hc
    · rw [List.mem_singleton.1 hc]; exact ⟨hk.1, hk.2, hr.1, hr.2⟩
  · have := (h.und rfl).1; simp; omega
  · intro c hc d hd
    rcases List.mem_append.1 hc with hc | hc
    · exact h.low c hc d hd
    · rw [List.mem_singleton.1 hc]; exact hlo d hd
  · intro x hx
    rw [← h.same x hx]
    show consTo (a ++ [⟨k, r⟩]) _ x = _
    rw [consTo_app]
    unfold conC
    exact if_neg hx
theorem OddS.skip {q : List S37} (hq : ConS q) {k : Int} {i : Nat} {a : List S37} {done : Bool} (h : OddS q k i done a) (hi : i < q.length) (he : q[i].f0 = k) : OddS q k (i + 1) done a := by
  refine ⟨h.asc, h.all, by have := h.len; omega, fun c hc d hd => h.low c hc d (by rw [drop_at q i hi]; exact List.mem_cons_of_mem _ hd), fun e => ⟨by have := (h.und e).1; omega, (h.und e).2⟩, ?_⟩
  intro x hx
  rw [h.same x hx, cOf_take hi]
  unfold conC
  exact (if_neg (by rw [he]; exact hx)).symm
theorem OddS.take {q : List S37} (hq : ConS q) {k : Int} {i : Nat} {a : List S37} {done : Bool} (h : OddS q k i done a) (hi : i < q.length) (hd : done = false → q[i].f0 < k) (hlen : a.length ≤ i ∨ done = true) : OddS q k (i + 1) done (a ++ [⟨q[i].f0, q[i].f1⟩]) := by
  have hm := List.getElem_mem hi
  refine ⟨?_, ?_, by have := h.len; simp; omega, ?_, fun e => ⟨by have := (h.und e).1; simp; omega, ?_⟩, ?_⟩
  · rw [List.pairwise_append]
    exact ⟨h.asc, by simp, fun x hx y hy => by rw [List.mem_singleton.1 hy]; exact h.low x hx q[i] (by rw [drop_at q i hi]; exact List.mem_cons_self)⟩
  · intro c hc
    rcases List.mem_append.1 hc with hc | hc
    · exact h.all c hc
    · rw [List.mem_singleton.1 hc]; exact hq.all _ hm
  · intro c hc d hd'
    rcases List.mem_append.1 hc with hc | hc
    · exact h.low c hc d (by rw [drop_at q i hi]; exact List.mem_cons_of_mem _ hd')
    · rw [List.mem_singleton.1 hc]; exact asc_drop hq hi d hd'
  · intro c hc
    rcases List.mem_append.1 hc with hc | hc
    · exact (h.und e).2 c hc
    · rw [List.mem_singleton.1 hc]; exact hd e
  · intro x hx
    rw [cOf_take hi]
    show consTo (a ++ [_]) _ x = _
    rw [consTo_app]
    unfold conC
    have := h.same x hx
    by_cases e : x = q[i].f0
    · simp only [e, if_true]
    · simp only [e, if_false]; exact this
theorem hides_tail (l : List S41) (q a : List S37) (n t k : Int) (hv : areS l = true) (ho : ∀ s ∈ l, OneS s) (hl : l.length ≤ 16) (hq : valS l q = true) (ha : valS l a = true) (hn : 10 ≤ n ∧ n ≤ 18) (ht : 0 ≤ t ∧ t ≤ 10000000)
    (hs : ∀ x, x ≠ k → cOf a x = cOf q x) : Ev (fun m => dialtonelaw22_ForwardHides.j2 m n t true l q k a) true := by
  refine Ev.step (fun m => by rw [dialtonelaw22_ForwardHides.j2]) ?_
  have r1 := @res_ok l q n t hq ⟨by omega, by omega⟩ ht
  have r2 := @res_ok l a n t ha ⟨by omega, by omega⟩ ht
  obtain ⟨p, u, hp, hu, hpu, hp6⟩ := resS_path l q n t
  have hin := @res_in l q n t ho hn
  simp only [r1, r2, Option.bind_some, if_true]
  refine Ev.step (fun m => by rw [dialtonelaw22_ForwardHides.j3]) ?_
  have z0 : ((0 : Int) != 0) = false := by decide
  simp only [z0, Bool.false_eq_true, if_false]
  refine Ev.bind (next_ev l (by omega) k t) ?_
  have tail : Ev (fun m => dialtonelaw22_ForwardHides.j4 m t true l q false (resS l q n t).1 (resS l q n t).2.1 (resS l q n t).2.2) true := by
    refine Ev.step (fun m => by rw [dialtonelaw22_ForwardHides.j4]) ?_
    simp only [Bool.false_eq_true, if_false]
    by_cases c : (resS l q n t).1 ≥ 5
    · simp only [c, if_true]; exact Ev.now _
    · simp only [c, if_false]
      obtain ⟨kk, qq, vv, e1, e2, e3, e4, e5⟩ := suf (cnt (gOf l t) (cOf q)) (cOf q) l 6 [n] [] n (by omega) (by simp) (by simp) (by unfold resS at c; omega)
      have e1' : resS l q n t = (kk, n :: qq, vv) := by unfold resS; simpa using e1
      rw [e1'] at hin hp ⊢
      have hqq : qq.length ≤ 6 := by
        have : n :: qq = n :: p := hp
        rw [(List.cons.inj this).2]; exact hp6
      have walk : ∀ m i : Nat, m + i = (n :: qq).length → Ev (fun m => dialtonelaw22_ForwardHides.l1 m t true l q (i : Int) kk (n :: qq) vv) true := by
        intro m
        induction m with
        | zero =>
          intro i hi
          refine Ev.step (fun m => by rw [dialtonelaw22_ForwardHides.l1]) ?_
          have h1 : ¬ ((i : Int) < (n :: qq).length) := by omega
          simp only [h1, if_false]
          exact Ev.now _
        | succ m ih =>
          intro i hi
          refine Ev.step (fun m => by rw [dialtonelaw22_ForwardHides.l1]) ?_
          have hil : i < (n :: qq).length := by omega
          have hll : (n :: qq).length = qq.length + 1 := rfl
          have h1 : ((i : Int) < (n :: qq).length) := by omega
          have h2 : (0 : Int) ≤ i := by omega
          have h3 : ((i : Int) ≤ (n :: qq).length) := by omega
          have h4 : ((i : Int) ≤ vv.length) := by omega
          have hz := hin _ (List.getElem_mem hil)
          have r3 := @res_ok l q (n :: qq)[i] t hq ⟨by omega, by omega⟩ ht
          have e6 : resS l q (n :: qq)[i] t = (kk, (n :: qq).drop i, vv.drop i) := e5 i hil
          rw [e6] at r3
          simp only [h1, h2, h3, h4, if_true, rdI _ i hil, r3, Option.bind_some, Int.toNat_natCast]
          refine Ev.bind (ints_true rfl (by simp; omega)) ?_
          simp only [if_true]
          refine Ev.bind (ints_true rfl (by simp; omega)) ?_
          simp only [if_true, wi i (by omega)]
          exact ih (i + 1) (by omega)
      have := walk (n :: qq).length 0 (by omega)
      simpa using this
  by_cases c : nextS k t l ≥ 0
  · have he : resS l q n t = resS l a n t := hidden c (fun x hx => (hs x hx).symm)
    simp only [c, if_true]
    refine Ev.bind (same_true (by rw [he]) (by rw [he]) (by rw [he]) (by rw [hp]; simp; omega) (by rw [hu]; omega)) ?_
    exact tail
  · simp only [c, if_false]
    exact tail
theorem badV {l : List S41} (hv : areS l = true) {a : List S37} (h1 : a.Pairwise fun x y => x.f0 < y.f0) (h2 : ∀ c ∈ a, 10 ≤ c.f0 ∧ c.f0 ≤ 17 ∧ 2 ≤ c.f1 ∧ c.f1 ≤ 4) (h3 : a.length ≤ 40) : valS l a = true := by
  unfold valS
  rw [hv, badAny_asc a (-1) (.inl (by omega)) h1 (fun c hc => by have := h2 c hc; omega)]
  simp
  exact h3
theorem hides_from (l : List S41) (q : List S37) (n t a5 k : Int) (hv : areS l = true) (ho : ∀ s ∈ l, OneS s) (hl : l.length ≤ 16) (hq : ConS q) (hk : 10 ≤ k ∧ k ≤ 17) (h5 : J64 a5) (hn : 10 ≤ n ∧ n ≤ 18) (ht : 0 ≤ t ∧ t ≤ 10000000) :
    ∀ m i : Nat, m + i = q.length → ∀ (a : List S37) (done : Bool), OddS q k i done a → Ev (fun m => dialtonelaw22_ForwardHides.l0 m n t a5 true l q k a done (i : Int)) true := by
  obtain ⟨r, lr, er⟩ := pick_lt a5 h5 3 (by decide)
  have er' : dialtonelaw22_pick.f a5 3 = some (r : Int) := er
  have wr : wrap64 (2 + (r : Int)) = 2 + (r : Int) := w64 (by omega) (by omega)
  have hq8 := hq.len
  intro m
  induction m with
  | zero =>
    intro i hi a done h
    refine Ev.step (fun m => by rw [dialtonelaw22_ForwardHides.l0]) ?_
    have h1 : ¬ ((i : Int) < q.length) := by omega
    have hti : q.take i = q := List.take_of_length_le (by omega)
    have hdi : q.drop i = [] := List.drop_eq_nil_of_le (by omega)
    have hal := h.len
    simp only [h1, if_false]
    cases done with
    | true =>
      simp only [if_true]
      exact hides_tail l q a n t k hv ho hl (val_of hv hq) (badV hv h.asc h.all (by omega)) hn ht (fun x hx => by rw [h.same x hx, hti])
    | false =>
      have h2 : a.length < 8796093022208 := by omega
      simp only [Bool.false_eq_true, if_false, er', Option.bind_some, wr, h2, if_true]
      have h' := h.ins hk (r := 2 + (r : Int)) ⟨by omega, by omega⟩ (by rw [hdi]; intro d hd; cases hd)
      exact hides_tail l q _ n t k hv ho hl (val_of hv hq) (badV hv h'.asc h'.all (by have := h'.len; omega)) hn ht (fun x hx => by rw [h'.same x hx, hti])
  | succ m ih =>
    intro i hi a done h
    have hil : i < q.length := by omega
    have hal := h.len
    have h1 : ((i : Int) < q.length) := by omega
    have h2 : (0 : Int) ≤ i := by omega
    have h3 : a.length < 8796093022208 := by omega
    have hj : ∀ ins : Bool, ins = (!done && decide (q[i].f0 > k)) → Ev (fun m => dialtonelaw22_ForwardHides.j1 m n t a5 true l q k a done (i : Int) ins) true := by
      intro ins hins
      refine Ev.step (fun m => by rw [dialtonelaw22_ForwardHides.j1]) ?_
      cases ins with
      | true =>
        have hd : done = false ∧ q[i].f0 > k := by
          have := hins.symm
          simpa using this
        obtain ⟨rfl, hgt⟩ := hd
        have h' := h.ins hk (r := 2 + (r : Int)) ⟨by omega, by omega⟩ (by
          intro d hd
          rw [drop_at q i hil] at hd
          rcases List.mem_cons.1 hd with rfl | hd
          · exact hgt
          · have := asc_drop hq hil d hd; omega)
        have hne : ¬ q[i].f0 = k := by omega
        have h4 : (a ++ [(⟨k, 2 + (r : Int)⟩ : S37)]).length < 8796093022208 := by simp; omega
        simp only [if_true, er', Option.bind_some, wr, h1, h2, h3, h4, rd37 q i hil, hne, if_false, wi i (by omega)]
        exact ih (i + 1) (by omega) _ true (h'.take hq hil (fun e => by cases e) (.inr rfl))
      | false =>
        simp only [Bool.false_eq_true, if_false, if_true, h1, h2, h3, rd37 q i hil, wi i (by omega)]
        by_cases he : q[i].f0 = k
        · simp only [he, if_true]
          exact ih (i + 1) (by omega) a done (h.skip hq hil he)
        · simp only [he, if_false]
          refine ih (i + 1) (by omega) _ done (h.take hq hil ?_ ?_)
          · intro e
            have := hins.symm
            rw [e] at this
            simp at this
            omega
          · cases done with
            | true => exact .inr rfl
            | false => exact .inl (h.und rfl).1
    refine Ev.step (fun m => by rw [dialtonelaw22_ForwardHides.l0]) ?_
    simp only [h1, h2, if_true, rd37 q i hil]
    by_cases c : q[i].f0 > k
    · simp only [c, if_true]
      exact hj (!done) (by simp [c])
    · simp only [c, if_false]
      exact hj false (by simp [c])
theorem ForwardHides : ∀ (l0 : List S66) (a1 : Int) (a2 : Int) (a3 : Int) (a4 : Int) (a5 : Int), l0.length ≤ 9223372036854775807 → (∀ x ∈ l0, I64 x.f0 ∧ I64 x.f1 ∧ I64 x.f2 ∧ I64 x.f3 ∧ I64 x.f4) → I64 a1 → I64 a2 → I64 a3 → I64 a4 → I64 a5 → ∃ k, dialtonelaw22_ForwardHides.f k l0 a1 a2 a3 a4 a5 = some true := by
  intro l0 a1 a2 a3 a4 a5 hlen hl h1 h2 h3 h4 h5
  apply Ev.rounds
  obtain ⟨l, hv, ho, h16, evl⟩ := made_ev l0 ⟨hlen, hl⟩
  obtain ⟨q, hq, evq⟩ := cond_ev a1 h1
  obtain ⟨n, ln, en⟩ := pick_lt a2 h2 9 (by decide)
  obtain ⟨kk, lk, ek⟩ := pick_lt a3 h3 8 (by decide)
  obtain ⟨t, lt, et⟩ := pick_lt a4 h4 120 (by decide)
  have en' : dialtonelaw22_pick.f a2 9 = some (n : Int) := en
  have ek' : dialtonelaw22_pick.f a3 8 = some (kk : Int) := ek
  have et' : dialtonelaw22_pick.f a4 120 = some (t : Int) := et
  have wn : wrap64 (10 + (n : Int)) = 10 + (n : Int) := w64 (by omega) (by omega)
  have wk : wrap64 (10 + (kk : Int)) = 10 + (kk : Int) := w64 (by omega) (by omega)
  unfold dialtonelaw22_ForwardHides.f
  simp only [dialtonelaw22_sane.f, Option.bind_some, if_true]
  refine Ev.bind evl ?_
  refine Ev.bind evq ?_
  simp only [en', ek', et', wn, wk, Option.bind_some]
  have hs : OddS q (10 + (kk : Int)) 0 (Int.tmod a5 5 == 0) [] := ⟨by simp, by simp, by simp, by simp, fun _ => ⟨by simp, by simp⟩, fun x _ => by simp⟩
  have := hides_from l q (10 + (n : Int)) (t : Int) a5 (10 + (kk : Int)) hv ho h16 hq ⟨by omega, by omega⟩ h5 ⟨by omega, by omega⟩ ⟨by omega, by omega⟩ q.length 0 (by omega) [] _ hs
  simpa using this
end Go.Proofs.YtkfejgdeknemaaaGreatDoor.Pure
end
section
namespace Go.Proofs.YtkfejgdeknemaaaGreatDoor.forwardHides
open Go.ChangeShapes Go.WideShapes Go.ChangeAt Go.RowKit Go.Proofs.GOpen Go.Proofs.YtkfejgdeknemaaaGreatDoor.Fw Go.Proofs.YtkfejgdeknemaaaGreatDoor.Row Go.Proofs.YtkfejgdeknemaaaGreatDoorW.PrintWords
open Go.ChangeMaps (open_string shut_string)
set_option maxRecDepth 100000 in
theorem lifted (os : Os) (started : os.Started) (H : Type) (enc : TypeId × Value → H) :
    ReturnsInHanded {} Tryz.checked os 5 .any (fun w args => (Rows.forwardHidesSpec.pre enc Tryz.prog Tryz.f5 [] false w args ∧ laidMetH Tryz.prog Rows.forwardHidesRow.laid w) ∧ sizedMet enc Tryz.prog Tryz.f5 (OpenSpec.ofChange Rows.forwardHidesSpec) false w args)
      (Rows.forwardHidesSpec.post enc Tryz.prog Tryz.f5 false true false false) := by
  refine returnsInHanded_of_change_and (C := Tryz.checked) (X := fun w _ => laidMetH Tryz.prog Rows.forwardHidesRow.laid w) (fun _ _ _ hh h => h.of_heap hh) own started (by kernel_rfl) Tryz.func5
    (ChangeSpec.witness_shaped (enc := enc) (C := Tryz.checked) (os := os) (X := fun w _ => laidMetH Tryz.prog Rows.forwardHidesRow.laid w) false (World.laidAll Tryz.prog os Rows.forwardHidesRow.laid) #[.slice none 0 0, .int .i64 0, .int .i64 0, .int .i64 0, .int .i64 0, .int .i64 0] 8 (World.laidAll_os _ _ _)
      (World.shaped_of_ZipB (by kernel_rfl) (by kernel_rfl)) (by kernel_rfl) (by kernel_rfl) (by kernel_rfl)
      (by rw [MakeChecks.laidMetH_plain _ _ _ (by kernel_rfl)]; exact laidMet_laidAll _ (by kernel_rfl) (by kernel_rfl))) ?_
  intro W base args ds gs before hval0 hW _ _ hL _
  have hval : ∀ (j : Nat) t v, Tryz.f5.params[j]? = some t → args[j]? = some v → Value.okWide Tryz.prog W .any base t v := hval0
  have hW' := hW
  obtain ⟨p, q, hA0, hV, rfl, _, _⟩ := hW
  have hA : DataW.TrodAll enc Tryz.prog W 0 (fun _ => true) true Tryz.f5.params.toList args.toList ds p := hA0
  rw [Tryz.params5] at hA hval
  obtain ⟨v0, vs0, d0, ds0, p0, q0, hargs, rfl, rfl, h0, r0⟩ := trodAll_cons hA
  obtain ⟨v1, vs1, d1, ds1, p1, q1, rfl, rfl, rfl, h1, r1⟩ := trodAll_cons r0
  obtain ⟨v2, vs2, d2, ds2, p2, q2, rfl, rfl, rfl, h2, r2⟩ := trodAll_cons r1
  obtain ⟨v3, vs3, d3, ds3, p3, q3, rfl, rfl, rfl, h3, r3⟩ := trodAll_cons r2
  obtain ⟨v4, vs4, d4, ds4, p4, q4, rfl, rfl, rfl, h4, r4⟩ := trodAll_cons r3
  obtain ⟨v5, vs5, d5, ds5, p5, q5, rfl, rfl, rfl, h5, r5⟩ := trodAll_cons r4
  obtain ⟨rfl, rfl, rfl⟩ := trodAll_nil r5
  obtain rfl : args = #[v0, v1, v2, v3, v4, v5] := by cases args; simp_all
  obtain ⟨rfl, rfl⟩ := trodVars_none hV
  have k0 := h0
  have lt0 : ∀ x ∈ p0, x.block < W.heap.size := by obtain ⟨m, hm⟩ := k0; exact DataW.trod_lt m _ _ _ hm
  obtain ⟨a0, len0, cap0, rfl⟩ := okWide_slice Tryz.underlying22 (hval 0 22 v0 rfl rfl)
  obtain ⟨l0, rfl, hc0, hm0, hC0, hw0⟩ := read22 h0
  have k1 := h1
  have lt1 : ∀ x ∈ p1, x.block < W.heap.size := by obtain ⟨m, hm⟩ := k1; exact DataW.trod_lt m _ _ _ hm
  obtain ⟨a1, rfl, rfl, rfl, w1⟩ := open_int Tryz.underlying3 (hval 1 3 v1 rfl rfl) h1
  have k2 := h2
  have lt2 : ∀ x ∈ p2, x.block < W.heap.size := by obtain ⟨m, hm⟩ := k2; exact DataW.trod_lt m _ _ _ hm
  obtain ⟨a2, rfl, rfl, rfl, w2⟩ := open_int Tryz.underlying3 (hval 2 3 v2 rfl rfl) h2
  have k3 := h3
  have lt3 : ∀ x ∈ p3, x.block < W.heap.size := by obtain ⟨m, hm⟩ := k3; exact DataW.trod_lt m _ _ _ hm
  obtain ⟨a3, rfl, rfl, rfl, w3⟩ := open_int Tryz.underlying3 (hval 3 3 v3 rfl rfl) h3
  have k4 := h4
  have lt4 : ∀ x ∈ p4, x.block < W.heap.size := by obtain ⟨m, hm⟩ := k4; exact DataW.trod_lt m _ _ _ hm
  obtain ⟨a4, rfl, rfl, rfl, w4⟩ := open_int Tryz.underlying3 (hval 4 3 v4 rfl rfl) h4
  have k5 := h5
  have lt5 : ∀ x ∈ p5, x.block < W.heap.size := by obtain ⟨m, hm⟩ := k5; exact DataW.trod_lt m _ _ _ hm
  obtain ⟨a5, rfl, rfl, rfl, w5⟩ := open_int Tryz.underlying3 (hval 5 3 v5 rfl rfl) h5
  clear hA0 hval0
  obtain ⟨k, hk⟩ := Pure.ForwardHides l0 a1 a2 a3 a4 a5 hm0 hw0 (rngI64 w1) (rngI64 w2) (rngI64 w3) (rngI64 w4) (rngI64 w5)
  refine (dialtonelaw22_ForwardHides.calls k _ _ l0 a1 a2 a3 a4 a5 true W hC0 hc0 hk).mono fun e W' ⟨he, bel⟩ => ?_
  subst he
  exact ⟨_, rfl, _, _, _, [], _, [], hW', trodAll_mk1 (shut_bool Tryz.underlying4 _), (trodAll_cons_mk (Below.trod Row.laidOut (by kernel_rfl) (of_decide_eq_true (by kernel_rfl)) k0 bel lt0) (trodAll_cons_mk (Below.trod Row.laidOut (by kernel_rfl) (of_decide_eq_true (by kernel_rfl)) k1 bel lt1) (trodAll_cons_mk (Below.trod Row.laidOut (by kernel_rfl) (of_decide_eq_true (by kernel_rfl)) k2 bel lt2) (trodAll_cons_mk (Below.trod Row.laidOut (by kernel_rfl) (of_decide_eq_true (by kernel_rfl)) k3 bel lt3) (trodAll_cons_mk (Below.trod Row.laidOut (by kernel_rfl) (of_decide_eq_true (by kernel_rfl)) k4 bel lt4) (trodAll_cons_mk (Below.trod Row.laidOut (by kernel_rfl) (of_decide_eq_true (by kernel_rfl)) k5 bel lt5) trodAll_mk0)))))), rfl, bel.frame _, fun h => by cases h⟩
theorem over : Rows.ForwardHidesSaid :=
  OpenClaim.holds_of_wide 5 Tryz.f5 rfl rfl rfl rfl rfl rfl rfl ⟨rfl, rfl, rfl, rfl, rfl⟩ rfl rfl rfl rfl rfl (by kernel_rfl) Tryz.func5 (by kernel_rfl)
    (of_decide_eq_true (by kernel_rfl)) (by unfold Func.isWrapper; first | (rw [if_pos (by decide +kernel)]; kernel_rfl) | (rw [if_neg (by decide +kernel)]; exact ⟨rfl, rfl⟩))
    (fun os started H enc _ => lifted os started H enc)
theorem plain (f : FuncId) (fn : Func) (hf : Tryz.pinned.checked.prog.funcNamed "dialtone/dialtonelaw22.ForwardHides" = some f) (hfn : Tryz.pinned.checked.prog.funcs[f]? = some fn) :
    true = Tryz.pinned.checked.prog.looks [] ∧ ∀ (j : Nat) t, fn.params[j]? = some t → Tryz.pinned.checked.prog.wantsStandIn t = false := by
  obtain rfl : f = 5 := Option.some.inj ((show Tryz.prog.funcNamed "dialtone/dialtonelaw22.ForwardHides" = some 5 by kernel_rfl).symm.trans hf) |>.symm
  obtain rfl : fn = Tryz.f5 := (Option.some.inj (Tryz.func5.symm.trans hfn)).symm
  refine ⟨by kernel_rfl, fun j t ht => ?_⟩
  rw [Tryz.params5] at ht
  have hm : t ∈ [22, 3, 3, 3, 3, 3] := by simpa using Array.mem_of_getElem? ht
  have hall : ([22, 3, 3, 3, 3, 3].all fun u => !Tryz.prog.wantsStandIn u) = true := by kernel_rfl
  exact (show Tryz.prog.wantsStandIn t = false by simpa using List.all_eq_true.1 hall t hm)
theorem card : Rows.ForwardHidesCardSaid :=
  Claim7.holds_tied_plain_at .later [] _ _ _ _ over (fun _ h => by cases h) (by kernel_rfl) (fun _ h => by cases h) forwardHides_row_tie rfl ⟨rfl, rfl⟩ (by kernel_rfl) rfl plain (by kernel_rfl)
end Go.Proofs.YtkfejgdeknemaaaGreatDoor.forwardHides
namespace Go.Proofs.YtkfejgdeknemaaaGreatDoor
theorem forwardHides_holds : Rows.ForwardHidesCardSaid := forwardHides.card
end Go.Proofs.YtkfejgdeknemaaaGreatDoor
end
