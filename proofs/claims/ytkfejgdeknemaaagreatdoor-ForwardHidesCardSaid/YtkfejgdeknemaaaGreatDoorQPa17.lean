/- Pa: part 18 of the proof that the law's row holds: the printed walk of the program's functions, the plain law, the row. -/
import Derived.Deep.QuietTactic
import Derived.BigQuiet
import Derived.ArgAppend
import Derived.Test.YtkfejgdeknemaaaGreatDoorQPa4
import Derived.Test.YtkfejgdeknemaaaGreatDoorQPa11
import Derived.Test.YtkfejgdeknemaaaGreatDoorQPa12
import Derived.Test.YtkfejgdeknemaaaGreatDoorQPa14
import Derived.Test.YtkfejgdeknemaaaGreatDoorQPa16
section
namespace Go.Proofs.YtkfejgdeknemaaaGreatDoor.Fw
open Go.RowKit Go.Shelf Go.Proofs.YtkfejgdeknemaaaGreatDoorW.PrintWords Go.Proofs.YtkfejgdeknemaaaGreatDoorW.PrintLast Go.Proofs.YtkfejgdeknemaaaGreatDoorW.PrintMore Go.Proofs.GRange Go.Proofs.GMap Go.Maps
set_option linter.unusedVariables false
set_option linter.unusedSimpArgs false
def hd (x : List Int) : Int := x.headD 0
def insL (x : List Int) : List (List Int) → List (List Int)
  | [] => [x]
  | y :: ys => if hd x < hd y then x :: y :: ys else if hd x = hd y then x :: ys else y :: insL x ys
def loopsGo (cn : Int → Option Int) (l0 : List S41) : List S41 → List (List Int) → List (List Int)
  | [], L => L
  | s :: ss, L => loopsGo cn l0 ss (match loopS cn l0 s.f0 with | none => L | some x => insL x L)
def loopsS (l : List S41) (t : Int) : List (List Int) := loopsGo (cnt (gOf l t) (fun _ => none)) l l []
def forward_Loops.f (l : List S41) (t : Int) : Option (List (List Int) × Int) := if areS l && inB t 0 10000000 then some (loopsS l t, 0) else some ([], 220)
abbrev SortedL (L : List (List Int)) : Prop := L.Pairwise fun x y => hd x < hd y
theorem mem_insL {x : List Int} : ∀ {L : List (List Int)}, SortedL L → ∀ y, y ∈ insL x L ↔ y = x ∨ (y ∈ L ∧ hd y ≠ hd x)
  | [], _, y => by simp [insL]
  | z :: zs, h, y => by
    have hz := List.pairwise_cons.1 h
    unfold insL
    by_cases c1 : hd x < hd z
    · rw [if_pos c1]
      simp only [List.mem_cons]
      constructor
      · rintro (e | e | e)
        · exact .inl e
        · exact .inr ⟨.inl e, by rw [e]; omega⟩
        · exact .inr ⟨.inr e, by have := hz.1 y e; omega⟩
      · rintro (e | ⟨e, _⟩)
        · exact .inl e
        · exact .inr e
    · rw [if_neg c1]
      by_cases c2 : hd x = hd z
      · rw [if_pos c2]
        simp only [List.mem_cons]
        constructor
        · rintro (e | e)
          · exact .inl e
          · exact .inr ⟨.inr e, by have := hz.1 y e; omega⟩
        · rintro (e | ⟨e | e, hne⟩)
          · exact .inl e
          · rw [e] at hne; exact absurd c2.symm hne
          · exact .inr e
      · rw [if_neg c2]
        simp only [List.mem_cons]
        rw [mem_insL hz.2 y]
        constructor
        · rintro (e | e | ⟨e, hne⟩)
          · exact .inr ⟨.inl e, by rw [e]; omega⟩
          · exact .inl e
          · exact .inr ⟨.inr e, hne⟩
        · rintro (e | ⟨e | e, hne⟩)
          · exact .inr (.inl e)
          · exact .inl e
          · exact .inr (.inr ⟨e, hne⟩)
theorem sorted_insL {x : List Int} : ∀ {L : List (List Int)}, SortedL L → SortedL (insL x L)
  | [], _ => by simp [insL]
  | z :: zs, h => by
    have hz := List.pairwise_cons.1 h
    unfold insL
    by_cases c1 : hd x < hd z
    · rw [if_pos c1]
      exact List.pairwise_cons.2 ⟨fun y hy => by
        rcases List.mem_cons.1 hy with e | e
        · rw [e]; exact c1
        · have := hz.1 y e; omega, h⟩
    · rw [if_neg c1]
      by_cases c2 : hd x = hd z
      · rw [if_pos c2]
        exact List.pairwise_cons.2 ⟨fun y hy => by have := hz.1 y hy; omega, hz.2⟩
      · rw [if_neg c2]
        refine List.pairwise_cons.2 ⟨fun y hy => ?_, sorted_insL hz.2⟩
        rcases (mem_insL hz.2 y).1 hy with e | ⟨e, _⟩
        · rw [e]; omega
        · exact hz.1 y e
theorem len_insL (x : List Int) : ∀ L : List (List Int), (insL x L).length ≤ L.length + 1
  | [] => by simp [insL]
  | z :: zs => by
    unfold insL
    have := len_insL x zs
    split
    · simp
    · split
      · simp
      · simp; omega
def FirstM (W : World) (base b nb : Nat) (L : List (List Int)) : Prop :=
  ∃ F : Value → Option Value, MapV Tryz.prog 3 W b nb F ∧ (∀ k v, F (.int .i64 k) = some v → ∃ x, x ∈ L ∧ hd x = k ∧ x ≠ [] ∧ Kd.R (Kd.int .i64) 3 W base (fun _ => True) v x) ∧ (∀ x ∈ L, x ≠ [] ∧ In64 (hd x) ∧ (F (.int .i64 (hd x))).isSome = true) ∧ SortedL L ∧ L.length ≤ nb
theorem FirstM.below {W W' : World} {base b nb : Nat} {L : List (List Int)} (h : FirstM W base b nb L) (hb : Below W.heap.size W W') : FirstM W' base b nb L := by
  obtain ⟨F, h1, h2, h3, h4⟩ := h
  exact ⟨F, h1.below hb, fun k v hk => let ⟨x, a, b', c, d⟩ := h2 k v hk; ⟨x, a, b', c, Kd.R_below d hb⟩, h3, h4⟩
theorem FirstM.mono {W : World} {base b nb nb' : Nat} {L : List (List Int)} (h : FirstM W base b nb L) (hn : nb ≤ nb') : FirstM W base b nb' L := by
  obtain ⟨F, h1, h2, h3, h4, h5⟩ := h
  exact ⟨F, h1.mono hn, h2, h3, h4, by omega⟩
theorem row_far {W W' : World} {base b : Nat} {v : Value} {x : List Int} (h : Kd.R (Kd.int .i64) 3 W base (fun _ => True) v x) (hb : b < base) (hg : W.grownBy W' (some b)) : Kd.R (Kd.int .i64) 3 W' base (fun _ => True) v x :=
  Kd.R_grown1 h rfl hg (fun e => by
    obtain ⟨inner, ho⟩ := Kd.R_own h
    have := own_base ho b e.symm
    omega)
theorem FirstM.store {W W' : World} {base b nb : Nat} {L : List (List Int)} {F : Value → Option Value} {v : Value} {x : List Int}
    (h2 : ∀ k v, F (.int .i64 k) = some v → ∃ x, x ∈ L ∧ hd x = k ∧ x ≠ [] ∧ Kd.R (Kd.int .i64) 3 W base (fun _ => True) v x) (h3 : ∀ x ∈ L, x ≠ [] ∧ In64 (hd x) ∧ (F (.int .i64 (hd x))).isSome = true) (h4 : SortedL L) (h5 : L.length + 1 ≤ nb) (hi : In64 (hd x))
    (hb : b < base) (hg : W.grownBy W' (some b)) (h1 : MapV Tryz.prog 3 W' b nb (upd F (.int .i64 (hd x)) v)) (hx : x ≠ []) (hR : Kd.R (Kd.int .i64) 3 W base (fun _ => True) v x) : FirstM W' base b nb (insL x L) := by
  refine ⟨_, h1, fun k u hk => ?_, fun y hy => ?_, sorted_insL h4, Nat.le_trans (len_insL x L) h5⟩
  · by_cases e : k = hd x
    · subst e
      rw [upd_same] at hk
      obtain rfl := Option.some.inj hk
      exact ⟨x, (mem_insL h4 x).2 (.inl rfl), rfl, hx, row_far hR hb hg⟩
    · rw [upd_other _ _ (by simpa using e)] at hk
      obtain ⟨y, a, b', c, d⟩ := h2 k u hk
      exact ⟨y, (mem_insL h4 y).2 (.inr ⟨a, by rw [b']; exact e⟩), b', c, row_far d hb hg⟩
  · rcases (mem_insL h4 y).1 hy with e | ⟨e, hne⟩
    · subst e
      exact ⟨hx, hi, by rw [upd_same]; rfl⟩
    · refine ⟨(h3 y e).1, (h3 y e).2.1, ?_⟩
      rw [upd_other _ _ (by simpa using hne)]
      exact (h3 y e).2.2
theorem loopGo_in {cn : Int → Option Int} {l : List S41} {n : Int} (hT : ∀ i, In64 (toOf l i)) : ∀ (f : Nat) (out : List Int) (x : Int) (r : List Int), (∀ y ∈ out, In64 y) → out ≠ [] → loopGo cn l n f out x = some r → r ≠ [] ∧ ∀ y ∈ r, In64 y
  | 0, _, _, _, _, _, h => by simp [loopGo] at h
  | f + 1, out, x, r, ho, hne, h => by
    unfold loopGo at h
    cases hc : cn x with
    | none => rw [hc] at h; simp at h
    | some i =>
      rw [hc] at h
      simp only at h
      by_cases c1 : toOf l i = n
      · rw [if_pos c1] at h
        obtain rfl := Option.some.inj h
        refine ⟨turnS_ne hne, fun y hy => ?_⟩
        unfold turnS at hy
        rcases List.mem_append.1 hy with e | e
        · exact ho y (List.mem_of_mem_drop e)
        · exact ho y (List.mem_of_mem_take e)
      · rw [if_neg c1] at h
        by_cases c2 : out.contains (toOf l i) = true
        · rw [if_pos c2] at h; simp at h
        · rw [if_neg c2] at h
          exact loopGo_in hT f _ _ r (fun y hy => by
            rcases List.mem_append.1 hy with e | e
            · exact ho y e
            · rw [List.mem_singleton.1 e]; exact hT i) (by simp) h
theorem loopS_in {cn : Int → Option Int} {l : List S41} {n : Int} (hT : ∀ i, In64 (toOf l i)) (hn : In64 n) {r : List Int} (h : loopS cn l n = some r) : r ≠ [] ∧ ∀ y ∈ r, In64 y :=
  loopGo_in hT _ _ _ r (fun y hy => by rw [List.mem_singleton.1 hy]; exact hn) (by simp) h
theorem hd_in {r : List Int} (h : r ≠ [] ∧ ∀ y ∈ r, In64 y) : In64 (hd r) := by
  cases r with
  | nil => exact absurd rfl h.1
  | cons a b => exact h.2 a List.mem_cons_self
end Go.Proofs.YtkfejgdeknemaaaGreatDoor.Fw
end
section
namespace Go.Proofs.YtkfejgdeknemaaaGreatDoor.Fw
open Go.RowKit Go.Shelf Go.Proofs.YtkfejgdeknemaaaGreatDoorW.PrintWords Go.Proofs.YtkfejgdeknemaaaGreatDoorW.PrintLast Go.Proofs.YtkfejgdeknemaaaGreatDoorW.PrintMore Go.Proofs.GRange Go.Proofs.GSort
set_option linter.unusedVariables false
set_option linter.unusedSimpArgs false
set_option maxHeartbeats 1000000 in
theorem cmp_calls (A1 : Addr) (n1 c1 : Nat) (x : Int) (A2 : Addr) (n2 c2 : Nat) (y : Int) (W : World) (h1 : 0 < n1) (h2 : 0 < n2) (k1 : W.cell? A1 = some (.int .i64 x)) (k2 : W.cell? A2 = some (.int .i64 y)) :
    Calls Tryz.prog 38 #[.slice (some A1) n1 c1, .slice (some A2) n2 c2] W fun e w' => e = .returned (.int .i64 (Lib.compareInt x y)) ∧ ∃ q, w' = W.drewN q := by
  have hc := fun W => Tryz.cmp_Compare_int x y W
  generalize Lib.compareInt x y = r at *
  have b1 : (0 : Int) < n1 := by omega
  have b2 : (0 : Int) < n2 := by omega
  have e1 : A1.add 0 = A1 := by simp [Addr.add]
  have e2 : A2.add 0 = A2 := by simp [Addr.add]
  go_enter Tryz.func38, Tryz.ntmps38
  go_wp2
  go_quiet ((go_at_call 39; exact Calls.quiet_of_same (hc _)))
  go_wp2
  go_ret
  exact ⟨rfl, _, rfl⟩
theorem row_ok {W : World} {base g : Nat} {cs : Array Value} {u : Value} {x : List Int} (h : Kd.R (Kd.int .i64) 3 W base (fun _ => True) u x) (hg : W.heap[g]? = some (.cells cs 29 (0, 0))) : some g ≠ u.ownBlock :=
  own_type h hg (by decide)
theorem row_weak {W : World} {base : Nat} {ok ok' : Nat → Prop} {u : Value} {x : List Int} (h : Kd.R (Kd.int .i64) 3 W base ok u x) (hok : ∀ k, u.ownBlock = some k → ok' k) : Kd.R (Kd.int .i64) 3 W base ok' u x :=
  ⟨hok, h.2⟩
theorem lift_list {β : Type} {p : β → Prop} : ∀ Q : List β, (∀ q ∈ Q, p q) → ∃ D : List {x // p x}, D.map (·.1) = Q
  | [], _ => ⟨[], rfl⟩
  | q :: Q, h => by
    obtain ⟨D, hD⟩ := lift_list Q (fun x hx => h x (List.mem_cons_of_mem _ hx))
    exact ⟨⟨q, h q List.mem_cons_self⟩ :: D, by simp [hD]⟩
abbrev RR := Kd.slice 3 (Kd.int .i64)
theorem pairs_of {W : World} {base : Nat} {ok : Nat → Prop} {P : List (List Int)} {inner : List Value} (h : Reps (RR.M W base ok) 1 P inner) :
    ∃ Q : List (Value × List Int), Q.map Prod.fst = inner ∧ Q.map Prod.snd = P ∧ ∀ q ∈ Q, Kd.R (Kd.int .i64) 3 W base (fun _ => True) q.1 q.2 := by
  obtain ⟨h1, h2⟩ := h
  rw [Nat.mul_one] at h1
  refine ⟨inner.zip P, List.map_fst_zip (by omega), List.map_snd_zip (by omega), fun q hq => ?_⟩
  obtain ⟨j, hj, e⟩ := List.getElem_of_mem hq
  rw [List.length_zip] at hj
  have hj1 : j < inner.length := by omega
  have hj2 : j < P.length := by omega
  rw [List.getElem_zip] at e
  subst e
  obtain ⟨u, hu, hR⟩ := h2 j P[j] (List.getElem?_eq_getElem hj2)
  have hc : (inner.drop (j * 1)).take 1 = [inner[j]] := by
    rw [Nat.mul_one, List.drop_eq_getElem_cons hj1]; rfl
  rw [hc] at hu
  obtain rfl : inner[j] = u := by simpa using hu
  exact row_weak hR (fun _ _ => trivial)
theorem strict_unique : ∀ {A B : List (List Int)}, SortedL A → SortedL B → (∀ x, x ∈ A ↔ x ∈ B) → A = B
  | [], [], _, _, _ => rfl
  | [], b :: bl, _, _, h => by have := (h b).2 List.mem_cons_self; simp at this
  | a :: al, [], _, _, h => by have := (h a).1 List.mem_cons_self; simp at this
  | a :: al, b :: bl, hA, hB, h => by
    have hA' := List.pairwise_cons.1 hA
    have hB' := List.pairwise_cons.1 hB
    have e : a = b := by
      rcases List.mem_cons.1 ((h a).1 List.mem_cons_self) with e | e
      · exact e
      · rcases List.mem_cons.1 ((h b).2 List.mem_cons_self) with e2 | e2
        · exact e2.symm
        · have h1 := hB'.1 a e
          have h2 := hA'.1 b e2
          omega
    subst e
    refine congrArg _ (strict_unique hA'.2 hB'.2 fun x => ?_)
    constructor
    · intro hx
      rcases List.mem_cons.1 ((h x).1 (List.mem_cons_of_mem _ hx)) with e | e
      · subst e; have := hA'.1 x hx; omega
      · exact e
    · intro hx
      rcases List.mem_cons.1 ((h x).2 (List.mem_cons_of_mem _ hx)) with e | e
      · subst e; have := hB'.1 x hx; omega
      · exact e
theorem sorted_perm {A B : List (List Int)} (hA : A.Pairwise fun x y => hd x ≤ hd y) (hB : SortedL B) (hp : A.Perm B) : A = B := by
  have hn : (B.map hd).Nodup := List.pairwise_map.2 (hB.imp fun h => by omega)
  have hn2 : (A.map hd).Nodup := (hp.map hd).nodup_iff.2 hn
  have hA2 : SortedL A := by
    have h1 := List.pairwise_map.1 hn2
    exact (hA.and h1).imp fun ⟨h, k⟩ => by omega
  exact strict_unique hA2 hB (fun x => hp.mem_iff)
section
variable {W : World} {base : Nat}
abbrev EltO (W : World) (base : Nat) := {p : Value × List Int // p.2 ≠ [] ∧ Kd.R (Kd.int .i64) 3 W base (fun _ => True) p.1 p.2}
abbrev encO (p : EltO W base) : Value := p.1.1
abbrev cfO (x y : EltO W base) : Int := Lib.compareInt (hd x.1.2) (hd y.1.2)
theorem ltO (x y : EltO W base) : ltOf cfO x y = decide (hd x.1.2 < hd y.1.2) := by
  unfold ltOf cfO Lib.compareInt
  by_cases h1 : hd x.1.2 < hd y.1.2
  · simp [h1]
  · by_cases h2 : hd y.1.2 < hd x.1.2 <;> simp [h1, h2]
theorem swoO : Go.Sort.SWO (ltOf (cfO (W := W) (base := base))) where
  irrefl x := by rw [ltO]; simp
  trans x y z h1 h2 := by rw [ltO] at *; simp at *; omega
  ntrans x y z h1 h2 := by rw [ltO] at *; simp at *; omega
theorem cmpO {g : Nat} {cs : Array Value} (hg : W.heap[g]? = some (.cells cs 29 (0, 0))) [Inhabited (EltO W base)] (n : Nat) : CmpReads Tryz.prog 38 #[] encO cfO g 0 n (W : World) (α := EltO W base) := by
  intro m os dk hdk x y
  have hgr := grown_sorted (encO (W := W) (base := base)) W g 0 m dk os
  have cell : ∀ x : EltO W base, ∃ b n c, encO x = .slice (some ⟨b, 0, none⟩) n c ∧ 0 < n ∧ (sortWorld encO W g 0 m dk os).cell? ⟨b, 0, none⟩ = some (.int .i64 (hd x.1.2)) := by
    rintro ⟨⟨u, xs⟩, hne, hR⟩
    dsimp only at hne hR
    have hl : 0 < xs.length := List.length_pos_iff.2 hne
    obtain ⟨b, c, hu, _⟩ := own_form hR hl
    subst hu
    have hR2 : Kd.R (Kd.int .i64) 3 (sortWorld encO W g 0 m dk os) base (fun _ => True) (.slice (some ⟨b, 0, none⟩) xs.length c) xs := Kd.R_grown1 hR rfl hgr (row_ok hR hg)
    have hc := cells_int (Kd.R_reads' hR2).2.2 0 hl
    refine ⟨b, _, c, rfl, hl, ?_⟩
    rw [hc]
    cases xs with
    | nil => exact absurd rfl hne
    | cons a al => rfl
  obtain ⟨b1, n1, c1, e1, hn1, k1⟩ := cell x
  obtain ⟨b2, n2, c2, e2, hn2, k2⟩ := cell y
  show Calls Tryz.prog 38 #[encO x, encO y] _ _
  rw [e1, e2]
  exact cmp_calls _ _ _ _ _ _ _ _ _ hn1 hn2 k1 k2
end
theorem sort_calls (base : Nat) (W : World) (v : Value) (P L : List (List Int)) (hR : Kd.R RR 29 W base (fun _ => True) v P) (hp : P.Perm L) (hs : SortedL L) (hne : ∀ x ∈ P, x ≠ []) (hl : P.length ≤ 100000) :
    Calls Tryz.prog 37 #[v, .func (.func 38) #[] #[]] W fun e w' => e = .returned (.tuple #[]) ∧ Kd.R RR 29 w' base (fun _ => True) v L ∧ W.grownBy w' v.ownBlock := by
  obtain ⟨_, inner, ho, hr⟩ := hR
  by_cases h0 : P.length = 0
  · have hP : P = [] := List.length_eq_zero_iff.1 h0
    subst hP
    have hL : L = [] := hp.symm.eq_nil
    subst hL
    obtain ⟨A, c, hv⟩ : ∃ A c, v = .slice A 0 c := by
      obtain ⟨A, c, h⟩ := own_slice ho
      exact ⟨A, c, h⟩
    subst hv
    refine (AnyF.slices_SortFunc_none (P := Tryz.prog) (ρ := Tryz.laysSF_ren) { Tryz.laysSF with } A c _ W).mono ?_
    rintro e w' ⟨rfl, rfl⟩
    exact ⟨rfl, ⟨fun _ _ => trivial, inner, ho, hr⟩, ⟨rfl, rfl, rfl, Nat.le_refl _, fun _ _ _ => rfl⟩⟩
  · obtain ⟨Q, hQ1, hQ2, hQ3⟩ := pairs_of hr
    have hall : ∀ q ∈ Q, q.2 ≠ [] ∧ Kd.R (Kd.int .i64) 3 W base (fun _ => True) q.1 q.2 := fun q hq => ⟨hne _ (by rw [← hQ2]; exact List.mem_map_of_mem hq), hQ3 q hq⟩
    obtain ⟨D, hD⟩ : ∃ D : List (EltO W base), D.map (·.1) = Q := lift_list Q hall
    have hDl : D.length = P.length := by rw [← hQ2, ← hD]; simp
    haveI : Inhabited (EltO W base) := ⟨D[0]'(by omega)⟩
    obtain ⟨g, c, hv, cur, hg⟩ : ∃ g c, v = .slice (some ⟨g, 0, none⟩) P.length c ∧ ∃ cur, W.heap[g]? = some (.cells cur 29 (0, 0)) := by
      rcases ho.2 with ⟨h1, h2⟩ | ⟨g, cap, cur, h1, _, h3, _⟩
      · exact absurd h2 h0
      · exact ⟨g, cap, h1, cur, h3⟩
    subst hv
    have hin : inner = D.toArray.toList.map encO := by rw [← hQ1, ← hD, List.map_map]; rfl
    have hH : Go.Sort.Holds encO W g 0 D.toArray := by
      intro j hj
      have hj2 : j < P.length := by rw [← hDl]; simpa using hj
      refine ⟨?_, ho.frozenAt (0 + j)⟩
      rw [Nat.zero_add, ho.cellAt j (by show j < P.length * 1; omega), hin]
      have hj3 : j < D.length := by omega
      simp [hj3]
    have hcall := Any.slices_SortFunc Tryz.laysSF encO (fun x => by
      obtain ⟨A, c, h⟩ := Kd.R_slice x.2.2
      show (x.1.1 : Value).oneCell' = true
      rw [h]; rfl) cfO swoO 38 #[] g 0 c D.toArray W (enters_of Tryz.func38 (by kernel_rfl) rfl) (cmpO hg _).lays hH (blk_lt hg) (by simp; omega)
    rw [show D.toArray.size = P.length by simpa using hDl] at hcall
    refine Calls.mono hcall ?_
    rintro e w' ⟨rfl, d', q, os, hpi, hsi, rfl⟩
    have hds : d'.size = P.length := by have := hpi.1; rw [this]; simpa using hDl
    have hpm : d'.toList.Perm D := by
      have h := hpi.2.2
      rw [← hds, Array.extract_size] at h
      rw [hds, show P.length = D.toArray.size by simpa using hDl.symm, Array.extract_size] at h
      exact h
    have hL : d'.toList.map (fun p => p.1.2) = L := by
      refine sorted_perm ?_ hs ?_
      · refine List.pairwise_map.2 (List.pairwise_iff_getElem.2 fun i j hi hj hij => ?_)
        have hj2 : j < d'.size := by simpa using hj
        have h := hsi i j (Nat.zero_le _) hij (by omega)
        rw [ltO] at h
        have h2 : ¬ hd d'[j]!.1.2 < hd d'[i]!.1.2 := of_decide_eq_false h
        rw [getElem!_pos d' j hj2, getElem!_pos d' i (by omega)] at h2
        have h3 : hd (d'[i]'(by omega)).1.2 ≤ hd d'[j].1.2 := by omega
        simpa using h3
      · refine ((hpm.map _).trans ?_).trans hp
        rw [← hQ2, ← hD, List.map_map]
        exact List.Perm.refl _
    have hgr := grown_sorted (encO (W := W) (base := base)) W g 0 q d' os
    have hlen : L.length = P.length := hp.length_eq.symm
    refine ⟨rfl, ⟨fun _ _ => trivial, d'.toList.map encO, ?_, ?_⟩, hgr⟩
    · have h := own_sorted (encO (W := W) (base := base)) ho d' hds q os
      rw [← hlen] at h ⊢
      exact h
    · rw [← hL]
      refine ⟨by show _ = _ * 1; simp, fun j p hj => ?_⟩
      rw [List.getElem?_map] at hj
      obtain ⟨z, hz, rfl⟩ := Option.map_eq_some_iff.1 hj
      have hc : ((d'.toList.map encO).drop (j * 1)).take 1 = [encO z] := by
        rw [Nat.mul_one, List.take_one, List.head?_drop, List.getElem?_map, hz]; rfl
      show RR.M _ _ _ _ (List.take 1 (List.drop (j * 1) (List.map encO d'.toList)))
      rw [hc]
      exact ⟨encO z, rfl, row_weak (Kd.R_grown1 z.2.2 rfl hgr (row_ok z.2.2 hg)) (fun k hk => ⟨trivial, fun e => row_ok z.2.2 hg (by rw [hk, e]; rfl)⟩)⟩
end Go.Proofs.YtkfejgdeknemaaaGreatDoor.Fw
end
section
namespace Go.Proofs.YtkfejgdeknemaaaGreatDoor.Fw
open Go.RowKit Go.Shelf Go.Proofs.YtkfejgdeknemaaaGreatDoorW.PrintWords Go.Proofs.YtkfejgdeknemaaaGreatDoorW.PrintLast Go.Proofs.YtkfejgdeknemaaaGreatDoorW.PrintMore Go.Proofs.GRange Go.Proofs.GSort Go.Proofs.GMap Go.Maps
set_option linter.unusedVariables false
set_option linter.unusedSimpArgs false
theorem inf29 : (Tryz.prog.info? 29).map (fun i => (i.zero, i.size, i.bytes)) = some (some (.slice none 0 0), 1, 24) := by kernel_rfl
theorem loop_none {w : World} {A0 : Option Addr} {c0 : Nat} {l : List S41} {b1 b2 : Nat} {n : Int} {cn : Int → Option Int} (h : Calls Tryz.prog 36 #[.agg #[.slice A0 l.length c0, .map (some b1), .map (some b2)], .int .i64 n] w fun e w' => ∃ v, e = .returned v ∧ LoopR w (loopS cn l n) v w' ∧ Below w.heap.size w w')
    (hx : loopS cn l n = none) : Calls Tryz.prog 36 #[.agg #[.slice A0 l.length c0, .map (some b1), .map (some b2)], .int .i64 n] w fun e w' => e = .returned (.slice none 0 0) ∧ Below w.heap.size w w' := by
  refine h.mono ?_
  rintro e w' ⟨v, rfl, (⟨_, rfl⟩ | ⟨o, h1, _⟩), hb⟩
  · exact ⟨rfl, hb⟩
  · rw [hx] at h1; cases h1
theorem loop_some {w : World} {A0 : Option Addr} {c0 : Nat} {l : List S41} {b1 b2 : Nat} {n : Int} {cn : Int → Option Int} {x : List Int} (h : Calls Tryz.prog 36 #[.agg #[.slice A0 l.length c0, .map (some b1), .map (some b2)], .int .i64 n] w fun e w' => ∃ v, e = .returned v ∧ LoopR w (loopS cn l n) v w' ∧ Below w.heap.size w w')
    (hx : loopS cn l n = some x) (hne : x ≠ []) : Calls Tryz.prog 36 #[.agg #[.slice A0 l.length c0, .map (some b1), .map (some b2)], .int .i64 n] w fun e w' => ∃ g c, e = .returned (.slice (some ⟨g, 0, none⟩) x.length c) ∧ Kd.R (Kd.int .i64) 3 w' w.heap.size (fun _ => True) (.slice (some ⟨g, 0, none⟩) x.length c) x ∧ w'.cell? ⟨g, 0, none⟩ = some (.int .i64 (hd x)) ∧ Below w.heap.size w w' := by
  refine h.mono ?_
  rintro e w' ⟨v, rfl, (⟨h1, _⟩ | ⟨o, h1, hR, _⟩), hb⟩
  · rw [hx] at h1; cases h1
  · rw [hx] at h1
    obtain rfl := Option.some.inj h1
    have hl : 0 < x.length := List.length_pos_iff.2 hne
    obtain ⟨g, c, rfl, _⟩ := own_form hR hl
    refine ⟨g, c, rfl, hR, ?_, hb⟩
    have hc := cells_int (Kd.R_reads' hR).2.2 0 hl
    rw [hc]
    cases x with
    | nil => exact absurd rfl hne
    | cons a al => rfl
def Got (F : Value → Option Value) (L : List (List Int)) (Lf : Value → Bool) (P : List (List Int)) : Prop :=
  (∀ x ∈ P, x ∈ L) ∧ (P.map hd).Nodup ∧ (∀ x ∈ L, x ∈ P ∨ Lf (.int .i64 (hd x)) = true) ∧ (∀ x ∈ P, Lf (.int .i64 (hd x)) = false)
theorem Got.perm {F : Value → Option Value} {L : List (List Int)} {Lf : Value → Bool} {P : List (List Int)} (h : Got F L Lf P) (hs : SortedL L) (hd0 : ∀ x ∈ L, Lf (.int .i64 (hd x)) = false) : P.Perm L := by
  have hP : P.Nodup := (List.pairwise_map.1 h.2.1).imp fun h e => h (by rw [e])
  have hL : L.Nodup := hs.imp fun h e => by rw [e] at h; omega
  refine (List.perm_ext_iff_of_nodup hP hL).2 fun x => ⟨h.1 x, fun hx => ?_⟩
  rcases h.2.2.1 x hx with e | e
  · exact e
  · rw [hd0 x hx] at e; cases e
theorem sorted_inj : ∀ {L : List (List Int)}, SortedL L → ∀ {x y : List Int}, x ∈ L → y ∈ L → hd x = hd y → x = y
  | [], _, x, y, hx, _, _ => by simp at hx
  | z :: zs, h, x, y, hx, hy, e => by
    have hz := List.pairwise_cons.1 h
    rcases List.mem_cons.1 hx with hx1 | hx1 <;> rcases List.mem_cons.1 hy with hy1 | hy1
    · rw [hx1, hy1]
    · have := hz.1 _ hy1; rw [hx1] at e; omega
    · have := hz.1 _ hx1; rw [hy1] at e; omega
    · exact sorted_inj hz.2 hx1 hy1 e
open Classical in
theorem Got.more {F : Value → Option Value} {L : List (List Int)} {Lf : Value → Bool} {P : List (List Int)} (h : Got F L Lf P) (hs : SortedL L) {y : List Int} (hy : y ∈ L) (hl : Lf (.int .i64 (hd y)) = true) : Got F L (fun z => Lf z && !decide (z = .int .i64 (hd y))) (P ++ [y]) := by
  refine ⟨fun x hx => ?_, ?_, fun x hx => ?_, fun x hx => ?_⟩
  · rcases List.mem_append.1 hx with e | e
    · exact h.1 x e
    · rw [List.mem_singleton.1 e]; exact hy
  · rw [List.map_append, List.map_singleton]
    refine List.nodup_append.2 ⟨h.2.1, by simp, fun a ha b hb e => ?_⟩
    obtain ⟨x, hx, rfl⟩ := List.mem_map.1 ha
    have hb2 : b = hd y := by simpa using hb
    have h1 := h.2.2.2 x hx
    rw [e, hb2, hl] at h1
    cases h1
  · rcases h.2.2.1 x hx with e | e
    · exact .inl (List.mem_append_left _ e)
    · by_cases c : hd x = hd y
      · rw [sorted_inj hs hx hy c]; exact .inl (by simp)
      · exact .inr (by simp [e, c])
  · rcases List.mem_append.1 hx with e | e
    · simp [h.2.2.2 x e]
    · rw [List.mem_singleton.1 e]; simp
theorem sub_len : ∀ (P L : List (List Int)), P.Nodup → (∀ x ∈ P, x ∈ L) → P.length ≤ L.length
  | [], _, _, _ => by simp
  | x :: P, L, hn, h => by
    have hn' := List.nodup_cons.1 hn
    have h1 := sub_len P (L.erase x) hn'.2 (fun y hy => by
      have hne : y ≠ x := fun e => hn'.1 (e ▸ hy)
      exact (List.mem_erase_of_ne hne).2 (h y (List.mem_cons_of_mem _ hy)))
    have h2 := List.length_erase_of_mem (h x List.mem_cons_self)
    have h3 : 0 < L.length := List.length_pos_of_mem (h x List.mem_cons_self)
    simp only [List.length_cons]
    omega
theorem Got.len {F : Value → Option Value} {L : List (List Int)} {Lf : Value → Bool} {P : List (List Int)} (h : Got F L Lf P) : P.length ≤ L.length :=
  sub_len P L ((List.pairwise_map.1 h.2.1).imp fun h e => h (by rw [e])) h.1
abbrev Rows (F : Value → Option Value) (L : List (List Int)) (base : Nat) (ok : Nat → Prop) (W : World) : Prop := ∀ k v, F (.int .i64 k) = some v → ∃ x, x ∈ L ∧ hd x = k ∧ x ≠ [] ∧ Kd.R (Kd.int .i64) 3 W base ok v x
theorem Rows.below {F : Value → Option Value} {L : List (List Int)} {base : Nat} {ok : Nat → Prop} {W W' : World} (h : Rows F L base ok W) (hb : Below W.heap.size W W') : Rows F L base ok W' := fun k v hk => let ⟨x, a, b, c, d⟩ := h k v hk; ⟨x, a, b, c, Kd.R_below d hb⟩
theorem nilC37 (w : World) : Kd.C k37 w none ([] : List S37).length [] := ⟨rfl, by simp, fun h0 => absurd h0 (by simp)⟩
theorem setsTo_spec (t : Int) (L : List S41) : ∀ (l : List S41) (i : Nat) (G : Int → Int → Option Int), L.drop i = l → (∀ x k j, G x k = some j → 0 ≤ j ∧ j < L.length ∧ (rd_T41 L j).f0 = x ∧ (rd_T41 L j).f1 = k ∧ hasAt (rd_T41 L j) t = true) →
    ∀ x k j, setsTo t l i G x k = some j → 0 ≤ j ∧ j < L.length ∧ (rd_T41 L j).f0 = x ∧ (rd_T41 L j).f1 = k ∧ hasAt (rd_T41 L j) t = true
  | [], _, G, _, hG => hG
  | s :: ss, i, G, hd, hG => by
    have hlt : i < L.length := by
      rcases Nat.lt_or_ge i L.length with h | h
      · exact h
      · rw [List.drop_eq_nil_of_le h] at hd; cases hd
    have hs : L[i] = s ∧ L.drop (i + 1) = ss := by
      rw [List.drop_eq_getElem_cons hlt] at hd
      exact List.cons.inj hd
    refine setsTo_spec t L ss (i + 1) _ hs.2 ?_
    intro x k j h
    unfold setG at h
    split at h
    · rename_i hc
      obtain rfl := Option.some.inj h
      have hr : rd_T41 L (i : Int) = s := by
        rw [← hs.1]; unfold rd_T41; simp [hlt]
      rw [hr]
      exact ⟨by omega, by omega, hc.2.1.symm, hc.2.2.symm, hc.1⟩
    · exact hG x k j h
theorem gOf_spec {l : List S41} {t x k j : Int} (h : gOf l t x k = some j) : 0 ≤ j ∧ j < l.length ∧ (rd_T41 l j).f0 = x ∧ (rd_T41 l j).f1 = k ∧ hasAt (rd_T41 l j) t = true :=
  setsTo_spec t l l 0 _ rfl (fun _ _ _ h => by cases h) x k j h
theorem inj_gOf (l : List S41) (t : Int) : ∀ (x y i : Int), cnt (gOf l t) (fun _ => none) x = some i → cnt (gOf l t) (fun _ => none) y = some i → x = y := by
  have h : ∀ x i, cnt (gOf l t) (fun _ => none) x = some i → (rd_T41 l i).f0 = x := by
    intro x i h
    unfold cnt at h
    split at h
    · rename_i j hj
      obtain rfl := Option.some.inj h
      exact (gOf_spec hj).2.2.1
    · exact (gOf_spec h).2.2.1
  intro x y i hx hy
  rw [← h x i hx, ← h y i hy]
theorem invK3 (key : Value) (kl : Lit) (h : keyOf Tryz.prog 3 key = some kl) : ∃ x : Int, key = .int .i64 x := by
  obtain ⟨x, h1, _⟩ := Maps.keyOf_int_inv Tryz.underlying3 h
  exact ⟨x, h1⟩
set_option maxHeartbeats 1000000 in
set_option maxRecDepth 100000 in
theorem forward_Loops.calls (A0 : Option Addr) (c0 : Nat) (l0 : List S41) (a1 : Int) (r1 : List (List Int)) (r2 : Int) (w : World) (hr0 : Kd.C k41 w A0 l0.length l0) (hc0 : l0.length ≤ c0) (h : forward_Loops.f l0 a1 = some (r1, r2)) :
    Calls Tryz.prog 19 #[.slice A0 l0.length c0, .int .i64 a1] w fun e w' => ∃ v0_ : Value, e = .returned (.tuple #[v0_, .int .i64 r2]) ∧ Kd.R (Kd.slice 3 (Kd.int .i64)) 29 w' w.heap.size (fun _ => True) v0_ r1 ∧ Below w.heap.size w w' := by
  have HR0 := Aside0.mk hr0
  have HV := Aside0.mk h
  clear hr0 h
  obtain ⟨u, hu⟩ : ∃ u, areS l0 = u := ⟨_, rfl⟩
  obtain ⟨q, hq⟩ : ∃ q, inB a1 0 10000000 = q := ⟨_, rfl⟩
  have HA := Aside0.mk (forward_areSettings.calls A0 c0 l0 u w HR0.out hc0 (by rw [← hu]; rfl))
  have HT := Aside0.mk (show forward_isIn.f a1 0 10000000 = some q by rw [isIn_f, hq])
  by_cases hgood : (u && q) = true
  case neg =>
    have HV2 := Aside0.mk (show r1 = [] ∧ r2 = 220 by have h := HV.out; unfold forward_Loops.f at h; rw [hu, hq, if_neg hgood] at h; simpa [eq_comm] using h)
    clear HV hu hq
    cases u <;> cases q <;> first
    | exact (hgood rfl).elim
    | skip
    all_goals
      clear hgood
      go_enter Tryz.func19, Tryz.ntmps19
      go_wp2_with (first | (go_at_call 35; refine HA.out.mono ?_; rintro e w2 ⟨rfl, hb2⟩; have HB2 := Aside0.mk hb2; clear hb2) | (go_at_call 30; refine (forward_isIn.calls _ _ _ _ _ HT.out).mono ?_; rintro e w' ⟨rfl, ⟨nd2, rfl⟩⟩))
      go_ret2
      obtain ⟨rfl, rfl⟩ := HV2.out
      exact ⟨_, rfl, Kd.R_nil _ _ _ _ _, by repeat (first | exact HB2.out | apply pw_below_drewN)⟩
  case pos =>
    simp only [Bool.and_eq_true] at hgood
    obtain ⟨rfl, rfl⟩ := hgood
    have HF := Aside0.mk (valF (cs := []) (l := l0) (by simp [valS, hu, badAny]) a1)
    have HRES := Aside0.mk (show loopsGo (cnt (gOf l0 a1) (fun _ => none)) l0 l0 [] = r1 ∧ r2 = 0 by
      have h := HV.out
      unfold forward_Loops.f at h
      rw [hu, hq, if_pos (show (true && true) = true from rfl)] at h
      have h := Option.some.inj h
      simp only [Prod.mk.injEq] at h
      exact ⟨h.1, h.2.symm⟩)
    clear HV hu hq
    have HAT := Aside0.mk (fun W (hB : Below w.heap.size w W) => at_calls A0 c0 l0 none 0 [] a1 W (Kd.C_below HR0.out hB) (nilC37 W) (by have := HF.out.len; omega) (by simp) HF.out.wl (by simp))
    have HIJ := Aside0.mk (inj_gOf l0 a1)
    have hmm := @run_makeMap Tryz.prog
    have hq29 := fun (w : World) (a : Option Addr) (n c : Nat) => run_neq_slice_nil_any (P := Tryz.prog) w 29 3 a n c 0 0 Tryz.underlying29
    go_enter Tryz.func19, Tryz.ntmps19
    go_wp2_with (first | (go_at_call 35; refine HA.out.mono ?_; rintro e w2 ⟨rfl, hb2⟩; have HB2 := Aside0.mk hb2; clear hb2) | (go_at_call 30; refine (forward_isIn.calls _ _ _ _ _ HT.out).mono ?_; rintro e w' ⟨rfl, ⟨nd2, rfl⟩⟩; have HB3 := Aside0.mk (pw_below_drewN HB2.out nd2)) | (go_at_call 31; refine (HAT.out _ HB3.out).mono ?_; rintro e w4 ⟨b1, b2, rfl, hs, hc, hb4⟩; have HS := Aside0.mk hs; have HC := Aside0.mk hc; have HB4 := Aside0.mk (below_step HB3.out hb4); clear hs hc hb4))
    have hb1 : b1 < w4.heap.size := by obtain ⟨F, hM, _⟩ := HS.out; exact hM.lt
    have hb2 : b2 < w4.heap.size := by obtain ⟨F, hM, _⟩ := HC.out; exact hM.lt
    have hw4 : w.heap.size ≤ w4.heap.size := below_size HB4.out
    have hl40 : l0.length ≤ 40 := HF.out.len
    obtain ⟨wm, hwm⟩ : ∃ wm, wm = (w4.alloc (.cells #[.slice A0 l0.length c0, .map (some b1), .map (some b2)] 73)).alloc (.map #[] 0) := ⟨_, rfl⟩
    have hBel : Below w4.heap.size w4 wm := by rw [hwm]; exact below_alloc (below_alloc (Below.refl _ _) _) _
    have HM0 := Aside0.mk (show wm.heap[w4.heap.size]? = some (.cells #[.slice A0 l0.length c0, .map (some b1), .map (some b2)] 73 (0, 0)) by rw [hwm]; exact blk_alloc (blk_new _ _) _)
    have HF0 := Aside0.mk (show FirstM wm (w4.heap.size + 1 + 1) (w4.heap.size + 1) 0 [] by
      have h := MapV.made Tryz.prog 3 (w4.alloc (.cells #[.slice A0 l0.length c0, .map (some b1), .map (some b2)] 73))
      rw [World.size_alloc, ← hwm] at h
      exact ⟨_, h, ⟨fun k v hk => (by cases hk), ⟨fun x hx => (by cases hx), List.Pairwise.nil, Nat.le_refl _⟩⟩⟩)
    have HS0 := Aside0.mk (HS.out.below hBel)
    have HC0 := Aside0.mk (HC.out.below hBel)
    have HB0 := Aside0.mk (below_step HB4.out hBel)
    have HZ0 := Aside0.mk (show w4.heap.size + 1 < wm.heap.size by rw [hwm]; simp)
    rw [← hwm]
    clear hBel hwm HS HC
    go_loopw [28] (fun v wr => ∃ (i : Nat) (L : List (List Int)), i ≤ l0.length ∧ v = .int .i64 i ∧ Aside0 (FirstM wr (w4.heap.size + 1 + 1) (w4.heap.size + 1) i L) ∧ Aside0 (loopsGo (cnt (gOf l0 a1) (fun _ => none)) l0 (l0.drop i) L = r1) ∧ Aside0 (SetM wr b1 1000 (gOf l0 a1)) ∧ Aside0 (ConM wr b2 1000 (fun _ => none)) ∧
      Aside0 (wr.heap[w4.heap.size]? = some (.cells #[.slice A0 l0.length c0, .map (some b1), .map (some b2)] 73 (0, 0))) ∧ Aside0 (Below w.heap.size w wr) ∧ Aside0 (w4.heap.size + 1 < wr.heap.size)) (fun v _ => l0.length - (intOf v).toNat)
    case atStart => exact ⟨0, [], Nat.zero_le _, rfl, HF0, ⟨HRES.out.1⟩, HS0, HC0, HM0, HB0, HZ0⟩
    case round =>
      clear HF0 HS0 HC0 HM0 HB0 HZ0
      obtain ⟨i, L, hi, rfl, HFM, HG, HS, HC, HM, HB, HZ⟩ := hrel
      by_cases hlt : i < l0.length
      · obtain ⟨ad, hA, h0, h1, h2, h3, h4⟩ := at_T41 HR0.out (i : Int) (by omega) (by omega)
        subst hA
        rw [Int.toNat_natCast] at h0 h1 h2 h3 h4
        replace h0 := pw_cell_below HB.out h0
        replace h1 := pw_cell_below HB.out h1
        replace h2 := pw_cell_below HB.out h2
        replace h3 := pw_cell_below HB.out h3
        replace h4 := pw_cell_below HB.out h4
        have hdrop : l0.drop i = rd_T41 l0 i :: l0.drop (i + 1) := by
          rw [List.drop_eq_getElem_cons hlt]; simp [rd_T41, hlt]
        have hW := HF.out.wl (rd_T41 l0 i) (by rw [show rd_T41 l0 i = l0[i] by simp [rd_T41, hlt]]; exact List.getElem_mem hlt)
        have HG2 := HG.out
        rw [hdrop] at HG2
        simp only [loopsGo] at HG2
        clear hdrop HG
        generalize rd_T41 l0 i = s at *
        have HLC := Aside0.mk (fun W (hB : Below wr.heap.size wr W) => loop_calls (some ad) c0 l0 b1 b2 (gOf l0 a1) (fun _ => none) s.f0 W (Kd.C_below (Kd.C_below HR0.out HB.out) hB) (by have := HF.out.len; omega) (HS.out.below hB) (HC.out.below hB) hW.1 HF.out.g (fun x => by simpa using in64_zero) HF.out.wt HIJ.out)
        have HBX := Aside0.mk (below_alloc (Below.refl wr.heap.size wr) (.cells (V41 s) 41))
        have km0 : (wr.alloc (.cells (V41 s) 41)).cell? ⟨w4.heap.size, 0, none⟩ = some (.slice (some ad) l0.length c0) := (blk_cell (blk_alloc HM.out _) 0).trans rfl
        have km1 : (wr.alloc (.cells (V41 s) 41)).cell? ⟨w4.heap.size, 1, none⟩ = some (.map (some b1)) := (blk_cell (blk_alloc HM.out _) 1).trans rfl
        have km2 : (wr.alloc (.cells (V41 s) 41)).cell? ⟨w4.heap.size, 2, none⟩ = some (.map (some b2)) := (blk_cell (blk_alloc HM.out _) 2).trans rfl
        cases hx : loopS (cnt (gOf l0 a1) fun _ => none) l0 s.f0 with
        | none =>
          rw [hx] at HG2
          have HG3 := Aside0.mk HG2
          have HX := Aside0.mk hx
          clear HG2 hx hW
          go_wp2_with (first | (go_at_call 36; refine (loop_none (HLC.out _ HBX.out) HX.out).mono ?_; rintro e w5 ⟨rfl, hb5⟩; have HB5 := Aside0.mk (below_step HBX.out hb5); clear hb5))
          go_roundw
          case rel => exact ⟨i + 1, L, by omega, by go_num, ⟨(HFM.out.below HB5.out).mono (by omega)⟩, HG3, ⟨HS.out.below HB5.out⟩, ⟨HC.out.below HB5.out⟩, ⟨blk_below HM.out HB5.out⟩, ⟨below_step HB.out HB5.out⟩, ⟨by have := HZ.out; have := HB5.out.size; omega⟩⟩
          case measure => simp [intOf]; omega
        | some x =>
          rw [hx] at HG2
          simp only at HG2
          have HG3 := Aside0.mk HG2
          have HX := Aside0.mk hx
          have hxi := loopS_in (cn := cnt (gOf l0 a1) fun _ => none) (to_in HF.out.wt) hW.1 hx
          have HXN := Aside0.mk hxi.1
          have HKL := Aside0.mk (key3 (hd_in hxi))
          obtain ⟨F, hF1, hF2, hF3, hF4, hF5⟩ := HFM.out
          have HF1 := Aside0.mk hF1
          have HF2 := Aside0.mk hF2
          have HF3 := Aside0.mk hF3
          have HF4 := Aside0.mk hF4
          have HF5 := Aside0.mk hF5
          have HXI := Aside0.mk (hd_in hxi)
          clear HG2 hx hW hxi hF1 hF2 hF3 hF4 hF5
          go_wp2_with fail
          refine (loop_some (HLC.out _ HBX.out) HX.out HXN.out).mono ?_
          rintro e w5 ⟨gx, cx, rfl, hR5, hc5, hb5⟩
          have HB5 := Aside0.mk (below_step HBX.out hb5)
          have HR5 := Aside0.mk hR5
          have hl5 : (0 : Int) < x.length := by
            have := List.length_pos_iff.2 HXN.out
            omega
          clear hb5 hR5
          go_wp2_with (first | (at_mapUpdate; refine wpList_update _ rfl _ _ _ 78 rfl 3 29 keyed3 Tryz.underlying78 (w4.heap.size + 1) i F rfl (HF1.out.below HB5.out) (by unfold maxLen; omega) (.int .i64 (hd x)) (.slice (some ⟨gx, 0, none⟩) x.length cx) _ rfl rfl HKL.out ?_; intro w6 hm6 hg6))
          have HG6 := Aside0.mk hg6
          have HM6 := Aside0.mk hm6
          have HSZ := Aside0.mk (show w4.heap.size + 1 < w5.heap.size by have := HZ.out; have := HB5.out.size; omega)
          clear hg6 hm6
          go_roundw
          case rel =>
            refine ⟨i + 1, insL x L, by omega, by go_num, ⟨?_⟩, HG3, ⟨(HS.out.below HB5.out).kept HG6.out (by simp; omega)⟩, ⟨(HC.out.below HB5.out).kept HG6.out (by simp; omega)⟩, ⟨?_⟩, ⟨(below_step HB.out HB5.out).grown HG6.out (below_step HB.out HB5.out).size (fun k e => by cases e; omega)⟩, ⟨by have := HSZ.out; have := HG6.out.size; omega⟩⟩
            · exact FirstM.store (Rows.below HF2.out HB5.out) HF3.out HF4.out (by have := HF5.out; omega) HXI.out (by omega) HG6.out HM6.out HXN.out (Kd.R_lower HR5.out (by have := HZ.out; rw [World.size_alloc]; omega))
            · exact (HG6.out.block _ (blk_lt (blk_below HM.out HB5.out)) (by simp)).trans (blk_below HM.out HB5.out)
          case measure => simp [intOf]; omega
      · obtain rfl : i = l0.length := by omega
        have HG2 := HG.out
        rw [List.drop_length] at HG2
        have HL := Aside0.mk (show L = r1 from HG2)
        clear HG HG2
        obtain ⟨F, hF1, hF2, hF3, hF4, hF5⟩ := HFM.out
        have HF2 := Aside0.mk hF2
        have HF3 := Aside0.mk hF3
        have HF4 := Aside0.mk hF4
        have HF5 := Aside0.mk hF5
        have hF1' := hF1
        clear HFM hF1 hF2 hF3 hF4 hF5 HS HC HM
        go_wp2_with (first | (at_range; refine wpList_range _ rfl _ 78 rfl 3 29 keyed3 Tryz.underlying78 (w4.heap.size + 1) l0.length F rfl hF1' ?_; intro w6 cnt0 hrg0 hg0 hs0))
        go_frame
        have HB6 := Aside0.mk (HB.out.grown hg0 HB.out.size (fun k e => by cases e))
        have hrb : w4.heap.size + 1 < wr.heap.size := HZ.out
        have HR6 := Aside0.mk (show Rows F L w.heap.size (fun k => k < wr.heap.size ∧ k ≠ w4.heap.size + 1) w6 from fun k v hk => by
          obtain ⟨x, h1, h2, h3, h4⟩ := HF2.out k v hk
          refine ⟨x, h1, h2, h3, Kd.R_grown (Kd.R_lower (Kd.R_mono (Kd.R_bound h4) (fun k hk => ⟨hk.2.2.1, by have := hk.2.1; omega⟩)) (by omega)) hg0 (fun _ _ => by simp)⟩)
        clear hF1' HF2 HB HZ hg0
        generalize wr.heap.size = rb at *
        go_loopw [11] (fun v wc => ∃ (P : List (List Int)) (Lf : Value → Bool) (cnt : Nat), RangeV Tryz.prog 3 wc (w4.heap.size + 1) rb l0.length F Lf cnt ∧ Aside0 (Kd.R RR 29 wc w.heap.size (fun k => k ≠ rb ∧ k ≠ w4.heap.size + 1) v P) ∧ Aside0 (Below w.heap.size w wc) ∧ Aside0 (Rows F L w.heap.size (fun k => k < rb ∧ k ≠ w4.heap.size + 1) wc) ∧ Aside0 (Got F L Lf P)) (fun _ wc => wc.rangeLeft (w4.heap.size + 1) rb)
        case atStart => exact ⟨[], _, _, hrg0, ⟨Kd.R_nil _ _ _ _ _⟩, HB6, HR6, ⟨fun x hx => (by cases hx), by simp, fun x hx => .inr (HF3.out x hx).2.2, fun x hx => (by cases hx)⟩⟩
        case round =>
          clear hrg0 HB6 HR6
          obtain ⟨P, Lf, cnt, hrg, HO, HB, HR, HG⟩ := hrel
          obtain ⟨Av, cv, rfl⟩ := Kd.R_slice HO.out
          have hPl : P.length ≤ 40 := by have := HG.out.len; have := HF5.out; omega
          go_wp2_with (first | (at_next; refine wpList_next _ rfl _ rfl 3 keyed3 (fun x : Int => .int .i64 x) invK3 (w4.heap.size + 1) rb l0.length F Lf cnt rfl hrg ?_ ?_))
          · intro hdone
            have HP := Aside0.mk (HG.out.perm HF4.out (fun x hx => hdone _ _ (key3 (HF3.out x hx).2.1)))
            have HSO := Aside0.mk (sort_calls w.heap.size wr (.slice Av P.length cv) P r1 (Kd.R_mono HO.out (fun _ _ => trivial)) (HL.out ▸ HP.out) (HL.out ▸ HF4.out) (fun x hx => (HF3.out x (HG.out.1 x hx)).1) (by omega))
            have HOB := Aside0.mk HO.out
            clear hdone hrg
            go_wp2_with (first | (go_at_call 37; refine HSO.out.mono ?_; rintro e w2 ⟨rfl, hR, hg⟩; have HRR := Aside0.mk hR; have HGG := Aside0.mk hg; clear hR hg))
            go_ret2
            obtain ⟨_, rfl⟩ := HRES.out
            exact ⟨_, rfl, HRR.out, HB.out.grown HGG.out HB.out.size (fun k e => by
              obtain ⟨inner, ho⟩ := Kd.R_own HOB.out
              exact own_base ho k e)⟩
          · intro x kl v w5 cnt1 hkey hLx hFx hrg1 hlt1 hg1 hs1 hen
            obtain ⟨y, hy1, rfl, hy3, hy4⟩ := HR.out x v hFx
            have hly : 0 < y.length := List.length_pos_iff.2 hy3
            obtain ⟨gy, cy, rfl, _⟩ := own_form hy4 hly
            have HCN := Aside0.mk hrg.left_eq
            have hrl : rb < wr.heap.size := hrg.lt
            have hml : w4.heap.size + 1 < wr.heap.size := hrg.map.lt
            have HB5 := Aside0.mk (HB.out.grown hg1 HB.out.size (fun k e => by cases e; have := below_size HB4.out; omega))
            have HO5 := Aside0.mk (Kd.R_grown HO.out hg1 (fun k hk => by simpa using hk.1))
            have HR5 := Aside0.mk (show Rows F L w.heap.size (fun k => k < rb ∧ k ≠ w4.heap.size + 1) w5 from fun k v hk => by
              obtain ⟨x, h1, h2, h3, h4⟩ := HR.out k v hk
              exact ⟨x, h1, h2, h3, Kd.R_grown h4 hg1 (fun k hk => by simp; omega)⟩)
            have hy5 := Kd.R_grown hy4 hg1 (fun k hk => by simp; omega)
            have HGT := Aside0.mk (HG.out.more HF4.out hy1 hLx)
            clear HO HR HG hg1 hy4 hLx hFx hkey hrg HB
            obtain ⟨wb, hwb⟩ : ∃ wb, wb = w5.alloc (.cells #[.slice (some ⟨gy, 0, none⟩) y.length cy] 29) := ⟨_, rfl⟩
            have hbw : Below w5.heap.size w5 wb := by rw [hwb]; exact below_alloc (Below.refl _ _) _
            have HO6 := Aside0.mk (Kd.R_below HO5.out hbw)
            have HR6 := Aside0.mk (HR5.out.below hbw)
            have HB6 := Aside0.mk (below_step HB5.out hbw)
            have HRG := Aside0.mk (hrg1.below hbw)
            have hy6 := Kd.R_below hy5 hbw
            have hbk : wb.heap[w5.heap.size]? = some (.cells #[.slice (some ⟨gy, 0, none⟩) y.length cy] 29 (0, 0)) := by rw [hwb]; exact blk_new _ _
            have HLT := Aside0.mk (show ReadsRow (RR.M wb w.heap.size (fun k => (k ≠ rb ∧ k ≠ w4.heap.size + 1) ∧ some k ≠ (Value.slice Av P.length cv).ownBlock)) 1 wb (some ⟨w5.heap.size, 0, none⟩) 1 [y] from
              ⟨rfl, by omega, fun _ => ⟨_, rfl, fun j p hj => by
                have hj0 : j = 0 := by have := (List.getElem?_eq_some_iff.1 hj).1; simpa using this
                subst hj0
                obtain rfl : y = p := by simpa using hj
                refine ⟨[.slice (some ⟨gy, 0, none⟩) y.length cy], rfl, ⟨_, rfl, row_weak hy6 (fun k hk => ?_)⟩, fun i u hu => ?_⟩
                · have hk2 := hy6.1 k hk
                  refine ⟨⟨by omega, hk2.2⟩, fun e => ?_⟩
                  obtain ⟨cells, hc⟩ := Kd.R_typed hy6 k hk
                  obtain ⟨inner, ho⟩ := Kd.R_own HO6.out
                  obtain ⟨cells2, hc2⟩ := own_typed ho k e.symm
                  rw [hc] at hc2
                  injection hc2 with hc2
                  injection hc2 with _ hc2
                  exact absurd hc2 (by decide)
                · have hi0 : i = 0 := by have := (List.getElem?_eq_some_iff.1 hu).1; simpa using this
                  subst hi0
                  obtain rfl : Value.slice (some ⟨gy, 0, none⟩) y.length cy = u := by simpa using hu
                  exact (blk_cell hbk 0).trans rfl⟩⟩)
            have HWB := Aside0.mk hwb
            have hszb : wb.heap.size = w5.heap.size + 1 := by rw [hwb]; simp
            have HFR := Aside0.mk (show ∀ k, wb.heap.size ≤ k → k ≠ rb ∧ k ≠ w4.heap.size + 1 from fun k hk => ⟨by omega, by omega⟩)
            have hsz6 := Aside0.mk hs1
            clear hwb hbw hy5 hy6 hbk hrg1 HO5 HR5 hs1
            go_wp2_with (first | ((with_reducible refine gate_builtin (b := .append) (xs := #[.tmp 50, .tmp 52]) rfl ?_); at_builtin; rw [← HWB.out]; refine Kd.R_append_rows RR (w0 := w) w.heap.size rfl (.tmp 50) (.tmp 52) 51 29 (.slice none 0 0) 24 rfl Tryz.underlying51 inf29 rfl (by decide) (by omega) (.slice Av P.length cv) P [y] _ _ _ (fun k => k ≠ rb ∧ k ≠ w4.heap.size + 1) (fun k => (k ≠ rb ∧ k ≠ w4.heap.size + 1) ∧ some k ≠ (Value.slice Av P.length cv).ownBlock) rfl rfl HO6.out HLT.out (fun _ _ h => h) (fun _ h => h) HFR.out HB6.out (below_size HB6.out) (by omega) ?_; intro v1 w7 ho hb hg hat))
            obtain ⟨A7, c7, rfl⟩ := Kd.R_slice ho
            have HO7 := Aside0.mk ho
            have HB7 := Aside0.mk hb
            have hown : ∀ k, (Value.slice Av P.length cv).ownBlock = some k → (k ≠ rb ∧ k ≠ w4.heap.size + 1) ∧ w.heap.size ≤ k ∧ ∃ cells, wb.heap[k]? = some (.cells cells 29 (0, 0)) := fun k hk => by
              obtain ⟨inner, hin⟩ := Kd.R_own HO6.out
              exact ⟨HO6.out.1 k hk, own_base hin k hk, own_typed hin k hk⟩
            have HRG7 := Aside0.mk (HRG.out.kept hg (fun e => (hown _ e.symm).1.2 rfl) (fun e => (hown _ e.symm).1.1 rfl))
            have HR7 := Aside0.mk (show Rows F L w.heap.size (fun k => k < rb ∧ k ≠ w4.heap.size + 1) w7 from fun k v hk => by
              obtain ⟨x, h1, h2, h3, h4⟩ := HR6.out k v hk
              refine ⟨x, h1, h2, h3, Kd.R_grown1 h4 rfl hg (fun e => ?_)⟩
              obtain ⟨gx, cx, hv, _⟩ := own_form h4 (List.length_pos_iff.2 h3)
              have e2 : v.ownBlock = some gx := by rw [hv]; rfl
              obtain ⟨_, _, cells, hc⟩ := hown gx (e.trans e2)
              obtain ⟨cells2, hc2⟩ := Kd.R_typed h4 gx e2
              rw [hc] at hc2
              injection hc2 with hc2
              injection hc2 with _ hc2
              exact absurd hc2 (by decide))
            clear ho hb hg hat hown
            go_roundw
            case rel => exact ⟨P ++ [y], _, cnt1, by simpa using HRG7.out, HO7, HB7, HR7, HGT⟩
            case measure =>
              have h1 := HRG7.out.left_eq
              have h2 := HCN.out
              show w7.rangeLeft _ _ < wr.rangeLeft _ _
              omega
end Go.Proofs.YtkfejgdeknemaaaGreatDoor.Fw
end
section
namespace Go.Proofs.YtkfejgdeknemaaaGreatDoor.Fw
open Go.RowKit Go.Shelf Go.Proofs.YtkfejgdeknemaaaGreatDoorW.PrintWords Go.Proofs.YtkfejgdeknemaaaGreatDoorW.PrintLast Go.Proofs.YtkfejgdeknemaaaGreatDoorW.PrintMore Go.Proofs.GRange Go.Proofs.GSort
set_option linter.unusedVariables false
set_option linter.unusedSimpArgs false
theorem KM41 {W : World} {base : Nat} {ok : Nat → Prop} (x : S41) (cs : List Value) (h : k41.K W x cs) : k41.M W base ok x cs := by
  obtain rfl := k41_open h
  exact k41_mkM W base ok x
set_option maxHeartbeats 1000000 in
set_option maxRecDepth 100000 in
theorem clone_calls (A0 : Option Addr) (c0 : Nat) (l0 : List S41) (w : World) (hr0 : Kd.C k41 w A0 l0.length l0) (hl : l0.length ≤ 1000000) :
    Calls Tryz.prog 40 #[.slice A0 l0.length c0] w fun e w' => ∃ v, e = .returned v ∧ Kd.R k41 41 w' w.heap.size (fun _ => True) v l0 ∧ Below w.heap.size w w' := by
  have HR0 := Aside0.mk hr0
  clear hr0
  have q24 := fun (w : World) (a : Option Addr) (n c : Nat) => Lib.run_eql_slice_nil (P := Tryz.prog) w 24 41 a n c 0 0 Tryz.underlying24
  cases A0 with
  | none =>
    have h0 : l0 = [] := by
      cases l0 with
      | nil => rfl
      | cons a al =>
        obtain ⟨ad, e, _⟩ := at_T41 HR0.out 0 (by omega) (by simp)
        cases e
    subst h0
    go_enter Tryz.func40, Tryz.ntmps40
    go_wp2
    go_ret
    exact ⟨_, rfl, Kd.R_nil _ _ _ _ _, Below.refl _ _⟩
  | some ad =>
    obtain ⟨wb, hwb⟩ : ∃ wb, wb = w.alloc (.cells #[] 41) := ⟨_, rfl⟩
    have hb : Below w.heap.size w wb := by rw [hwb]; exact below_alloc (Below.refl _ _) _
    have HB := Aside0.mk hb
    have HO := Aside0.mk (show Kd.R k41 41 wb w.heap.size (fun _ => True) (.slice (some ⟨w.heap.size, 0, none⟩) 0 0) [] by
      have h := World.ownsRow_made (base := w.heap.size) (e := 41) (size := 5) w #[] 0 (Nat.le_refl _) (Nat.zero_le _) (by simp)
      rw [hwb]
      exact ⟨fun _ _ => trivial, [], h, Reps.none _ _⟩)
    have HRD := Aside0.mk (Kd.C_below HR0.out hb)
    have HWB := Aside0.mk hwb
    clear hb hwb
    go_enter Tryz.func40, Tryz.ntmps40
    go_wp2_with (first | ((with_reducible refine gate_builtin (b := .append) (xs := #[.tmp 5, .tmp 6]) rfl ?_); at_builtin; rw [← HWB.out]; refine Kd.R_append_rows k41 (w0 := w) w.heap.size rfl (.tmp 5) (.tmp 6) 24 41 (.agg #[.int .i64 0, .int .i64 0, .int .i64 0, .int .i64 0, .int .i64 0]) 40 rfl Tryz.underlying24 info41 rfl (by decide) (by omega) (.slice (some ⟨w.heap.size, 0, none⟩) 0 0) [] l0 _ _ _ (fun _ => True) (fun _ => False) rfl rfl HO.out HRD.out KM41 (fun _ h => h.elim) (fun _ _ => trivial) HB.out (below_size HB.out) (by simp; omega) ?_; intro v1 w1 ho hb hg hat; have HO1 := Aside0.mk ho; have HB1 := Aside0.mk hb; clear ho hb hg hat))
    go_ret
    exact ⟨_, rfl, HO1.out, HB1.out⟩
def insI (x : Int) : List Int → List Int
  | [] => [x]
  | y :: ys => if x ≤ y then x :: y :: ys else y :: insI x ys
def sortI : List Int → List Int
  | [] => []
  | x :: xs => insI x (sortI xs)
theorem insI_perm (x : Int) : ∀ l : List Int, (insI x l).Perm (x :: l)
  | [] => List.Perm.refl _
  | y :: ys => by
    unfold insI
    split
    · exact List.Perm.refl _
    · exact ((insI_perm x ys).cons y).trans (List.Perm.swap x y ys)
theorem sortI_perm : ∀ l : List Int, (sortI l).Perm l
  | [] => List.Perm.refl _
  | x :: xs => (insI_perm x _).trans ((sortI_perm xs).cons x)
theorem insI_sorted (x : Int) : ∀ l : List Int, l.Pairwise (· ≤ ·) → (insI x l).Pairwise (· ≤ ·)
  | [], _ => by simp [insI]
  | y :: ys, h => by
    have hy := List.pairwise_cons.1 h
    unfold insI
    split
    · rename_i hxy
      exact List.pairwise_cons.2 ⟨fun z hz => by
        rcases List.mem_cons.1 hz with e | e
        · rw [e]; exact hxy
        · have := hy.1 z e; omega, h⟩
    · rename_i hxy
      refine List.pairwise_cons.2 ⟨fun z hz => ?_, insI_sorted x ys hy.2⟩
      rcases List.mem_cons.1 ((insI_perm x ys).mem_iff.1 hz) with e | e
      · rw [e]; omega
      · exact hy.1 z e
theorem sortI_sorted : ∀ l : List Int, (sortI l).Pairwise (· ≤ ·)
  | [] => List.Pairwise.nil
  | x :: xs => insI_sorted x _ (sortI_sorted xs)
theorem mergeSort_sortI (l : List Int) : (l.mergeSort fun x y => decide (x ≤ y)) = sortI l := by
  refine List.Perm.eq_of_pairwise (le := fun a b : Int => a ≤ b) (fun a b _ _ h k => by omega) ?_ (sortI_sorted l) ((List.mergeSort_perm l _).trans (sortI_perm l).symm)
  exact (List.pairwise_mergeSort (le := fun x y : Int => decide (x ≤ y)) (fun a b c h k => by simp at *; omega) (fun a b => by simp; omega) l).imp fun h => by simpa using h
theorem sortInts_calls (base : Nat) (ok : Nat → Prop) (W : World) (v : Value) (xs : List Int) (hR : Kd.R (Kd.int .i64) 3 W base ok v xs) (hl : xs.length ≤ 1000000) :
    Calls Tryz.prog 42 #[v] W fun e w' => e = .returned (.tuple #[]) ∧ Kd.R (Kd.int .i64) 3 w' base ok v (sortI xs) ∧ W.grownBy w' v.ownBlock := by
  by_cases h0 : xs.length = 0
  · have hx : xs = [] := List.length_eq_zero_iff.1 h0
    subst hx
    obtain ⟨A, c, hv⟩ := Kd.R_slice hR
    subst hv
    refine (AnyG.slices_Sort_int_none Tryz.laysSo A c W).mono ?_
    rintro e w' ⟨rfl, rfl⟩
    exact ⟨rfl, hR, ⟨rfl, rfl, rfl, Nat.le_refl _, fun _ _ _ => rfl⟩⟩
  · obtain ⟨g, c, hv, hc⟩ := own_form hR (by omega)
    subst hv
    obtain ⟨inner, ho⟩ := Kd.R_own hR
    have hin : inner = xs.map (Value.int .i64) := by
      have h1 := Kd.own_of_R hR
      refine List.ext_getElem? fun j => ?_
      have h2 : inner.length = xs.length := by have := ho.1; simpa [Kd.int, Kd.scalar] using this
      by_cases hj : j < xs.length
      · have h3 := ho.cellAt j (by show j < xs.length * 1; omega)
        have h4 := h1.cellAt j (by omega)
        rw [← h3, h4]
        rfl
      · rw [List.getElem?_eq_none (by omega), List.getElem?_eq_none (by simp; omega)]
    have hH : Go.Sort.Holds (Value.int .i64) W g 0 xs.toArray := by
      intro j hj
      have hj2 : j < xs.length := by simpa using hj
      refine ⟨?_, ho.frozenAt (0 + j)⟩
      rw [Nat.zero_add, ho.cellAt j (by show j < xs.length * 1; omega), hin]
      simp [hj2]
    have hg : g < W.heap.size := own_lt ho g rfl
    have hcall := AnyG.slices_Sort_int Tryz.laysSo g 0 c xs W hH hg (by omega)
    refine Calls.mono hcall ?_
    rintro e w' ⟨rfl, q, os, rfl⟩
    rw [mergeSort_sortI]
    have hlen : (sortI xs).length = xs.length := (sortI_perm xs).length_eq
    have h := own_sorted (Value.int .i64) ho (sortI xs).toArray (by simpa using hlen) q os
    refine ⟨rfl, ⟨hR.1, (sortI xs).map (Value.int .i64), ?_, ?_⟩, grown_sorted _ W g 0 q _ os⟩
    · rw [hlen]; exact h
    · refine ⟨by show _ = _ * 1; simp, fun j p hj => ?_⟩
      show List.take 1 (List.drop (j * 1) _) = [Value.int .i64 p]
      rw [Nat.mul_one, List.take_one, List.head?_drop, List.getElem?_map, hj]; rfl
def timesGo (s : S41) : List S41 → List Int → List Int
  | [], ts => ts
  | r :: rs, ts => timesGo s rs (if hasAt s r.f3.f0 = true then ts ++ [r.f3.f0] else ts)
def firstLoop (all : List S41) (n : Int) : List Int → Int × List Int × Bool
  | [] => (0, [], false)
  | t :: ts => match loopS (cnt (gOf all t) (fun _ => none)) all n with
    | some x => (t, x, true)
    | none => firstLoop all n ts
def createsS (l : List S41) (s : S41) : Int × List Int × Bool :=
  if areS (l ++ [s]) && decide (s.f1 = 1) then firstLoop (l ++ [s]) s.f0 (sortI (timesGo s (l ++ [s]) [])) else (0, [], false)
def forward_Creates.f (l : List S41) (a b c d e : Int) : Option (Int × List Int × Bool) := if l.length < 1000000 then some (createsS l ⟨a, b, c, ⟨d, e⟩⟩) else none
end Go.Proofs.YtkfejgdeknemaaaGreatDoor.Fw
end
section
namespace Go.Proofs.YtkfejgdeknemaaaGreatDoor.Fw
open Go.RowKit Go.Shelf Go.Proofs.YtkfejgdeknemaaaGreatDoorW.PrintWords Go.Proofs.YtkfejgdeknemaaaGreatDoorW.PrintLast Go.Proofs.YtkfejgdeknemaaaGreatDoorW.PrintMore Go.Proofs.GRange Go.Proofs.GSort
set_option linter.unusedVariables false
set_option linter.unusedSimpArgs false
set_option maxHeartbeats 1000000 in
set_option maxRecDepth 100000 in
theorem forward_Creates.calls (A0 : Option Addr) (c0 : Nat) (l0 : List S41) (a1_0 a1_1 a1_2 a1_3 a1_4 : Int) (r1 : Int) (r2 : List Int) (r3 : Bool) (w : World) (hr0 : Kd.C k41 w A0 l0.length l0) (hc0 : l0.length ≤ c0) (h : forward_Creates.f l0 a1_0 a1_1 a1_2 a1_3 a1_4 = some (r1, r2, r3)) :
    Calls Tryz.prog 21 #[.slice A0 l0.length c0, .agg #[.int .i64 a1_0, .int .i64 a1_1, .int .i64 a1_2, .int .i64 a1_3, .int .i64 a1_4]] w fun e w' => ∃ v0_ : Value, e = .returned (.tuple #[.int .i64 r1, v0_, .bool r3]) ∧ Kd.R (Kd.int .i64) 3 w' w.heap.size (fun _ => True) v0_ r2 ∧ Below w.heap.size w w' := by
  obtain ⟨hlen, hres⟩ : l0.length < 1000000 ∧ createsS l0 ⟨a1_0, a1_1, a1_2, ⟨a1_3, a1_4⟩⟩ = (r1, r2, r3) := by
    unfold forward_Creates.f at h
    split at h
    · exact ⟨‹_›, Option.some.inj h⟩
    · cases h
  obtain ⟨s, hs⟩ : ∃ s : S41, s = ⟨a1_0, a1_1, a1_2, ⟨a1_3, a1_4⟩⟩ := ⟨_, rfl⟩
  rw [← hs] at hres
  have hV : (#[.int .i64 a1_0, .int .i64 a1_1, .int .i64 a1_2, .int .i64 a1_3, .int .i64 a1_4] : Array Value) = V41 s := by rw [hs]
  rw [hV]
  clear h hs hV
  have HR0 := Aside0.mk hr0
  have HRES := Aside0.mk hres
  clear hr0 hres
  obtain ⟨wb, hwb⟩ : ∃ wb, wb = w.alloc (.cells (V41 s) 41) := ⟨_, rfl⟩
  have HBW := Aside0.mk (show Below w.heap.size w wb by rw [hwb]; exact below_alloc (Below.refl _ _) _)
  have HBK := Aside0.mk (show wb.heap[w.heap.size]? = some (.cells (V41 s) 41 (0, 0)) by rw [hwb]; exact blk_new _ _)
  have HWB := Aside0.mk hwb
  clear hwb
  have q29 := fun (w : World) (a : Option Addr) (n c : Nat) => run_neq_slice_nil_any (P := Tryz.prog) w 29 3 a n c 0 0 Tryz.underlying29
  go_enter Tryz.func21, Tryz.ntmps21
  refine seq_hold fun K HK => ?_
  go_wp2
  refine HK.out _ _ ?_
  clear HK
  rw [← HWB.out]
  clear HWB
  refine seq_hold fun K HK => ?_
  refine wp_region_any (by kernel_rfl) ?_
  have hlit : ∀ W : World, Kd.R k41 41 (W.alloc (.cells (V41 s) 41)) W.heap.size (fun _ => True) (.slice (some ⟨W.heap.size, 0, none⟩) 1 1) [s] := fun W => by
    have h : (W.alloc (.cells (V41 s) 41)).ownsRow W.heap.size 41 5 (.slice (some ⟨W.heap.size, 0, none⟩) 1 1) 1 (V41 s).toList :=
      ⟨by simp, .inr ⟨W.heap.size, 1, V41 s, rfl, Nat.le_refl _, blk_new W _, Nat.le_refl _, by unfold maxLen; omega, by simp, by simp⟩⟩
    exact ⟨fun _ _ => trivial, _, h, (Reps.none _ 5).snoc (k41_mkM _ _ _ s) rfl⟩
  have HLIT := Aside0.mk hlit
  clear hlit
  refine wpAny_of_last (S := fun w' => w'.cell? ⟨w.heap.size, 0, none⟩ = some (.int .i64 s.f0) ∧ w'.cell? ⟨w.heap.size, 1, none⟩ = some (.int .i64 s.f1) ∧ w'.cell? ⟨w.heap.size, 2, none⟩ = some (.int .i64 s.f2) ∧ w'.cell? ⟨w.heap.size, 3, none⟩ = some (.int .i64 s.f3.f0) ∧ w'.cell? ⟨w.heap.size, 4, none⟩ = some (.int .i64 s.f3.f1)) (ds := []) _ _ _ _ ?_
  change wpAnyLast _ _ _ _ _ _ 6 #[false, false, false, false, false, false] _ wb.drew
  have cells : ∀ W' : World, W'.heap[w.heap.size]? = some (.cells (V41 s) 41 (0, 0)) → W'.cell? ⟨w.heap.size, 0, none⟩ = some (.int .i64 s.f0) ∧ W'.cell? ⟨w.heap.size, 1, none⟩ = some (.int .i64 s.f1) ∧ W'.cell? ⟨w.heap.size, 2, none⟩ = some (.int .i64 s.f2) ∧ W'.cell? ⟨w.heap.size, 3, none⟩ = some (.int .i64 s.f3.f0) ∧ W'.cell? ⟨w.heap.size, 4, none⟩ = some (.int .i64 s.f3.f1) :=
    fun W' h => ⟨(blk_cell h 0).trans rfl, (blk_cell h 1).trans rfl, (blk_cell h 2).trans rfl, (blk_cell h 3).trans rfl, (blk_cell h 4).trans rfl⟩
  have CELLS := Aside0.mk cells
  clear cells
  obtain ⟨wd, hwd⟩ : ∃ wd, wd = wb.drew := ⟨_, rfl⟩
  have HB1 := Aside0.mk (show Below w.heap.size w wd by rw [hwd]; exact below_drew1 HBW.out)
  have HK1 := Aside0.mk (show wd.heap[w.heap.size]? = some (.cells (V41 s) 41 (0, 0)) by rw [hwd]; exact HBK.out)
  rw [← hwd]
  clear hwd HBW HBK
  have hHeld := CELLS.out wd HK1.out
  refine pure_ (i := 0) (N := some 14) (v := ?_) (a' := ?_) #[true, false, false, false, false, false] rfl rfl (by kernel_rfl) (fun _ _ _ h => h) (Or.inl ⟨by rfl, ?_⟩) ?_ ?_
  rotate_left
  · intro w'
    go_simp
    with_reducible rfl
  rotate_left
  · simp only [Act.put, List.setIfInBounds_toArray, List.set_cons_zero, List.set_cons_succ, i64_w, i32_w]
    rfl
  refine take_ (i := 2) (N := some 16) (v := ?_) (a' := ?_) #[true, false, true, false, false, false] rfl rfl (by kernel_rfl) (fun _ _ _ h => h) (Or.inl ⟨by rfl, ?_⟩) hHeld ?_ ?_
  rotate_left
  · rintro w' ⟨s0, s1, s2, s3, s4⟩
    go_simp
    with_reducible rfl
  rotate_left
  · simp only [Act.put, List.setIfInBounds_toArray, List.set_cons_zero, List.set_cons_succ, i64_w, i32_w]
    rfl
  refine join_ (σ := Value × Nat) 2 #[true, true, true, true, false, false] (fun s => [(15, s.1), (17, .slice (some ⟨s.2, 0, none⟩) 1 1)])
    (fun q W' => Kd.R k41 41 W' w.heap.size (fun k => k ≠ w.heap.size) q.1 l0 ∧ Kd.R k41 41 W' w.heap.size (fun _ => True) (.slice (some ⟨q.2, 0, none⟩) 1 1) [s] ∧ some q.2 ≠ q.1.ownBlock ∧ W'.heap[w.heap.size]? = some (.cells (V41 s) 41 (0, 0)) ∧ Below w.heap.size w W') ?_ ?_
  rotate_left
  · intro hCont
    refine two_ (i := 1) (j := 3) (Ni := some 15) (Nj := some 17) #[true, true, true, false, false, false] #[true, false, true, true, false, false] rfl rfl rfl rfl (by kernel_rfl) (by decide) (by decide) (fun K hK => ?_) (fun K hK => ?_)
    · refine call_ 40 #[.slice A0 l0.length c0] (by rfl) rfl (by go_simp; done) ?_
      refine (clone_calls A0 c0 l0 wd (Kd.C_below HR0.out HB1.out) (by omega)).mono ?_
      rintro e w2 ⟨v, rfl, hR, hb⟩
      refine ⟨v, rfl, ?_⟩
      have hlt := blk_lt HK1.out
      have HV := Aside0.mk (show Kd.R k41 41 w2 w.heap.size (fun k => k ≠ w.heap.size) v l0 from Kd.R_lower (Kd.R_mono (Kd.R_bound hR) (fun k hk => by have := hk.2.1; omega)) (by omega))
      have HB2 := Aside0.mk (below_step HB1.out hb)
      have HK2 := Aside0.mk (blk_below HK1.out hb)
      clear hR hb
      refine hK.out _ _ (CELLS.out w2 HK2.out) (fun hHeld => ?_)
      clear hK K
      refine norm_ (a' := ?_) ?_ ?_
      rotate_left
      · show Act.put _ (some 15) _ = _
        simp only [Act.put, List.setIfInBounds_toArray, List.set_cons_zero, List.set_cons_succ, i64_w, i32_w]
        rfl
      refine one_ (i := 3) (N := some 17) #[true, true, true, true, false, false] rfl rfl (by kernel_rfl) (by decide) (fun K hK => ?_)
      refine event_step (by rfl) (v := .slice (some ⟨w2.heap.size, 0, none⟩) 1 1) (w1 := w2.alloc (.cells (V41 s) 41)) (by first | (go_simp; done) | (go_simp; rfl)) ?_
      refine hK.out _ _ (CELLS.out _ (blk_alloc HK2.out _)) (fun hHeld => ?_)
      clear hK K
      refine norm_ (a' := ?_) ?_ ?_
      rotate_left
      · show Act.put _ (some 17) _ = _
        simp only [Act.put, List.setIfInBounds_toArray, List.set_cons_zero, List.set_cons_succ, i64_w, i32_w]
        rfl
      exact norm_ (by simp only [putAll, Act.put, List.setIfInBounds_toArray, List.set_cons_zero, List.set_cons_succ]) (hCont (v, w2.heap.size) _ ⟨Kd.R_alloc HV.out _, Kd.R_lower (HLIT.out w2) (below_size HB2.out), fun e => absurd (Kd.R_lt HV.out _ e.symm) (Nat.lt_irrefl _), blk_alloc HK2.out _, below_alloc HB2.out _⟩)
    · refine event_step (by rfl) (v := .slice (some ⟨wd.heap.size, 0, none⟩) 1 1) (w1 := wd.alloc (.cells (V41 s) 41)) (by first | (go_simp; done) | (go_simp; rfl)) ?_
      refine hK.out _ _ (CELLS.out _ (blk_alloc HK1.out _)) (fun hHeld => ?_)
      clear hK K
      have HB2 := Aside0.mk (below_alloc HB1.out (.cells (V41 s) 41))
      have HK2 := Aside0.mk (blk_alloc HK1.out (.cells (V41 s) 41))
      have HL2 := Aside0.mk (Kd.R_lower (HLIT.out wd) (below_size HB1.out))
      have hlt : w.heap.size < wd.heap.size := blk_lt HK1.out
      have hsz : (wd.alloc (.cells (V41 s) 41)).heap.size = wd.heap.size + 1 := World.size_alloc _ _
      generalize wd.alloc (.cells (V41 s) 41) = we at *
      generalize wd.heap.size = ge at *
      refine norm_ (a' := ?_) ?_ ?_
      rotate_left
      · show Act.put _ (some 17) _ = _
        simp only [Act.put, List.setIfInBounds_toArray, List.set_cons_zero, List.set_cons_succ, i64_w, i32_w]
        rfl
      refine one_ (i := 1) (N := some 15) #[true, true, true, true, false, false] rfl rfl (by kernel_rfl) (by decide) (fun K hK => ?_)
      refine call_ 40 #[.slice A0 l0.length c0] (by rfl) rfl (by go_simp; done) ?_
      refine (clone_calls A0 c0 l0 we (Kd.C_below HR0.out HB2.out) (by omega)).mono ?_
      rintro e w2 ⟨v, rfl, hR, hb⟩
      refine ⟨v, rfl, ?_⟩
      have HV := Aside0.mk (show Kd.R k41 41 w2 w.heap.size (fun k => k ≠ w.heap.size ∧ k ≠ ge) v l0 from Kd.R_lower (Kd.R_mono (Kd.R_bound hR) (fun k hk => by have := hk.2.1; omega)) (by omega))
      refine hK.out _ _ (CELLS.out _ (blk_below HK2.out hb)) (fun hHeld => ?_)
      clear hK K
      refine norm_ (a' := ?_) ?_ ?_
      rotate_left
      · show Act.put _ (some 15) _ = _
        simp only [Act.put, List.setIfInBounds_toArray, List.set_cons_zero, List.set_cons_succ, i64_w, i32_w]
        rfl
      exact norm_ (by simp only [putAll, Act.put, List.setIfInBounds_toArray, List.set_cons_zero, List.set_cons_succ]) (hCont (v, ge) _ ⟨Kd.R_mono HV.out (fun k hk => hk.1), Kd.R_below HL2.out hb, fun e => (HV.out.1 _ e.symm).2 rfl, blk_below HK2.out hb, below_step HB2.out hb⟩)
  rintro ⟨v, g⟩ W1 ⟨hv, hl, hne, hk, hb⟩
  dsimp only at hv hl hne
  have HV := Aside0.mk hv
  have HL := Aside0.mk hl
  have HB := Aside0.mk hb
  have HK1 := Aside0.mk hk
  have hHeld := CELLS.out W1 hk
  have hlt : w.heap.size < W1.heap.size := blk_lt hk
  clear hv hl hne hk hb
  refine norm_ (a' := ?_) ?_ ?_
  rotate_left
  · simp only [putAll, Act.put, List.setIfInBounds_toArray, List.set_cons_zero, List.set_cons_succ]
    rfl
  refine one_ (i := 4) (N := some 18) #[true, true, true, true, true, false] rfl rfl (by kernel_rfl) (by decide) (fun K hK => ?_)
  refine Kd.R_append_rows_step k41 (w0 := w) w.heap.size (by rfl) (.tmp 15) (.tmp 17) 24 41 (.agg #[.int .i64 0, .int .i64 0, .int .i64 0, .int .i64 0, .int .i64 0]) 40 rfl Tryz.underlying24 info41 rfl (by decide) (by omega) v l0 [s] _ _ _ (fun k => k ≠ w.heap.size) (fun _ => False) rfl rfl HV.out (Kd.R_reads' HL.out).2.2 KM41 (fun _ h => h.elim) (fun k hk => by omega) HB.out (below_size HB.out) (by omega) ?_
  intro v1 W2 ho hb hg hat
  have hk2 := (hg.block _ (blk_lt HK1.out) (fun e => HV.out.1 _ e.symm rfl)).trans HK1.out
  obtain ⟨al, hal⟩ : ∃ al, l0 ++ [s] = al := ⟨_, rfl⟩
  rw [hal] at ho
  obtain ⟨Aa, ca, rfl⟩ := Kd.R_slice ho
  have HCA := Aside0.mk (Kd.R_reads' ho).2.1
  have HO := Aside0.mk ho
  have HB2 := Aside0.mk hb
  have HK2 := Aside0.mk hk2
  refine hK.out _ _ (CELLS.out W2 hk2) (fun hHeld => ?_)
  clear hK K ho hb hg hat hk2 HV HL HB HK1
  refine norm_ (a' := ?_) ?_ ?_
  rotate_left
  · show Act.put _ (some 18) _ = _
    simp only [Act.put, List.setIfInBounds_toArray, List.set_cons_zero, List.set_cons_succ, i64_w, i32_w]
    rfl
  refine pure_ (i := 5) (N := some 7) (v := ?_) (a' := ?_) #[true, true, true, true, true, true] rfl rfl (by kernel_rfl) (fun _ _ _ h => h) (Or.inl ⟨by rfl, ?_⟩) ?_ ?_
  rotate_left
  · intro w'
    go_simp
    with_reducible rfl
  rotate_left
  · simp only [Act.put, List.setIfInBounds_toArray, List.set_cons_zero, List.set_cons_succ, i64_w, i32_w]
    rfl
  refine done_ (by kernel_rfl) ?_
  refine HK.out _ _ ?_
  clear HK
  have hfin : createsS l0 s = if areS al && decide (s.f1 = 1) then firstLoop al s.f0 (sortI (timesGo s al [])) else (0, [], false) := by unfold createsS; rw [hal]
  rw [HRES.out] at hfin
  have HAL := Aside0.mk hal
  have HFN := Aside0.mk hfin
  clear hfin hal HRES hHeld
  obtain ⟨u, hu⟩ : ∃ u, areS al = u := ⟨_, rfl⟩
  have hca := HCA.out
  have HA := Aside0.mk (forward_areSettings.calls Aa ca al u W2 (Kd.R_reads' HO.out).2.2 hca (by rw [← hu]; rfl))
  by_cases hgood : (u && decide (s.f1 = 1)) = true
  case neg =>
    have HV2 := Aside0.mk (show r1 = 0 ∧ r2 = [] ∧ r3 = false by have h := HFN.out; rw [hu, if_neg hgood] at h; simpa using h)
    clear HFN hu
    cases u with
    | false =>
      clear hgood
      go_wp2_with (first | (go_at_call 35; refine HA.out.mono ?_; rintro e w3 ⟨rfl, hb3⟩; have HB3 := Aside0.mk hb3; clear hb3))
      go_ret3
      obtain ⟨rfl, rfl, rfl⟩ := HV2.out
      exact ⟨_, rfl, Kd.R_nil _ _ _ _ _, below_step HB2.out HB3.out⟩
    | true =>
      have hk : ¬ s.f1 = 1 := by simpa using hgood
      have hk1 : (s.f1 != 1) = true := by simpa using hk
      clear hgood
      go_wp2_with (first | (go_at_call 35; refine HA.out.mono ?_; rintro e w3 ⟨rfl, hb3⟩; have HB3 := Aside0.mk hb3; have k1 : w3.cell? ⟨w.heap.size, 1, none⟩ = some (.int .i64 s.f1) := (blk_cell (blk_below HK2.out hb3) 1).trans rfl; clear hb3))
      go_ret3
      obtain ⟨rfl, rfl, rfl⟩ := HV2.out
      exact ⟨_, rfl, Kd.R_nil _ _ _ _ _, below_step HB2.out HB3.out⟩
  case pos =>
    have hg2 := hgood
    simp only [Bool.and_eq_true, decide_eq_true_eq] at hg2
    obtain ⟨rfl, hk⟩ := hg2
    have hk1 : (s.f1 != 1) = false := by simpa using hk
    have HFF := Aside0.mk (show firstLoop al s.f0 (sortI (timesGo s al [])) = (r1, r2, r3) by have h := HFN.out; rw [hu, if_pos hgood] at h; exact h.symm)
    have HVF := Aside0.mk (fun t => valF (cs := []) (l := al) (by simp [valS, hu, badAny]) t)
    have hl40 : al.length ≤ 40 := (HVF.out 0).len
    have hs64 : In64 s.f0 := ((HVF.out 0).wl s (by rw [← HAL.out]; simp)).1
    clear HFN hu hgood hk
    go_wp2_with (first | (go_at_call 35; refine HA.out.mono ?_; rintro e w3 ⟨rfl, hb3⟩; have HB3 := Aside0.mk hb3; have k1 : w3.cell? ⟨w.heap.size, 1, none⟩ = some (.int .i64 s.f1) := (blk_cell (blk_below HK2.out hb3) 1).trans rfl; clear hb3))
    have HO3 := Aside0.mk (Kd.R_below HO.out HB3.out)
    have HK3 := Aside0.mk (blk_below HK2.out HB3.out)
    have HB4 := Aside0.mk (below_step HB2.out HB3.out)
    clear HO HK2 HB2 HB3 HA k1
    go_loopw [8, 29] (fun v8 v29 wr => ∃ (i : Nat) (ts : List Int), i ≤ al.length ∧ v29 = .int .i64 i ∧ ts.length ≤ i ∧ Aside0 (Kd.R (Kd.int .i64) 3 wr w.heap.size (fun _ => True) v8 ts) ∧ Aside0 (timesGo s (al.drop i) ts = timesGo s al []) ∧ Aside0 (Kd.R k41 41 wr w.heap.size (fun k => k ≠ w.heap.size) (.slice Aa al.length ca) al) ∧
      Aside0 (wr.heap[w.heap.size]? = some (.cells (V41 s) 41 (0, 0))) ∧ Aside0 (Below w.heap.size w wr)) (fun _ v29 _ => al.length - (intOf v29).toNat)
    case atStart => exact ⟨0, [], Nat.zero_le _, rfl, Nat.le_refl _, ⟨Kd.R_nil _ _ _ _ _⟩, ⟨rfl⟩, HO3, HK3, HB4⟩
    case round =>
      clear HO3 HK3 HB4
      obtain ⟨i, ts, hi, rfl, hti, HT, HG, HO, HK, HB⟩ := hrel
      obtain ⟨A8, c8, rfl⟩ := Kd.R_slice HT.out
      by_cases hlt : i < al.length
      · obtain ⟨ad, hA, h0, h1, h2, h3, h4⟩ := at_T41 (Kd.R_reads' HO.out).2.2 (i : Int) (by omega) (by omega)
        subst hA
        rw [Int.toNat_natCast] at h0 h1 h2 h3 h4
        have hdrop : al.drop i = rd_T41 al i :: al.drop (i + 1) := by
          rw [List.drop_eq_getElem_cons hlt]; simp [rd_T41, hlt]
        have HG2 := HG.out
        rw [hdrop] at HG2
        simp only [timesGo] at HG2
        clear hdrop HG
        generalize rd_T41 al i = r at *
        obtain ⟨b, hb⟩ : ∃ b, hasAt s r.f3.f0 = b := ⟨_, rfl⟩
        have HH := Aside0.mk (show forward_has.f s.f3.f0 s.f3.f1 r.f3.f0 = some b by rw [has_f, hb])
        rw [hb] at HG2
        have HBX := Aside0.mk (below_alloc (Below.refl wr.heap.size wr) (.cells (V41 r) 41))
        have k0 : (wr.alloc (.cells (V41 r) 41)).cell? ⟨w.heap.size, 3, none⟩ = some (.int .i64 s.f3.f0) := (blk_cell (blk_alloc HK.out _) 3).trans rfl
        have k1 : (wr.alloc (.cells (V41 r) 41)).cell? ⟨w.heap.size, 4, none⟩ = some (.int .i64 s.f3.f1) := (blk_cell (blk_alloc HK.out _) 4).trans rfl
        clear hb
        cases b with
        | false =>
          rw [if_neg (by simp)] at HG2
          have HG3 := Aside0.mk HG2
          clear HG2
          go_wp2_with (first | (go_at_call 41; refine (forward_has.calls _ _ _ _ _ HH.out).mono ?_; rintro e w5 ⟨rfl, hb5⟩; have HB5 := Aside0.mk (below_step HBX.out hb5); clear hb5))
          go_roundw
          case rel => exact ⟨i + 1, ts, by omega, by go_num, by omega, ⟨Kd.R_below HT.out HB5.out⟩, HG3, ⟨Kd.R_below HO.out HB5.out⟩, ⟨blk_below HK.out HB5.out⟩, ⟨below_step HB.out HB5.out⟩⟩
          case measure => simp [intOf]; omega
        | true =>
          rw [if_pos rfl] at HG2
          have HG3 := Aside0.mk HG2
          clear HG2
          go_wp2_with fail
          refine (forward_has.calls _ _ _ _ _ HH.out).mono ?_
          rintro e w5 ⟨rfl, hb5⟩
          have HB5 := Aside0.mk (below_step HBX.out hb5)
          have k5 : w5.cell? ⟨wr.heap.size, 3, none⟩ = some (.int .i64 r.f3.f0) := (blk_cell (blk_below (blk_new wr _) hb5) 3).trans rfl
          clear hb5 k0 k1
          obtain ⟨wb, hwb⟩ : ∃ wb, wb = w5.alloc (.cells #[.int .i64 r.f3.f0] 3) := ⟨_, rfl⟩
          have hbw : Below w5.heap.size w5 wb := by rw [hwb]; exact below_alloc (Below.refl _ _) _
          have HL := Aside0.mk (show Kd.R (Kd.int .i64) 3 wb w.heap.size (fun _ => True) (.slice (some ⟨w5.heap.size, 0, none⟩) 1 1) [r.f3.f0] by
            rw [hwb]
            exact Kd.R_of_own (own_lit_of (enc := Value.int .i64) w5 w.heap.size 3 [r.f3.f0] (below_size (below_step HB.out HB5.out)) (by simp)) (fun _ _ => trivial))
          have HT6 := Aside0.mk (Kd.R_below (Kd.R_below HT.out HB5.out) hbw)
          have HO6 := Aside0.mk (Kd.R_below (Kd.R_below HO.out HB5.out) hbw)
          have HK6 := Aside0.mk (blk_below (blk_below HK.out HB5.out) hbw)
          have HB6 := Aside0.mk (below_step (below_step HB.out HB5.out) hbw)
          have HWB := Aside0.mk hwb
          clear hwb hbw
          go_wp2_with (first | ((with_reducible refine gate_builtin (b := .append) (xs := #[.tmp 39, .tmp 43]) rfl ?_); at_builtin; rw [← HWB.out]; refine Kd.R_append_rows (Kd.int .i64) (w0 := w) w.heap.size rfl (.tmp 39) (.tmp 43) 29 3 (.int .i64 0) 8 rfl Tryz.underlying29 info3 rfl (by decide) (by omega) (.slice A8 ts.length c8) ts [r.f3.f0] _ _ _ (fun _ => True) (fun _ => False) rfl rfl HT6.out (Kd.R_reads' HL.out).2.2 (fun _ _ h => h) (fun _ h => h.elim) (fun _ _ => trivial) HB6.out (below_size HB6.out) (by omega) ?_; intro v1 w7 ho hb hg hat))
          have hnb : some w.heap.size ≠ (Value.slice A8 ts.length c8).ownBlock := own_type HT6.out HK6.out (by decide)
          have hna : (Value.slice A8 ts.length c8).ownBlock ≠ (Value.slice (some ad) al.length ca).ownBlock := fun e => by
            obtain ⟨inner, hin⟩ := Kd.R_own HO6.out
            obtain ⟨cells, hc⟩ := own_typed hin ad.block rfl
            exact own_type HT6.out hc (by decide) e.symm
          have HT7 := Aside0.mk ho
          have HO7 := Aside0.mk (Kd.R_grown1 HO6.out rfl hg hna)
          have HK7 := Aside0.mk ((hg.block _ (blk_lt HK6.out) hnb).trans HK6.out)
          have HB7 := Aside0.mk hb
          clear ho hb hg hat hnb hna
          go_roundw
          case rel => exact ⟨i + 1, ts ++ [r.f3.f0], by omega, by go_num, by simp; omega, HT7, HG3, HO7, HK7, HB7⟩
          case measure => simp [intOf]; omega
      · obtain rfl : i = al.length := by omega
        have HG2 := HG.out
        rw [List.drop_length] at HG2
        have hts : ts = timesGo s al [] := HG2
        obtain ⟨T, hT⟩ : ∃ T, sortI ts = T := ⟨_, rfl⟩
        have HFT := Aside0.mk (show firstLoop al s.f0 T = (r1, r2, r3) by rw [← hT, hts]; exact HFF.out)
        have hTl : T.length = ts.length := by rw [← hT]; exact (sortI_perm ts).length_eq
        have HSO := Aside0.mk (sortInts_calls w.heap.size (fun _ => True) wr (.slice A8 ts.length c8) ts HT.out (by omega))
        rw [hT] at HSO
        have hnb : some w.heap.size ≠ (Value.slice A8 ts.length c8).ownBlock := own_type HT.out HK.out (by decide)
        have HNB := Aside0.mk hnb
        have HOB := Aside0.mk HT.out
        have HTL := Aside0.mk hTl
        clear HG HG2 hts HFF hT hnb HT hTl
        go_wp2_with (first | (go_at_call 42; refine HSO.out.mono ?_; rintro e w4 ⟨rfl, hR, hg⟩; have HR4 := Aside0.mk hR; have HG4 := Aside0.mk hg; clear hR hg))
        have HX := Aside0.mk (show Kd.C (Kd.int .i64) w4 A8 T.length T from by
          have h := (Kd.R_reads HR4.out).choose_spec.choose_spec
          have e := h.1
          injection e with e1 e2 e3
          rw [e1]; exact h.2.2)
        have HO4 := Aside0.mk (show Kd.C k41 w4 Aa al.length al from by
          by_cases h0 : 0 < al.length
          · obtain ⟨ad, hA, _⟩ := at_T41 (Kd.R_reads' HO.out).2.2 0 (by omega) (by omega)
            subst hA
            exact (Kd.R_reads' (Kd.R_grown1 HO.out rfl HG4.out (fun e => by
              obtain ⟨inner, hin⟩ := Kd.R_own HO.out
              obtain ⟨cells, hc⟩ := own_typed hin ad.block rfl
              exact own_type HOB.out hc (by decide) e.symm))).2.2
          · have h1 : al = [] := List.length_eq_zero_iff.1 (by omega)
            subst h1
            exact ⟨rfl, by simp, fun h0 => absurd h0 (by simp)⟩)
        have HK4 := Aside0.mk ((HG4.out.block _ (blk_lt HK.out) HNB.out).trans HK.out)
        have HB4 := Aside0.mk (HB.out.grown HG4.out HB.out.size (fun k e => by
          obtain ⟨inner, hin⟩ := Kd.R_own HOB.out
          exact own_base hin k e))
        have hsl : s ∈ al ∨ True := .inr trivial
        have hTl := HTL.out
        obtain ⟨tl, htl⟩ : ∃ tl, ts.length = tl := ⟨_, rfl⟩
        rw [htl] at hTl hti ⊢
        have HTE := Aside0.mk hTl
        clear HO HK HB HR4 HG4 HSO HOB HNB hsl htl hTl
        have hT2 : T.length ≤ al.length := by have := HTE.out; omega
        have hT3 : tl ≤ 40 := by omega
        go_loopw [50] (fun v50 wr => ∃ i : Nat, i ≤ tl ∧ v50 = .int .i64 i ∧ Aside0 (firstLoop al s.f0 (T.drop i) = (r1, r2, r3)) ∧ Aside0 (Kd.C (Kd.int .i64) wr A8 T.length T) ∧ Aside0 (Kd.C k41 wr Aa al.length al) ∧
          Aside0 (wr.heap[w.heap.size]? = some (.cells (V41 s) 41 (0, 0))) ∧ Aside0 (Below w.heap.size w wr)) (fun v50 _ => tl - (intOf v50).toNat)
        case atStart => exact ⟨0, Nat.zero_le _, rfl, HFT, HX, HO4, HK4, HB4⟩
        case round =>
          clear HFT HX HO4 HK4 HB4
          obtain ⟨i, hi, rfl, HFT, HX, HO, HK, HB⟩ := hrel
          by_cases hlt : i < tl
          · obtain ⟨ad, hA, h0⟩ := Kd.at_int HX.out (i : Int) (by omega) (by have := HTE.out; omega)
            subst hA
            rw [Int.toNat_natCast] at h0
            have hdrop : T.drop i = rd T i :: T.drop (i + 1) := by
              have h : i < T.length := by have := HTE.out; omega
              rw [List.drop_eq_getElem_cons h]; simp [rd, h]
            have HG2 := HFT.out
            rw [hdrop] at HG2
            simp only [firstLoop] at HG2
            clear hdrop HFT
            generalize rd T i = x at *
            have HS0 := Aside0.mk hs64
            cases hx : loopS (cnt (gOf al x) fun _ => none) al s.f0 with
            | none =>
              rw [hx] at HG2
              have HG3 := Aside0.mk HG2
              have HXX := Aside0.mk hx
              clear HG2 hx
              go_wp2
              refine wp_region_any (by kernel_rfl) ?_
              refine wpAny_of_last (S := fun w' => w'.cell? ⟨w.heap.size, 0, none⟩ = some (.int .i64 s.f0)) (ds := []) _ _ _ _ ?_
              change wpAnyLast _ _ _ _ _ _ 7 #[false, false, false, false, false, false, false] _ wr.drew
              obtain ⟨wd, hwd⟩ : ∃ wd, wd = wr.drew := ⟨_, rfl⟩
              have HD := Aside0.mk (show Below wr.heap.size wr wd by rw [hwd]; exact below_drew1 (Below.refl _ _))
              rw [← hwd]
              clear hwd
              have hHeld : wd.cell? ⟨w.heap.size, 0, none⟩ = some (.int .i64 s.f0) := (blk_cell (blk_below HK.out HD.out) 0).trans rfl
              refine pure_ (i := 0) (N := some 54) (v := ?_) (a' := ?_) #[true, false, false, false, false, false, false] rfl rfl (by kernel_rfl) (fun _ _ _ h => h) (Or.inl ⟨by rfl, ?_⟩) ?_ ?_
              rotate_left
              · intro w'
                go_simp
                with_reducible rfl
              rotate_left
              · simp only [Act.put, List.setIfInBounds_toArray, List.set_cons_zero, List.set_cons_succ, i64_w, i32_w]
                rfl
              refine pure_ (i := 1) (N := some 55) (v := ?_) (a' := ?_) #[true, true, false, false, false, false, false] rfl rfl (by kernel_rfl) (fun _ _ _ h => h) (Or.inl ⟨by rfl, ?_⟩) ?_ ?_
              rotate_left
              · intro w'
                go_simp
                with_reducible rfl
              rotate_left
              · simp only [Act.put, List.setIfInBounds_toArray, List.set_cons_zero, List.set_cons_succ, i64_w, i32_w]
                rfl
              refine pure_ (i := 3) (N := some 57) (v := ?_) (a' := ?_) #[true, true, false, true, false, false, false] rfl rfl (by kernel_rfl) (fun _ _ _ h => h) (Or.inl ⟨by rfl, ?_⟩) ?_ ?_
              rotate_left
              · intro w'
                go_simp
                with_reducible rfl
              rotate_left
              · simp only [Act.put, List.setIfInBounds_toArray, List.set_cons_zero, List.set_cons_succ, i64_w, i32_w]
                rfl
              refine take_ (i := 4) (N := some 58) (v := ?_) (a' := ?_) #[true, true, false, true, true, false, false] rfl rfl (by kernel_rfl) (fun _ _ _ h => h) (Or.inl ⟨by rfl, ?_⟩) hHeld ?_ ?_
              rotate_left
              · intro w' s0
                go_simp
                with_reducible rfl
              rotate_left
              · simp only [Act.put, List.setIfInBounds_toArray, List.set_cons_zero, List.set_cons_succ, i64_w, i32_w]
                rfl
              refine one_ (i := 2) (N := some 56) #[true, true, true, true, true, false, false] rfl rfl (by kernel_rfl) (by decide) (fun K hK => ?_)
              refine call_ 31 #[.slice Aa al.length ca, .slice none 0 0, .int .i64 x] (by rfl) rfl (by go_simp; done) ?_
              refine (at_calls Aa ca al none 0 [] x wd (Kd.C_below HO.out HD.out) (nilC37 wd) (by omega) (by simp) (HVF.out 0).wl (by simp)).mono ?_
              rintro e w5 ⟨b1, b2, rfl, hs, hc, hb5⟩
              refine ⟨_, rfl, ?_⟩
              have HS := Aside0.mk hs
              have HC := Aside0.mk hc
              have HB5 := Aside0.mk (below_step HD.out hb5)
              clear hs hc hb5
              refine hK.out _ _ ((blk_cell (blk_below HK.out HB5.out) 0).trans rfl) (fun hHeld => ?_)
              clear hK K
              refine norm_ (a' := ?_) ?_ ?_
              rotate_left
              · show Act.put _ (some 56) _ = _
                simp only [Act.put, List.setIfInBounds_toArray, List.set_cons_zero, List.set_cons_succ, i64_w, i32_w]
                rfl
              refine one_ (i := 5) (N := some 59) #[true, true, true, true, true, true, false] rfl rfl (by kernel_rfl) (by decide) (fun K hK => ?_)
              refine call_ 36 #[.agg #[.slice Aa al.length ca, .map (some b1), .map (some b2)], .int .i64 s.f0] (by rfl) rfl (by go_simp; done) ?_
              have HLC := Aside0.mk (loop_calls Aa ca al b1 b2 (gOf al x) (fun _ => none) s.f0 w5 (Kd.C_below HO.out HB5.out) (by omega) HS.out HC.out HS0.out (HVF.out x).g (fun x => by simpa using in64_zero) (HVF.out 0).wt (inj_gOf al x))
              refine (loop_none HLC.out HXX.out).mono ?_
              rintro e w6 ⟨rfl, hb6⟩
              refine ⟨_, rfl, ?_⟩
              have HB6 := Aside0.mk (below_step HB5.out hb6)
              clear hb6
              refine hK.out _ _ ((blk_cell (blk_below HK.out HB6.out) 0).trans rfl) (fun hHeld => ?_)
              clear hK K hHeld
              refine norm_ (a' := ?_) ?_ ?_
              rotate_left
              · show Act.put _ (some 59) _ = _
                simp only [Act.put, List.setIfInBounds_toArray, List.set_cons_zero, List.set_cons_succ, i64_w, i32_w]
                rfl
              refine pure_ (i := 6) (N := some 13) (v := ?_) (a' := ?_) #[true, true, true, true, true, true, true] rfl rfl (by kernel_rfl) (fun _ _ _ h => h) (Or.inl ⟨by rfl, ?_⟩) ?_ ?_
              rotate_left
              · intro w'
                go_simp
                with_reducible rfl
              rotate_left
              · simp only [Act.put, List.setIfInBounds_toArray, List.set_cons_zero, List.set_cons_succ, i64_w, i32_w]
                rfl
              refine done_ (by kernel_rfl) ?_
              go_wp2
              go_roundw
              case rel => exact ⟨i + 1, by omega, by go_num, HG3, ⟨Kd.C_below HX.out HB6.out⟩, ⟨Kd.C_below HO.out HB6.out⟩, ⟨blk_below HK.out HB6.out⟩, ⟨below_step HB.out HB6.out⟩⟩
              case measure => simp [intOf]; omega
            | some y =>
              rw [hx] at HG2
              simp only at HG2
              have HG3 := Aside0.mk (show r1 = x ∧ r2 = y ∧ r3 = true by simpa [eq_comm] using HG2)
              have HXX := Aside0.mk hx
              have HYN := Aside0.mk (loopS_in (cn := cnt (gOf al x) fun _ => none) (to_in (HVF.out 0).wt) HS0.out hx).1
              clear HG2 hx
              go_wp2
              refine wp_region_any (by kernel_rfl) ?_
              refine wpAny_of_last (S := fun w' => w'.cell? ⟨w.heap.size, 0, none⟩ = some (.int .i64 s.f0)) (ds := []) _ _ _ _ ?_
              change wpAnyLast _ _ _ _ _ _ 7 #[false, false, false, false, false, false, false] _ wr.drew
              obtain ⟨wd, hwd⟩ : ∃ wd, wd = wr.drew := ⟨_, rfl⟩
              have HD := Aside0.mk (show Below wr.heap.size wr wd by rw [hwd]; exact below_drew1 (Below.refl _ _))
              rw [← hwd]
              clear hwd
              have hHeld : wd.cell? ⟨w.heap.size, 0, none⟩ = some (.int .i64 s.f0) := (blk_cell (blk_below HK.out HD.out) 0).trans rfl
              refine pure_ (i := 0) (N := some 54) (v := ?_) (a' := ?_) #[true, false, false, false, false, false, false] rfl rfl (by kernel_rfl) (fun _ _ _ h => h) (Or.inl ⟨by rfl, ?_⟩) ?_ ?_
              rotate_left
              · intro w'
                go_simp
                with_reducible rfl
              rotate_left
              · simp only [Act.put, List.setIfInBounds_toArray, List.set_cons_zero, List.set_cons_succ, i64_w, i32_w]
                rfl
              refine pure_ (i := 1) (N := some 55) (v := ?_) (a' := ?_) #[true, true, false, false, false, false, false] rfl rfl (by kernel_rfl) (fun _ _ _ h => h) (Or.inl ⟨by rfl, ?_⟩) ?_ ?_
              rotate_left
              · intro w'
                go_simp
                with_reducible rfl
              rotate_left
              · simp only [Act.put, List.setIfInBounds_toArray, List.set_cons_zero, List.set_cons_succ, i64_w, i32_w]
                rfl
              refine pure_ (i := 3) (N := some 57) (v := ?_) (a' := ?_) #[true, true, false, true, false, false, false] rfl rfl (by kernel_rfl) (fun _ _ _ h => h) (Or.inl ⟨by rfl, ?_⟩) ?_ ?_
              rotate_left
              · intro w'
                go_simp
                with_reducible rfl
              rotate_left
              · simp only [Act.put, List.setIfInBounds_toArray, List.set_cons_zero, List.set_cons_succ, i64_w, i32_w]
                rfl
              refine take_ (i := 4) (N := some 58) (v := ?_) (a' := ?_) #[true, true, false, true, true, false, false] rfl rfl (by kernel_rfl) (fun _ _ _ h => h) (Or.inl ⟨by rfl, ?_⟩) hHeld ?_ ?_
              rotate_left
              · intro w' s0
                go_simp
                with_reducible rfl
              rotate_left
              · simp only [Act.put, List.setIfInBounds_toArray, List.set_cons_zero, List.set_cons_succ, i64_w, i32_w]
                rfl
              refine one_ (i := 2) (N := some 56) #[true, true, true, true, true, false, false] rfl rfl (by kernel_rfl) (by decide) (fun K hK => ?_)
              refine call_ 31 #[.slice Aa al.length ca, .slice none 0 0, .int .i64 x] (by rfl) rfl (by go_simp; done) ?_
              refine (at_calls Aa ca al none 0 [] x wd (Kd.C_below HO.out HD.out) (nilC37 wd) (by omega) (by simp) (HVF.out 0).wl (by simp)).mono ?_
              rintro e w5 ⟨b1, b2, rfl, hs, hc, hb5⟩
              refine ⟨_, rfl, ?_⟩
              have HS := Aside0.mk hs
              have HC := Aside0.mk hc
              have HB5 := Aside0.mk (below_step HD.out hb5)
              clear hs hc hb5
              refine hK.out _ _ ((blk_cell (blk_below HK.out HB5.out) 0).trans rfl) (fun hHeld => ?_)
              clear hK K
              refine norm_ (a' := ?_) ?_ ?_
              rotate_left
              · show Act.put _ (some 56) _ = _
                simp only [Act.put, List.setIfInBounds_toArray, List.set_cons_zero, List.set_cons_succ, i64_w, i32_w]
                rfl
              refine one_ (i := 5) (N := some 59) #[true, true, true, true, true, true, false] rfl rfl (by kernel_rfl) (by decide) (fun K hK => ?_)
              refine call_ 36 #[.agg #[.slice Aa al.length ca, .map (some b1), .map (some b2)], .int .i64 s.f0] (by rfl) rfl (by go_simp; done) ?_
              have HLC := Aside0.mk (loop_calls Aa ca al b1 b2 (gOf al x) (fun _ => none) s.f0 w5 (Kd.C_below HO.out HB5.out) (by omega) HS.out HC.out HS0.out (HVF.out x).g (fun x => by simpa using in64_zero) (HVF.out 0).wt (inj_gOf al x))
              refine (loop_some HLC.out HXX.out HYN.out).mono ?_
              rintro e w6 ⟨gx, cx, rfl, hR6, hc6, hb6⟩
              refine ⟨_, rfl, ?_⟩
              have HR6 := Aside0.mk (Kd.R_lower hR6 (below_size (below_step HB.out HB5.out)))
              have HB6 := Aside0.mk (below_step HB5.out hb6)
              clear hb6 hR6 hc6
              refine hK.out _ _ ((blk_cell (blk_below HK.out HB6.out) 0).trans rfl) (fun hHeld => ?_)
              clear hK K hHeld
              refine norm_ (a' := ?_) ?_ ?_
              rotate_left
              · show Act.put _ (some 59) _ = _
                simp only [Act.put, List.setIfInBounds_toArray, List.set_cons_zero, List.set_cons_succ, i64_w, i32_w]
                rfl
              refine pure_ (i := 6) (N := some 13) (v := ?_) (a' := ?_) #[true, true, true, true, true, true, true] rfl rfl (by kernel_rfl) (fun _ _ _ h => h) (Or.inl ⟨by rfl, ?_⟩) ?_ ?_
              rotate_left
              · intro w'
                go_simp
                with_reducible rfl
              rotate_left
              · simp only [Act.put, List.setIfInBounds_toArray, List.set_cons_zero, List.set_cons_succ, i64_w, i32_w]
                rfl
              refine done_ (by kernel_rfl) ?_
              go_wp2
              go_ret3
              obtain ⟨rfl, rfl, rfl⟩ := HG3.out
              exact ⟨_, rfl, HR6.out, below_step HB.out HB6.out⟩
          · obtain rfl : i = tl := by omega
            have HG2 := HFT.out
            rw [List.drop_eq_nil_of_le (by have := HTE.out; omega)] at HG2
            simp only [firstLoop] at HG2
            have HV2 := Aside0.mk (show r1 = 0 ∧ r2 = [] ∧ r3 = false by simpa [eq_comm] using HG2)
            clear HG2 HFT
            go_wp2
            go_ret3
            obtain ⟨rfl, rfl, rfl⟩ := HV2.out
            exact ⟨_, rfl, Kd.R_nil _ _ _ _ _, HB.out⟩
end Go.Proofs.YtkfejgdeknemaaaGreatDoor.Fw
end
section
open Go.Proofs.YtkfejgdeknemaaaGreatDoor.Z
namespace Go.Proofs.YtkfejgdeknemaaaGreatDoor.Fw
open Go.RowKit Go.Proofs.YtkfejgdeknemaaaGreatDoorW.PrintWords Go.Proofs.YtkfejgdeknemaaaGreatDoorW.PrintLast Go.Proofs.YtkfejgdeknemaaaGreatDoorW.PrintMore
attribute [local go_sem] max2_int min2_int max_two min_two max_three min_three max_four min_four
set_option linter.unusedVariables false
set_option linter.unusedSimpArgs false
attribute [local go_sem high] eqA41
mutual
def dialtonelaw22_sane_rest.j0 : Nat → List (S37) → List (S37) → List (List Int) → List Int → Bool → Int → Int → Int → Int → Int → Int → Int → Int → Int → Int → Option (Bool)
 | 0, _, _, _, _, _, _, _, _, _, _, _, _, _, _, _ => none
 | k + 1, x1, x2, x6, x9, x125, x248000, x248001, x248002, x248003, x248004, x255000, x255001, x255002, x255003, x255004 => if x125 = true then (none) else ((dialtonelaw22_ends.f k ([] : List (S37)) 100 1 (([10, 20] : List Int)) (([0] : List Int))).bind fun t268 => (if t268 = true then ((dialtonelaw22_ends.f k x1 100 1 (([10, 20, 30] : List Int)) (([0, 1] : List Int))).bind fun t275 => (if t275 = true then ((dialtonelaw22_ends.f k x2 100 2 (([10, 20, 30] : List Int)) (([0, 1] : List Int))).bind fun t282 => (if t282 = true then ((dialtonelaw22_ends.f k x1 600 5 (([10, 20, 30, 10] : List Int)) (([0, 1, 2] : List Int))).bind fun t289 => (if t289 = true then ((dialtonelaw22_ends.f k ([] : List (S37)) 1000 1 (([10] : List Int)) ([] : List Int)).bind fun t293 => (dialtonelaw22_sane_rest.j1 k x2 x6 x9 t293 x248000 x248001 x248002 x248003 x248004 x255000 x255001 x255002 x255003 x255004)) else (none))) else (none))) else (none))) else (none)))
def dialtonelaw22_sane_rest.j1 : Nat → List (S37) → List (List Int) → List Int → Bool → Int → Int → Int → Int → Int → Int → Int → Int → Int → Int → Option (Bool)
 | 0, _, _, _, _, _, _, _, _, _, _, _, _, _, _ => none
 | k + 1, x2, x6, x9, x23, x248000, x248001, x248002, x248003, x248004, x255000, x255001, x255002, x255003, x255004 => (dialtoneref22_SameLoops.f k x6 (([(([10, 20, 30] : List Int))] : List (List Int)))).bind fun t300 => (if t300 = true then ((dialtoneref22_Ints.f k x9 (([10, 20, 30] : List Int))).bind fun t304 => (if t304 = true then ((forward_Payers.f 0 (([10, 20, 30] : List Int)) ([] : List Int)).bind fun t308 => ((dialtoneref22_Ints.f k t308 (([(-1), 10, 20] : List Int))).bind fun t314 => (dialtonelaw22_sane_rest.j2 k x2 x23 t314 x248000 x248001 x248002 x248003 x248004 x255000 x255001 x255002 x255003 x255004))) else (none))) else (none))
def dialtonelaw22_sane_rest.j2 : Nat → List (S37) → Bool → Bool → Int → Int → Int → Int → Int → Int → Int → Int → Int → Int → Option (Bool)
 | 0, _, _, _, _, _, _, _, _, _, _, _, _, _ => none
 | k + 1, x2, x23, x24, x248000, x248001, x248002, x248003, x248004, x255000, x255001, x255002, x255003, x255004 => if x23 = true then (if x24 = true then (if (x248000 == x255000 && (x248001 == x255001 && (x248002 == x255002 && ((x248003 == x255003 && (x248004 == x255004)))))) = true then (if (x248000 == 10 && (x248001 == 2 && (x248002 == 34000567 && ((x248003 == 0 && (x248004 == 9)))))) = true then ((dialtonelaw22_settings.f).bind fun t315 => ((forward_Valid.f t315 x2).bind fun t318 => (if t318 = true then ((dialtonelaw22_settings.f).bind fun t319 => ((dialtonelaw22_settings.f).bind fun t322 => (if 0 < (t322.length : Int) then (if t319.length < 3518437208883 then ((forward_Valid.f (t319 ++ [(⟨(rd_T41 t322 0).f0, (rd_T41 t322 0).f1, (rd_T41 t322 0).f2, (⟨(rd_T41 t322 0).f3.f0, (rd_T41 t322 0).f3.f1⟩ : S39)⟩ : S41)]) ([] : List (S37))).bind fun t329 => (if t329 = true then (none) else ((dialtonelaw22_settings.f).bind fun t330 => ((forward_Check.f k t330 ([] : List (S37)) 10 100 0 ([] : List Int) ([] : List Int)).bind fun t333 => (some (!t333)))))) else (none)) else (none)))) else (none)))) else (none)) else (none)) else (none)) else (none)
end
def dialtonelaw22_sane_rest.f (k : Nat) (l0 : List (S37)) (l1 : List (S37)) : Option (Bool) := (dialtonelaw22_settings.f).bind fun t192 => ((forward_Loops.f t192 600).bind fun bt195 => ((dialtonelaw22_settings.f).bind fun t199 => (if t199.length < 3518437208883 then ((some (t199 ++ [(⟨20, 1, 30, (⟨100, 2000⟩ : S39)⟩ : S41)] : List (S41))).bind fun y202 => ((forward_Loops.f y202 600).bind fun bt205 => ((dialtonelaw22_settings.f).bind fun t209 => (if 3 < (y202.length : Int) then ((forward_Creates.f t209 ((rd_T41 y202 3).f0) ((rd_T41 y202 3).f1) ((rd_T41 y202 3).f2) ((rd_T41 y202 3).f3.f0) ((rd_T41 y202 3).f3.f1)).bind fun bt213 => ((dialtonelaw22_settings.f).bind fun t218 => ((forward_Creates.f t218 20 1 30 100 500).bind fun bt221 => ((dialtonelaw22_settings.f).bind fun t226 => ((forward_Resolve.f t226 ([] : List (S37)) (-1) 0).bind fun bt229 => ((some (([(⟨(⟨#[49, 50]⟩ : ByteArray), (⟨#[51, 52]⟩ : ByteArray), 5⟩ : S58)] : List (S58)) : List (S58))).bind fun y238 => ((forward_Dial.f k y238 2 10 2 (⟨#[49, 50, 53, 54, 55]⟩ : ByteArray) 0 9).bind fun bt241 => ((forward_Dial.f k y238 2 10 2 (⟨#[51, 52, 48, 48, 48, 53, 54, 55]⟩ : ByteArray) 0 9).bind fun bt248 => ((forward_Dial.f k y238 2 10 2 (⟨#[49, 50, 53, 54, 55, 56]⟩ : ByteArray) 0 9).bind fun bt255 => (if bt195.2 = 0 then (if bt205.2 = 0 then (if bt229.2.2.2 = 220 then (if bt241.2.2.2.2.2 = 0 then (if bt248.2.2.2.2.2 = 0 then (if bt255.2.2.2.2.2 = 220 then (if bt213.2.2 = true then (if bt221.2.2 = true then (none) else (if (bt195.1.length : Int) = 0 then (dialtonelaw22_sane_rest.j0 k l0 l1 bt205.1 bt213.2.1 (bt213.1 != 500) bt241.1 bt241.2.1 bt241.2.2.1 bt241.2.2.2.1 bt241.2.2.2.2.1 bt248.1 bt248.2.1 bt248.2.2.1 bt248.2.2.2.1 bt248.2.2.2.2.1) else (none))) else (none)) else (none)) else (none)) else (none)) else (none)) else (none)) else (none))))))))))) else (none))))) else (none))))
theorem dialtonelaw22_sane_rest.mono_l : ∀ k, (∀ y0 y1 y2 y3 y4 y5 y6 y7 y8 y9 y10 y11 y12 y13 y14, LeO (dialtonelaw22_sane_rest.j0 k y0 y1 y2 y3 y4 y5 y6 y7 y8 y9 y10 y11 y12 y13 y14) (dialtonelaw22_sane_rest.j0 (k + 1) y0 y1 y2 y3 y4 y5 y6 y7 y8 y9 y10 y11 y12 y13 y14)) ∧ (∀ y0 y1 y2 y3 y4 y5 y6 y7 y8 y9 y10 y11 y12 y13, LeO (dialtonelaw22_sane_rest.j1 k y0 y1 y2 y3 y4 y5 y6 y7 y8 y9 y10 y11 y12 y13) (dialtonelaw22_sane_rest.j1 (k + 1) y0 y1 y2 y3 y4 y5 y6 y7 y8 y9 y10 y11 y12 y13)) ∧ (∀ y0 y1 y2 y3 y4 y5 y6 y7 y8 y9 y10 y11 y12, LeO (dialtonelaw22_sane_rest.j2 k y0 y1 y2 y3 y4 y5 y6 y7 y8 y9 y10 y11 y12) (dialtonelaw22_sane_rest.j2 (k + 1) y0 y1 y2 y3 y4 y5 y6 y7 y8 y9 y10 y11 y12))
 | 0 => ⟨fun _ _ _ _ _ _ _ _ _ _ _ _ _ _ _ r h => by simp [dialtonelaw22_sane_rest.j0] at h, fun _ _ _ _ _ _ _ _ _ _ _ _ _ _ r h => by simp [dialtonelaw22_sane_rest.j1] at h, fun _ _ _ _ _ _ _ _ _ _ _ _ _ r h => by simp [dialtonelaw22_sane_rest.j2] at h⟩
 | k + 1 => by
  obtain ⟨ih0, ih1, ih2⟩ := dialtonelaw22_sane_rest.mono_l k
  refine ⟨?_, ?_, ?_⟩
  ·intro y0 y1 y2 y3 y4 y5 y6 y7 y8 y9 y10 y11 y12 y13 y14
   unfold dialtonelaw22_sane_rest.j0
   repeat' first
   | (with_reducible exact ih0 _ _ _ _ _ _ _ _ _ _ _ _ _ _ _)
   | (with_reducible exact ih1 _ _ _ _ _ _ _ _ _ _ _ _ _ _)
   | (with_reducible exact ih2 _ _ _ _ _ _ _ _ _ _ _ _ _)
   | (with_reducible exact dialtonelaw22_ends.mono _ _ _ _ _ _)
   | (with_reducible exact dialtoneref22_Ints.mono _ _ _)
   | (with_reducible exact dialtoneref22_SameLoops.mono _ _ _)
   | (with_reducible exact forward_Check.mono _ _ _ _ _ _ _ _)
   | (with_reducible exact forward_Dial.mono _ _ _ _ _ _ _ _)
   | (with_reducible exact LeO.refl _)
   | (with_reducible exact LeO.none _)
   | (with_reducible refine LeO.ite ?_ ?_)
   | (with_reducible refine LeO.bind ?_ (fun _ => ?_))
   | exact ih0 _ _ _ _ _ _ _ _ _ _ _ _ _ _ _
   | exact ih1 _ _ _ _ _ _ _ _ _ _ _ _ _ _
   | exact ih2 _ _ _ _ _ _ _ _ _ _ _ _ _
   | exact dialtonelaw22_ends.mono _ _ _ _ _ _
   | exact dialtoneref22_Ints.mono _ _ _
   | exact dialtoneref22_SameLoops.mono _ _ _
   | exact forward_Check.mono _ _ _ _ _ _ _ _
   | exact forward_Dial.mono _ _ _ _ _ _ _ _
   | exact LeO.none _
   | refine LeO.ite ?_ ?_
   | refine LeO.bind ?_ (fun _ => ?_)
  ·intro y0 y1 y2 y3 y4 y5 y6 y7 y8 y9 y10 y11 y12 y13
   unfold dialtonelaw22_sane_rest.j1
   repeat' first
   | (with_reducible exact ih0 _ _ _ _ _ _ _ _ _ _ _ _ _ _ _)
   | (with_reducible exact ih1 _ _ _ _ _ _ _ _ _ _ _ _ _ _)
   | (with_reducible exact ih2 _ _ _ _ _ _ _ _ _ _ _ _ _)
   | (with_reducible exact dialtonelaw22_ends.mono _ _ _ _ _ _)
   | (with_reducible exact dialtoneref22_Ints.mono _ _ _)
   | (with_reducible exact dialtoneref22_SameLoops.mono _ _ _)
   | (with_reducible exact forward_Check.mono _ _ _ _ _ _ _ _)
   | (with_reducible exact forward_Dial.mono _ _ _ _ _ _ _ _)
   | (with_reducible exact LeO.refl _)
   | (with_reducible exact LeO.none _)
   | (with_reducible refine LeO.ite ?_ ?_)
   | (with_reducible refine LeO.bind ?_ (fun _ => ?_))
   | exact ih0 _ _ _ _ _ _ _ _ _ _ _ _ _ _ _
   | exact ih1 _ _ _ _ _ _ _ _ _ _ _ _ _ _
   | exact ih2 _ _ _ _ _ _ _ _ _ _ _ _ _
   | exact dialtonelaw22_ends.mono _ _ _ _ _ _
   | exact dialtoneref22_Ints.mono _ _ _
   | exact dialtoneref22_SameLoops.mono _ _ _
   | exact forward_Check.mono _ _ _ _ _ _ _ _
   | exact forward_Dial.mono _ _ _ _ _ _ _ _
   | exact LeO.none _
   | refine LeO.ite ?_ ?_
   | refine LeO.bind ?_ (fun _ => ?_)
  ·intro y0 y1 y2 y3 y4 y5 y6 y7 y8 y9 y10 y11 y12
   unfold dialtonelaw22_sane_rest.j2
   repeat' first
   | (with_reducible exact ih0 _ _ _ _ _ _ _ _ _ _ _ _ _ _ _)
   | (with_reducible exact ih1 _ _ _ _ _ _ _ _ _ _ _ _ _ _)
   | (with_reducible exact ih2 _ _ _ _ _ _ _ _ _ _ _ _ _)
   | (with_reducible exact dialtonelaw22_ends.mono _ _ _ _ _ _)
   | (with_reducible exact dialtoneref22_Ints.mono _ _ _)
   | (with_reducible exact dialtoneref22_SameLoops.mono _ _ _)
   | (with_reducible exact forward_Check.mono _ _ _ _ _ _ _ _)
   | (with_reducible exact forward_Dial.mono _ _ _ _ _ _ _ _)
   | (with_reducible exact LeO.refl _)
   | (with_reducible exact LeO.none _)
   | (with_reducible refine LeO.ite ?_ ?_)
   | (with_reducible refine LeO.bind ?_ (fun _ => ?_))
   | exact ih0 _ _ _ _ _ _ _ _ _ _ _ _ _ _ _
   | exact ih1 _ _ _ _ _ _ _ _ _ _ _ _ _ _
   | exact ih2 _ _ _ _ _ _ _ _ _ _ _ _ _
   | exact dialtonelaw22_ends.mono _ _ _ _ _ _
   | exact dialtoneref22_Ints.mono _ _ _
   | exact dialtoneref22_SameLoops.mono _ _ _
   | exact forward_Check.mono _ _ _ _ _ _ _ _
   | exact forward_Dial.mono _ _ _ _ _ _ _ _
   | exact LeO.none _
   | refine LeO.ite ?_ ?_
   | refine LeO.bind ?_ (fun _ => ?_)
theorem dialtonelaw22_sane_rest.mono : ∀ a0 a1 k, LeO (dialtonelaw22_sane_rest.f k a0 a1) (dialtonelaw22_sane_rest.f (k + 1) a0 a1) := by
 intro a0 a1 k
 obtain ⟨ih0, ih1, ih2⟩ := dialtonelaw22_sane_rest.mono_l k
 unfold dialtonelaw22_sane_rest.f
 repeat' first
  | (with_reducible exact ih0 _ _ _ _ _ _ _ _ _ _ _ _ _ _ _)
  | (with_reducible exact ih1 _ _ _ _ _ _ _ _ _ _ _ _ _ _)
  | (with_reducible exact ih2 _ _ _ _ _ _ _ _ _ _ _ _ _)
  | (with_reducible exact dialtonelaw22_ends.mono _ _ _ _ _ _)
  | (with_reducible exact dialtoneref22_Ints.mono _ _ _)
  | (with_reducible exact dialtoneref22_SameLoops.mono _ _ _)
  | (with_reducible exact forward_Check.mono _ _ _ _ _ _ _ _)
  | (with_reducible exact forward_Dial.mono _ _ _ _ _ _ _ _)
  | (with_reducible exact LeO.refl _)
  | (with_reducible exact LeO.none _)
  | (with_reducible refine LeO.ite ?_ ?_)
  | (with_reducible refine LeO.bind ?_ (fun _ => ?_))
  | exact ih0 _ _ _ _ _ _ _ _ _ _ _ _ _ _ _
  | exact ih1 _ _ _ _ _ _ _ _ _ _ _ _ _ _
  | exact ih2 _ _ _ _ _ _ _ _ _ _ _ _ _
  | exact dialtonelaw22_ends.mono _ _ _ _ _ _
  | exact dialtoneref22_Ints.mono _ _ _
  | exact dialtoneref22_SameLoops.mono _ _ _
  | exact forward_Check.mono _ _ _ _ _ _ _ _
  | exact forward_Dial.mono _ _ _ _ _ _ _ _
  | exact LeO.none _
  | refine LeO.ite ?_ ?_
  | refine LeO.bind ?_ (fun _ => ?_)
noncomputable def dialtonelaw22_sane_rest.code : Code := codeAt [1, 1, 1] ((Tryz.f7.body).getD .skip)
def dialtonelaw22_sane_rest.T6 : Bool × List (List Nat × List Nat) := (true, [([], []), ([], []), ([1], [1]), ([2], [2]), ([0, 3, 0], [0, 3]), ([4], [4]), ([5], [5]), ([5], [5]), ([5], [5]), ([6, 4, 0, 1, 2, 3, 4, 5, 6], [6]), ([7, 9, 0, 1, 2, 3, 4, 5, 6, 7, 9], [7]), ([8, 10, 0, 1, 2, 3, 4, 5, 6, 7, 8, 9, 10], [8])])
def dialtonelaw22_sane_rest.B6 : List Nat := [0, 0, 2, 6, 15, 31, 63, 63, 63, 127, 767, 2047]
theorem dialtonelaw22_sane_rest.tab6 : rtab .any (opsOf Tryz.f7 6) = dialtonelaw22_sane_rest.T6 := by kernel_rfl
theorem dialtonelaw22_sane_rest.bits6 : waitsOk dialtonelaw22_sane_rest.T6.2 dialtonelaw22_sane_rest.B6 = true := by kernel_rfl
set_option maxHeartbeats 8000000 in
set_option maxRecDepth 100000 in
theorem dialtonelaw22_sane_rest.calls (k : Nat) {u0 u3 u4 u5 u6 u7 u8 u9 u10 u11 u12 u13 u14 u15 u16 u17 u18 u19 u20 u21 u22 u23 u24 u25 u26 u27 u28 u29 u30 u31 u32 u33 u34 u35 u36 u37 u38 u39 u40 u41 u42 u43 u44 u45 u46 u47 u48 u49 u50 u51 u52 u53 u54 u55 u56 u57 u58 u59 u60 u61 u62 u63 u64 u65 u66 u67 u68 u69 u70 u71 u72 u73 u74 u75 u76 u77 u78 u79 u80 u81 u82 u83 u84 u85 u86 u87 u88 u89 u90 u91 u92 u93 u94 u95 u96 u97 u98 u99 u100 u101 u102 u103 u104 u105 u106 u107 u108 u109 u110 u111 u112 u113 u114 u115 u116 u117 u118 u119 u120 u121 u122 u123 u124 u125 u126 u127 u128 u129 u130 u131 u132 u133 u134 u135 u136 u137 u138 u139 u140 u141 u142 u143 u144 u145 u146 u147 u148 u149 u150 u151 u152 u153 u154 u155 u156 u157 u158 u159 u160 u161 u162 u163 u164 u165 u166 u167 u168 u169 u170 u171 u172 u173 u174 u175 u176 u177 u178 u179 u180 u181 u182 u183 u184 u185 u186 u187 u188 u189 u190 u191 u192 u193 u194 u195 u196 u197 u198 u199 u200 u201 u202 : Value} (A0 : Option Addr) (c0 : Nat) (l0 : List (S37)) (A1 : Option Addr) (c1 : Nat) (l1 : List (S37)) (r : Bool) (w : World) (hr0 : Kd.C k37 w A0 l0.length l0) (hc0 : l0.length ≤ c0) (hr1 : Kd.C k37 w A1 l1.length l1) (hc1 : l1.length ≤ c1) (h : dialtonelaw22_sane_rest.f k l0 l1 = some r) :
 Code.wp Tryz.prog dialtonelaw22_sane_rest.code (bodyPost Tryz.prog Tryz.f7 (fun e w' => e = .returned (.bool r) ∧ Below w.heap.size w w')) ⟨#[u0, .slice A0 l0.length c0, .slice A1 l1.length c1, u3, u4, u5, u6, u7, u8, u9, u10, u11, u12, u13, u14, u15, u16, u17, u18, u19, u20, u21, u22, u23, u24, u25, u26, u27, u28, u29, u30, u31, u32, u33, u34, u35, u36, u37, u38, u39, u40, u41, u42, u43, u44, u45, u46, u47, u48, u49, u50, u51, u52, u53, u54, u55, u56, u57, u58, u59, u60, u61, u62, u63, u64, u65, u66, u67, u68, u69, u70, u71, u72, u73, u74, u75, u76, u77, u78, u79, u80, u81, u82, u83, u84, u85, u86, u87, u88, u89, u90, u91, u92, u93, u94, u95, u96, u97, u98, u99, u100, u101, u102, u103, u104, u105, u106, u107, u108, u109, u110, u111, u112, u113, u114, u115, u116, u117, u118, u119, u120, u121, u122, u123, u124, u125, u126, u127, u128, u129, u130, u131, u132, u133, u134, u135, u136, u137, u138, u139, u140, u141, u142, u143, u144, u145, u146, u147, u148, u149, u150, u151, u152, u153, u154, u155, u156, u157, u158, u159, u160, u161, u162, u163, u164, u165, u166, u167, u168, u169, u170, u171, u172, u173, u174, u175, u176, u177, u178, u179, u180, u181, u182, u183, u184, u185, u186, u187, u188, u189, u190, u191, u192, u193, u194, u195, u196, u197, u198, u199, u200, u201, u202], []⟩ w := by
 have hu39 := Tryz.underlying39
 have hu41 := Tryz.underlying41
 have hu31 := Tryz.underlying31
 have hu58 := Tryz.underlying58
 have HR0 := Aside0.mk hr0
 have HC0 := Aside0.mk hc0
 clear hr0 hc0
 have HR1 := Aside0.mk hr1
 have HC1 := Aside0.mk hc1
 clear hr1 hc1
 have HB := Aside0.mk (Below.refl w.heap.size w)
 have H : ((dialtonelaw22_settings.f).bind fun t192 => ((forward_Loops.f t192 600).bind fun bt195 => ((dialtonelaw22_settings.f).bind fun t199 => (if t199.length < 3518437208883 then ((some (t199 ++ [(⟨20, 1, 30, (⟨100, 2000⟩ : S39)⟩ : S41)] : List (S41))).bind fun y202 => ((forward_Loops.f y202 600).bind fun bt205 => ((dialtonelaw22_settings.f).bind fun t209 => (if 3 < (y202.length : Int) then ((forward_Creates.f t209 ((rd_T41 y202 3).f0) ((rd_T41 y202 3).f1) ((rd_T41 y202 3).f2) ((rd_T41 y202 3).f3.f0) ((rd_T41 y202 3).f3.f1)).bind fun bt213 => ((dialtonelaw22_settings.f).bind fun t218 => ((forward_Creates.f t218 20 1 30 100 500).bind fun bt221 => ((dialtonelaw22_settings.f).bind fun t226 => ((forward_Resolve.f t226 ([] : List (S37)) (-1) 0).bind fun bt229 => ((some (([(⟨(⟨#[49, 50]⟩ : ByteArray), (⟨#[51, 52]⟩ : ByteArray), 5⟩ : S58)] : List (S58)) : List (S58))).bind fun y238 => ((forward_Dial.f k y238 2 10 2 (⟨#[49, 50, 53, 54, 55]⟩ : ByteArray) 0 9).bind fun bt241 => ((forward_Dial.f k y238 2 10 2 (⟨#[51, 52, 48, 48, 48, 53, 54, 55]⟩ : ByteArray) 0 9).bind fun bt248 => ((forward_Dial.f k y238 2 10 2 (⟨#[49, 50, 53, 54, 55, 56]⟩ : ByteArray) 0 9).bind fun bt255 => (if bt195.2 = 0 then (if bt205.2 = 0 then (if bt229.2.2.2 = 220 then (if bt241.2.2.2.2.2 = 0 then (if bt248.2.2.2.2.2 = 0 then (if bt255.2.2.2.2.2 = 220 then (if bt213.2.2 = true then (if bt221.2.2 = true then (none) else (if (bt195.1.length : Int) = 0 then (dialtonelaw22_sane_rest.j0 k l0 l1 bt205.1 bt213.2.1 (bt213.1 != 500) bt241.1 bt241.2.1 bt241.2.2.1 bt241.2.2.2.1 bt241.2.2.2.2.1 bt248.1 bt248.2.1 bt248.2.2.1 bt248.2.2.2.1 bt248.2.2.2.2.1) else (none))) else (none)) else (none)) else (none)) else (none)) else (none)) else (none)) else (none))))))))))) else (none))))) else (none))))) = some r := h
 clear h
 replace H := Option.bind_eq_some_iff.mp H
 obtain ⟨t192, A30, H⟩ := H
 try dsimp only at H
 have A3 := Aside0.mk A30
 clear A30
 replace H := Option.bind_eq_some_iff.mp H
 obtain ⟨⟨t195, t196⟩, A40, H⟩ := H
 try dsimp only at H
 have A4 := Aside0.mk A40
 clear A40
 replace H := Option.bind_eq_some_iff.mp H
 obtain ⟨t199, A50, H⟩ := H
 try dsimp only at H
 have A5 := Aside0.mk A50
 clear A50
 by_cases c6 : t199.length < 3518437208883
 rotate_left
 ·rw [if_neg c6] at H
  exact absurd H (by simp)
 rw [if_pos c6] at H
 have LMc6 := Aside0.mk c6
 clear c6
 obtain ⟨y202, hy202⟩ : ∃ y_ : List (S41), y_ = (t199 ++ [(⟨20, 1, 30, (⟨100, 2000⟩ : S39)⟩ : S41)]) := ⟨_, rfl⟩
 replace H : ((forward_Loops.f y202 600).bind fun bt205 => ((dialtonelaw22_settings.f).bind fun t209 => (if 3 < (y202.length : Int) then ((forward_Creates.f t209 ((rd_T41 y202 3).f0) ((rd_T41 y202 3).f1) ((rd_T41 y202 3).f2) ((rd_T41 y202 3).f3.f0) ((rd_T41 y202 3).f3.f1)).bind fun bt213 => ((dialtonelaw22_settings.f).bind fun t218 => ((forward_Creates.f t218 20 1 30 100 500).bind fun bt221 => ((dialtonelaw22_settings.f).bind fun t226 => ((forward_Resolve.f t226 ([] : List (S37)) (-1) 0).bind fun bt229 => ((some (([(⟨(⟨#[49, 50]⟩ : ByteArray), (⟨#[51, 52]⟩ : ByteArray), 5⟩ : S58)] : List (S58)) : List (S58))).bind fun y238 => ((forward_Dial.f k y238 2 10 2 (⟨#[49, 50, 53, 54, 55]⟩ : ByteArray) 0 9).bind fun bt241 => ((forward_Dial.f k y238 2 10 2 (⟨#[51, 52, 48, 48, 48, 53, 54, 55]⟩ : ByteArray) 0 9).bind fun bt248 => ((forward_Dial.f k y238 2 10 2 (⟨#[49, 50, 53, 54, 55, 56]⟩ : ByteArray) 0 9).bind fun bt255 => (if t196 = 0 then (if bt205.2 = 0 then (if bt229.2.2.2 = 220 then (if bt241.2.2.2.2.2 = 0 then (if bt248.2.2.2.2.2 = 0 then (if bt255.2.2.2.2.2 = 220 then (if bt213.2.2 = true then (if bt221.2.2 = true then (none) else (if (t195.length : Int) = 0 then (dialtonelaw22_sane_rest.j0 k l0 l1 bt205.1 bt213.2.1 (bt213.1 != 500) bt241.1 bt241.2.1 bt241.2.2.1 bt241.2.2.2.1 bt241.2.2.2.2.1 bt248.1 bt248.2.1 bt248.2.2.1 bt248.2.2.2.1 bt248.2.2.2.2.1) else (none))) else (none)) else (none)) else (none)) else (none)) else (none)) else (none)) else (none))))))))))) else (none)))) = some r := by first | (rw [hy202]; with_reducible exact H) | (have H2_ := (Option.bind_some _ _).symm.trans H; rw [hy202]; with_reducible exact H2_) | (have H2_ := (Option.bind_some _ _).symm.trans H; with_reducible exact H2_) | with_reducible exact H | (rw [hy202]; exact H) | exact H
 have Ny202 := Aside0.mk hy202
 clear hy202
 replace H := Option.bind_eq_some_iff.mp H
 obtain ⟨⟨t205, t206⟩, A70, H⟩ := H
 try dsimp only at H
 have A7 := Aside0.mk A70
 clear A70
 replace H := Option.bind_eq_some_iff.mp H
 obtain ⟨t209, A80, H⟩ := H
 try dsimp only at H
 have A8 := Aside0.mk A80
 clear A80
 by_cases c9 : 3 < (y202.length : Int)
 rotate_left
 ·rw [if_neg c9] at H
  exact absurd H (by simp)
 rw [if_pos c9] at H
 have c9b0 : decide (3 < (y202.length : Int)) = true := decide_eq_true c9
 have c9b1 : decide (3 < y202.length) = true := decide_eq_true (by omega)
 clear c9
 replace H := Option.bind_eq_some_iff.mp H
 obtain ⟨⟨t213, t214, t217⟩, A100, H⟩ := H
 try dsimp only at H
 have A10 := Aside0.mk A100
 clear A100
 replace H := Option.bind_eq_some_iff.mp H
 obtain ⟨t218, A110, H⟩ := H
 try dsimp only at H
 have A11 := Aside0.mk A110
 clear A110
 replace H := Option.bind_eq_some_iff.mp H
 obtain ⟨⟨t221, t222, t225⟩, A120, H⟩ := H
 try dsimp only at H
 have A12 := Aside0.mk A120
 clear A120
 replace H := Option.bind_eq_some_iff.mp H
 obtain ⟨t226, A130, H⟩ := H
 try dsimp only at H
 have A13 := Aside0.mk A130
 clear A130
 replace H := Option.bind_eq_some_iff.mp H
 obtain ⟨⟨t229, t230, t233, t236⟩, A140, H⟩ := H
 try dsimp only at H
 have A14 := Aside0.mk A140
 clear A140
 obtain ⟨y238, hy238⟩ : ∃ y_ : List (S58), y_ = (([(⟨(⟨#[49, 50]⟩ : ByteArray), (⟨#[51, 52]⟩ : ByteArray), 5⟩ : S58)] : List (S58))) := ⟨_, rfl⟩
 replace H : ((forward_Dial.f k y238 2 10 2 (⟨#[49, 50, 53, 54, 55]⟩ : ByteArray) 0 9).bind fun bt241 => ((forward_Dial.f k y238 2 10 2 (⟨#[51, 52, 48, 48, 48, 53, 54, 55]⟩ : ByteArray) 0 9).bind fun bt248 => ((forward_Dial.f k y238 2 10 2 (⟨#[49, 50, 53, 54, 55, 56]⟩ : ByteArray) 0 9).bind fun bt255 => (if t196 = 0 then (if t206 = 0 then (if t236 = 220 then (if bt241.2.2.2.2.2 = 0 then (if bt248.2.2.2.2.2 = 0 then (if bt255.2.2.2.2.2 = 220 then (if t217 = true then (if t225 = true then (none) else (if (t195.length : Int) = 0 then (dialtonelaw22_sane_rest.j0 k l0 l1 t205 t214 (t213 != 500) bt241.1 bt241.2.1 bt241.2.2.1 bt241.2.2.2.1 bt241.2.2.2.2.1 bt248.1 bt248.2.1 bt248.2.2.1 bt248.2.2.2.1 bt248.2.2.2.2.1) else (none))) else (none)) else (none)) else (none)) else (none)) else (none)) else (none)) else (none))))) = some r := by first | (rw [hy238]; with_reducible exact H) | (have H2_ := (Option.bind_some _ _).symm.trans H; rw [hy238]; with_reducible exact H2_) | (have H2_ := (Option.bind_some _ _).symm.trans H; with_reducible exact H2_) | with_reducible exact H | (rw [hy238]; exact H) | exact H
 have Ny238 := Aside0.mk hy238
 clear hy238
 replace H := Option.bind_eq_some_iff.mp H
 obtain ⟨⟨t241, t242, t243, t244, t245, t246⟩, A150, H⟩ := H
 try dsimp only at H
 have A15 := Aside0.mk A150
 clear A150
 replace H := Option.bind_eq_some_iff.mp H
 obtain ⟨⟨t248, t249, t250, t251, t252, t253⟩, A160, H⟩ := H
 try dsimp only at H
 have A16 := Aside0.mk A160
 clear A160
 replace H := Option.bind_eq_some_iff.mp H
 obtain ⟨⟨t255, t256, t257, t258, t259, t260⟩, A170, H⟩ := H
 try dsimp only at H
 have A17 := Aside0.mk A170
 clear A170
 have HC18 := Aside0.mk H
 clear H
 unfold dialtonelaw22_sane_rest.code
 conv => arg 2; whnf
 try go_wp2_with (first | ((with_reducible refine gate_callee (f := 20) rfl ?_); refine goesL_ (some 32) rfl rfl Tryz.func20 (by kernel_rfl) rfl #[] rfl zG ?_; (with_reducible refine (dialtonelaw22_settings.calls  t192 _ A3.out).mono ?_); rintro e w19 ⟨v193, rfl, ho0, hb⟩; refine ⟨_, rfl, ?_⟩; have HO194 := Aside0.mk (Kd.R_lower ho0 (below_size (zW HB))); replace HB := Aside0.mk (below_step (zW HB) hb); (try clear hb); (try clear hb2); (try clear hk); (try clear hi); (try clear ho0); obtain ⟨Ao20, co20, eo20⟩ := Kd.R_slice HO194.out; subst eo20) | ((with_reducible refine gate_callee (f := 19) rfl ?_); refine goesL_ (some 33) rfl rfl Tryz.func19 (by kernel_rfl) rfl #[.slice Ao20 t192.length co20, .int .i64 600] rfl zG ?_; (with_reducible refine (forward_Loops.calls _ _ t192 600 t195 t196 _ ?side1 ?side2 A4.out).mono ?_); (case side1 => exact zC (Kd.R_reads' HO194.out).2.2); (case side2 => exact (Kd.R_reads' HO194.out).2.1); rintro e w21 ⟨v197, rfl, ho0, hb⟩; refine ⟨_, rfl, ?_⟩; have HO198 := Aside0.mk (Kd.N_lower (Kd.N_mono (ok' := fun k_ => some k_ ≠ (.slice Ao20 t192.length co20 : Value).ownBlock) (Kd.R_N (Kd.R_bound ho0)) (fun k_ hk_ => (Kd.fresh' (Kd.R_lt (zR HO194)) k_ hk_.2.1))) (below_size (zW HB))); replace HO194 := Aside0.mk (Kd.R_below (zR HO194) hb); replace HB := Aside0.mk (below_step (zW HB) hb); (try clear hb); (try clear hb2); (try clear hk); (try clear hi); (try clear ho0)) | ((with_reducible refine gate_callee (f := 20) rfl ?_); refine goesL_ (some 36) rfl rfl Tryz.func20 (by kernel_rfl) rfl #[] rfl zG ?_; (with_reducible refine (dialtonelaw22_settings.calls  t199 _ A5.out).mono ?_); rintro e w22 ⟨v200, rfl, ho0, hb⟩; refine ⟨_, rfl, ?_⟩; replace HO198 := Aside0.mk (Kd.N_elder' (zN HO198) (Kd.R_base ho0) hb); have HO201 := Aside0.mk (Kd.R_lower (Kd.R_new' ho0 (Kd.R_lt (zR HO194))) (below_size (zW HB))); replace HO194 := Aside0.mk (Kd.R_elder' (zR HO194) (Kd.R_base ho0) hb); replace HB := Aside0.mk (below_step (zW HB) hb); (try clear hb); (try clear hb2); (try clear hk); (try clear hi); (try clear ho0)) | ((with_reducible refine gate_builtin (b := .append) (xs := #[.tmp 36, .tmp 39]) rfl ?_); (try (refine gate_guard (by rfl) ?_; dsimp only)); at_builtin; refine Kd.R_append k41 (w0 := w) w.heap.size rfl (.tmp 36) (.tmp 39) 24 41 (.agg #[(.int .i64 0), (.int .i64 0), (.int .i64 0), (.int .i64 0), (.int .i64 0)]) 40 rfl Tryz.underlying24 info41 rfl (by decide) (by omega) v200 t199 (⟨20, 1, 30, (⟨100, 2000⟩ : S39)⟩ : S41) [.int .i64 20, .int .i64 1, .int .i64 30, .int .i64 100, .int .i64 2000] (fun k_ => some k_ ≠ (.slice Ao20 t192.length co20 : Value).ownBlock) (fun _ => False) rfl rfl ?aP (fun _ hk => hk.elim) ?aF ?aO ?aB ?aS ?aL ?_; (case aP => exact k41_mkM _ _ _ (⟨20, 1, 30, (⟨100, 2000⟩ : S39)⟩ : S41)); (case aB => exact (zW HB)); (case aF => exact (fun k_ hk => Kd.fresh' (Kd.R_lt (zR HO194)) k_ hk)); (case aO => exact (by (with_reducible repeat (first | apply Kd.R_alloc | apply Kd.R_drewN | apply Kd.R_drew)); exact Kd.R_mono HO201.out (fun _ hk => hk.2))); (case aS => exact zq61); (case aL => have := LMc6.out; omega); intro v203 w23 ho hb hg hat; rw [← Ny202.out] at ho; replace HO194 := Aside0.mk (Kd.R_after (ok := (fun _ => True)) (zR HO194) hg hat); replace HO198 := Aside0.mk (Kd.N_afterv (ok := (fun k_ => some k_ ≠ (.slice Ao20 t192.length co20 : Value).ownBlock)) (zN HO198) hg hat); replace HB := Aside0.mk (hb); have HO204 := Aside0.mk (ho); clear HO201; clear ho hb hg hat; obtain ⟨Ao24, co24, eo24⟩ := Kd.R_slice HO204.out; subst eo24) | ((with_reducible refine gate_callee (f := 19) rfl ?_); refine goesL_ (some 43) rfl rfl Tryz.func19 (by kernel_rfl) rfl #[.slice Ao24 y202.length co24, .int .i64 600] rfl zG ?_; (with_reducible refine (forward_Loops.calls _ _ y202 600 t205 t206 _ ?side1 ?side2 A7.out).mono ?_); (case side1 => exact zC (Kd.R_reads' HO204.out).2.2); (case side2 => exact (Kd.R_reads' HO204.out).2.1); rintro e w25 ⟨v207, rfl, ho0, hb⟩; refine ⟨_, rfl, ?_⟩; have HO208 := Aside0.mk (Kd.N_lower (Kd.N_mono (ok' := fun k_ => some k_ ≠ (.slice Ao20 t192.length co20 : Value).ownBlock ∧ some k_ ≠ (v197 : Value).ownBlock ∧ some k_ ≠ (.slice Ao24 y202.length co24 : Value).ownBlock) (Kd.R_N (Kd.R_bound ho0)) (fun k_ hk_ => ⟨(Kd.fresh' (Kd.R_lt (zR HO194)) k_ hk_.2.1), (Kd.fresh' (Kd.N_lt (zN HO198)) k_ hk_.2.1), (Kd.fresh' (Kd.R_lt (zR HO204)) k_ hk_.2.1)⟩)) (below_size (zW HB))); replace HO194 := Aside0.mk (Kd.R_below (zR HO194) hb); replace HO198 := Aside0.mk (Kd.N_elder' (zN HO198) (Kd.R_base ho0) hb); replace HO204 := Aside0.mk (Kd.R_below (zR HO204) hb); replace HB := Aside0.mk (below_step (zW HB) hb); (try clear hb); (try clear hb2); (try clear hk); (try clear hi); (try clear ho0)))
 replace HO194 := Aside0.mk (Kd.R_drew HO194.out)
 replace HO198 := Aside0.mk (Kd.N_drew HO198.out)
 replace HO204 := Aside0.mk (Kd.R_drew HO204.out)
 replace HO208 := Aside0.mk (Kd.N_drew HO208.out)
 replace HB := Aside0.mk (below_drew1 HB.out)
 have p212 : 0 ≤ (3 : Int) := (by omega)
 have q212 : 3 < (y202.length : Int) := of_decide_eq_true (zq9)
 obtain ⟨ad212, e212, hx212_0, hx212_1, hx212_2, hx212_3, hx212_4⟩ := at_T41 (Kd.R_reads' HO204.out).2.2 3 p212 q212
 cases e212
 (try simp only [show (3 : Int).toNat = 3 from rfl, Nat.reduceMul, Nat.reduceEqDiff, Go.Addr.add, ↓reduceIte] at hx212_0)
 (try simp only [show (3 : Int).toNat = 3 from rfl, Nat.reduceMul, Nat.reduceEqDiff, Go.Addr.add, ↓reduceIte] at hx212_1)
 (try simp only [show (3 : Int).toNat = 3 from rfl, Nat.reduceMul, Nat.reduceEqDiff, Go.Addr.add, ↓reduceIte] at hx212_2)
 (try simp only [show (3 : Int).toNat = 3 from rfl, Nat.reduceMul, Nat.reduceEqDiff, Go.Addr.add, ↓reduceIte] at hx212_3)
 (try simp only [show (3 : Int).toNat = 3 from rfl, Nat.reduceMul, Nat.reduceEqDiff, Go.Addr.add, ↓reduceIte] at hx212_4)
 have qi212 : (3 < y202.length) = True := eq_true (by omega)
 (try rw [show ((3 : Int)).toNat = 3 from rfl] at hx212_0)
 (try rw [show 3 * 5 = 15 from rfl] at hx212_0)
 (try rw [show ((3 : Int)).toNat = 3 from rfl] at hx212_1)
 (try rw [show 3 * 5 = 15 from rfl] at hx212_1)
 (try rw [show ((3 : Int)).toNat = 3 from rfl] at hx212_2)
 (try rw [show 3 * 5 = 15 from rfl] at hx212_2)
 (try rw [show ((3 : Int)).toNat = 3 from rfl] at hx212_3)
 (try rw [show 3 * 5 = 15 from rfl] at hx212_3)
 (try rw [show ((3 : Int)).toNat = 3 from rfl] at hx212_4)
 (try rw [show 3 * 5 = 15 from rfl] at hx212_4)
 replace p212 := eq_true p212
 replace q212 := eq_true q212
 refine start_ (n := 12) (S := fun w' => w'.cell? ⟨ad212.block, ad212.off + 15, none⟩ = some (.int .i64 ((rd_T41 y202 3).f0)) ∧ w'.cell? ⟨ad212.block, ad212.off + 15 + 1, none⟩ = some (.int .i64 ((rd_T41 y202 3).f1)) ∧ w'.cell? ⟨ad212.block, ad212.off + 15 + 2, none⟩ = some (.int .i64 ((rd_T41 y202 3).f2)) ∧ w'.cell? ⟨ad212.block, ad212.off + 15 + 3, none⟩ = some (.int .i64 ((rd_T41 y202 3).f3.f0)) ∧ w'.cell? ⟨ad212.block, ad212.off + 15 + 4, none⟩ = some (.int .i64 ((rd_T41 y202 3).f3.f1))) (ds := []) (bm 12 0) (by kernel_rfl) rfl rfl ⟨hx212_0, hx212_1, hx212_2, hx212_3, hx212_4⟩ (fun hHeld => ?_); refine with_tabW dialtonelaw22_sane_rest.tab6 dialtonelaw22_sane_rest.bits6 (fun HT_ HW_ => ?_)
 generalize w25.drew = w26 at HO194 HO198 HO204 HO208 HB hx212_0 hx212_1 hx212_2 hx212_3 hx212_4 hHeld ⊢
 refine pz 1 (some 48) (bm 12 2) HT_ ?_
 refine pz 2 (some 49) (bm 12 6) HT_ ?_
 refine tz 3 (some 50) (bm 12 14) HT_ HW_ hHeld ?_
 refine one_ (i := 0) (N := some 47) (bm 12 15) rfl rfl (one_of HT_.out (by kernel_rfl)) (by decide) (fun K hK => ?_)
 refine goes_ Tryz.func20 (by kernel_rfl) rfl #[] (by rfl) rfl rfl zG ?_
 with_reducible refine (dialtonelaw22_settings.calls  t209 _ A8.out).mono ?_
 rintro e w27 ⟨v210, rfl, ho0, hb⟩
 have HS0_ := (hb.cell (World.block_lt_of_cell? _ _ (hHeld.1))).trans (hHeld.1)
 have HS1_ := (hb.cell (World.block_lt_of_cell? _ _ (hHeld.2.1))).trans (hHeld.2.1)
 have HS2_ := (hb.cell (World.block_lt_of_cell? _ _ (hHeld.2.2.1))).trans (hHeld.2.2.1)
 have HS3_ := (hb.cell (World.block_lt_of_cell? _ _ (hHeld.2.2.2.1))).trans (hHeld.2.2.2.1)
 have HS4_ := (hb.cell (World.block_lt_of_cell? _ _ (hHeld.2.2.2.2))).trans (hHeld.2.2.2.2)
 refine ⟨_, rfl, ?_⟩
 replace HO198 := Aside0.mk (Kd.N_elder' (zN HO198) (Kd.R_base ho0) hb)
 replace HO208 := Aside0.mk (Kd.N_elder' (zN HO208) (Kd.R_base ho0) hb)
 have HO211 := Aside0.mk (Kd.R_lower (Kd.R_new' (Kd.R_new' ho0 (Kd.R_lt (zR HO194))) (Kd.R_lt (zR HO204))) (below_size (zW HB)))
 replace HO194 := Aside0.mk (Kd.R_elder' (zR HO194) (Kd.R_base ho0) hb)
 replace HO204 := Aside0.mk (Kd.R_elder' (zR HO204) (Kd.R_base ho0) hb)
 replace HB := Aside0.mk (below_step (zW HB) hb)
 (try clear hb)
 (try clear hb2)
 (try clear hk)
 (try clear hi)
 (try clear ho0)
 obtain ⟨Ao28, co28, eo28⟩ := Kd.R_slice HO211.out
 (first | subst eo28 | (injection eo28 with f1_ f2_ f3_; have f4_ := f1_.symm; have f5_ := f3_.symm; clear f1_ f2_ f3_; subst f4_; subst f5_))
 refine hK.out _ _ ⟨HS0_, HS1_, HS2_, HS3_, HS4_⟩ (fun hHeld => ?_)
 clear hK K
 refine nz (some 47) ?_
 refine one_ (i := 4) (N := some 51) (bm 12 31) rfl rfl (one_of HT_.out (by kernel_rfl)) (by decide) (fun K hK => ?_)
 refine goes_ Tryz.func21 (by kernel_rfl) rfl #[.slice Ao28 t209.length co28, .agg #[.int .i64 ((rd_T41 y202 3).f0), .int .i64 ((rd_T41 y202 3).f1), .int .i64 ((rd_T41 y202 3).f2), .int .i64 ((rd_T41 y202 3).f3.f0), .int .i64 ((rd_T41 y202 3).f3.f1)]] (by rfl) rfl rfl zG ?_
 with_reducible refine (forward_Creates.calls _ _ t209 ((rd_T41 y202 3).f0) ((rd_T41 y202 3).f1) ((rd_T41 y202 3).f2) ((rd_T41 y202 3).f3.f0) ((rd_T41 y202 3).f3.f1) t213 t214 t217 _ ?side1 ?side2 A10.out).mono ?_
 (case side1 => exact zC (Kd.R_reads' HO211.out).2.2)
 (case side2 => exact (Kd.R_reads' HO211.out).2.1)
 rintro e w29 ⟨v215, rfl, ho0, hb⟩
 have HS0_ := (hb.cell (World.block_lt_of_cell? _ _ (hHeld.1))).trans (hHeld.1)
 have HS1_ := (hb.cell (World.block_lt_of_cell? _ _ (hHeld.2.1))).trans (hHeld.2.1)
 have HS2_ := (hb.cell (World.block_lt_of_cell? _ _ (hHeld.2.2.1))).trans (hHeld.2.2.1)
 have HS3_ := (hb.cell (World.block_lt_of_cell? _ _ (hHeld.2.2.2.1))).trans (hHeld.2.2.2.1)
 have HS4_ := (hb.cell (World.block_lt_of_cell? _ _ (hHeld.2.2.2.2))).trans (hHeld.2.2.2.2)
 refine ⟨_, rfl, ?_⟩
 replace HO194 := Aside0.mk (Kd.R_below (zR HO194) hb)
 replace HO198 := Aside0.mk (Kd.N_elder' (zN HO198) (Kd.R_base ho0) hb)
 replace HO204 := Aside0.mk (Kd.R_below (zR HO204) hb)
 replace HO208 := Aside0.mk (Kd.N_elder' (zN HO208) (Kd.R_base ho0) hb)
 replace HO211 := Aside0.mk (Kd.R_below (zR HO211) hb)
 have HO216 := Aside0.mk (Kd.R_lower ho0 (below_size (zW HB)))
 replace HB := Aside0.mk (below_step (zW HB) hb)
 (try clear hb)
 (try clear hb2)
 (try clear hk)
 (try clear hi)
 (try clear ho0)
 refine hK.out _ _ ⟨HS0_, HS1_, HS2_, HS3_, HS4_⟩ (fun hHeld => ?_)
 clear hK K
 refine nz (some 51) ?_
 refine pz 5 (some 46) (bm 12 63) HT_ ?_
 refine pz 6 (some 52) (bm 12 127) HT_ ?_
 refine pz 7 (some 53) (bm 12 255) HT_ ?_
 refine pz 8 (some 54) (bm 12 511) HT_ ?_
 refine pz 9 (some 8) (bm 12 1023) HT_ ?_
 refine pz 10 (some 9) (bm 12 2047) HT_ ?_
 refine pz 11 (some 10) (bm 12 4095) HT_ ?_
 refine done_ (done_of HT_.out (by kernel_rfl)) ?_
 go_upto_region 13 with (first | ((with_reducible refine gate_callee (f := 20) rfl ?_); refine goesL_ (some 56) rfl rfl Tryz.func20 (by kernel_rfl) rfl #[] rfl zG ?_; (with_reducible refine (dialtonelaw22_settings.calls  t218 _ A11.out).mono ?_); rintro e w30 ⟨v219, rfl, ho0, hb⟩; refine ⟨_, rfl, ?_⟩; replace HO198 := Aside0.mk (Kd.N_elder' (zN HO198) (Kd.R_base ho0) hb); replace HO208 := Aside0.mk (Kd.N_elder' (zN HO208) (Kd.R_base ho0) hb); replace HO216 := Aside0.mk (Kd.R_below (zR HO216) hb); have HO220 := Aside0.mk (Kd.R_lower (Kd.R_new' (Kd.R_new' (Kd.R_new' ho0 (Kd.R_lt (zR HO194))) (Kd.R_lt (zR HO204))) (Kd.R_lt (zR HO211))) (below_size (zW HB))); replace HO194 := Aside0.mk (Kd.R_elder' (zR HO194) (Kd.R_base ho0) hb); replace HO204 := Aside0.mk (Kd.R_elder' (zR HO204) (Kd.R_base ho0) hb); replace HO211 := Aside0.mk (Kd.R_elder' (zR HO211) (Kd.R_base ho0) hb); replace HB := Aside0.mk (below_step (zW HB) hb); (try clear hb); (try clear hb2); (try clear hk); (try clear hi); (try clear ho0); obtain ⟨Ao31, co31, eo31⟩ := Kd.R_slice HO220.out; subst eo31) | ((with_reducible refine gate_callee (f := 21) rfl ?_); refine goesL_ (some 59) rfl rfl Tryz.func21 (by kernel_rfl) rfl #[.slice Ao31 t218.length co31, .agg #[.int .i64 20, .int .i64 1, .int .i64 30, .int .i64 100, .int .i64 500]] rfl zG ?_; (with_reducible refine (forward_Creates.calls _ _ t218 20 1 30 100 500 t221 t222 t225 _ ?side1 ?side2 A12.out).mono ?_); (case side1 => exact zC (Kd.R_reads' HO220.out).2.2); (case side2 => exact (Kd.R_reads' HO220.out).2.1); rintro e w32 ⟨v223, rfl, ho0, hb⟩; refine ⟨_, rfl, ?_⟩; replace HO194 := Aside0.mk (Kd.R_below (zR HO194) hb); replace HO198 := Aside0.mk (Kd.N_elder' (zN HO198) (Kd.R_base ho0) hb); replace HO204 := Aside0.mk (Kd.R_below (zR HO204) hb); replace HO208 := Aside0.mk (Kd.N_elder' (zN HO208) (Kd.R_base ho0) hb); replace HO211 := Aside0.mk (Kd.R_below (zR HO211) hb); replace HO220 := Aside0.mk (Kd.R_below (zR HO220) hb); have HO224 := Aside0.mk (Kd.R_lower (Kd.R_new' ho0 (Kd.R_lt (zR HO216))) (below_size (zW HB))); replace HO216 := Aside0.mk (Kd.R_elder' (zR HO216) (Kd.R_base ho0) hb); replace HB := Aside0.mk (below_step (zW HB) hb); (try clear hb); (try clear hb2); (try clear hk); (try clear hi); (try clear ho0)) | ((with_reducible refine gate_callee (f := 20) rfl ?_); refine goesL_ (some 64) rfl rfl Tryz.func20 (by kernel_rfl) rfl #[] rfl zG ?_; (with_reducible refine (dialtonelaw22_settings.calls  t226 _ A13.out).mono ?_); rintro e w33 ⟨v227, rfl, ho0, hb⟩; refine ⟨_, rfl, ?_⟩; replace HO198 := Aside0.mk (Kd.N_elder' (zN HO198) (Kd.R_base ho0) hb); replace HO208 := Aside0.mk (Kd.N_elder' (zN HO208) (Kd.R_base ho0) hb); replace HO216 := Aside0.mk (Kd.R_below (zR HO216) hb); replace HO224 := Aside0.mk (Kd.R_below (zR HO224) hb); have HO228 := Aside0.mk (Kd.R_lower (Kd.R_new' (Kd.R_new' (Kd.R_new' (Kd.R_new' ho0 (Kd.R_lt (zR HO194))) (Kd.R_lt (zR HO204))) (Kd.R_lt (zR HO211))) (Kd.R_lt (zR HO220))) (below_size (zW HB))); replace HO194 := Aside0.mk (Kd.R_elder' (zR HO194) (Kd.R_base ho0) hb); replace HO204 := Aside0.mk (Kd.R_elder' (zR HO204) (Kd.R_base ho0) hb); replace HO211 := Aside0.mk (Kd.R_elder' (zR HO211) (Kd.R_base ho0) hb); replace HO220 := Aside0.mk (Kd.R_elder' (zR HO220) (Kd.R_base ho0) hb); replace HB := Aside0.mk (below_step (zW HB) hb); (try clear hb); (try clear hb2); (try clear hk); (try clear hi); (try clear ho0); obtain ⟨Ao34, co34, eo34⟩ := Kd.R_slice HO228.out; subst eo34) | ((with_reducible refine gate_callee (f := 11) rfl ?_); refine goesL_ (some 65) rfl rfl Tryz.func11 (by kernel_rfl) rfl #[.slice Ao34 t226.length co34, .slice none 0 0, .int .i64 (-1), .int .i64 0] rfl zG ?_; (refine (forward_Resolve.calls _ _ t226 _ _ ([] : List (S37)) (-1) 0 t229 t230 t233 t236 _ ?side1 ?side2 ?side3 ?side4 A14.out).mono ?_); (case side1 => exact zC (Kd.R_reads' HO228.out).2.2); (case side2 => exact (Kd.R_reads' HO228.out).2.1); (case side3 => exact zq62); (case side4 => exact zq63); rintro e w35 ⟨v231, v234, rfl, ho0, ho1, hb⟩; refine ⟨_, rfl, ?_⟩; replace HO194 := Aside0.mk (Kd.R_below (zR HO194) hb); replace HO198 := Aside0.mk (Kd.N_mono (Kd.N_told (Kd.N_told (Kd.N_old (zN HO198) hb) (Kd.R_base ho0)) (Kd.R_base ho1)) (fun _ h_ => h_.1)); replace HO204 := Aside0.mk (Kd.R_below (zR HO204) hb); replace HO208 := Aside0.mk (Kd.N_mono (Kd.N_told (Kd.N_told (Kd.N_old (zN HO208) hb) (Kd.R_base ho0)) (Kd.R_base ho1)) (fun _ h_ => h_.1)); replace HO211 := Aside0.mk (Kd.R_below (zR HO211) hb); replace HO220 := Aside0.mk (Kd.R_below (zR HO220) hb); replace HO228 := Aside0.mk (Kd.R_below (zR HO228) hb); have HO232 := Aside0.mk (Kd.R_lower (Kd.R_new' (Kd.R_new' ho0 (Kd.R_lt (zR HO216))) (Kd.R_lt (zR HO224))) (below_size (zW HB))); have HO235 := Aside0.mk (Kd.R_lower (Kd.R_new' (Kd.R_new' ho1 (Kd.R_lt (zR HO216))) (Kd.R_lt (zR HO224))) (below_size (zW HB))); replace HO216 := Aside0.mk (Kd.R_mono (Kd.R_told (Kd.R_told (Kd.R_old (zR HO216) hb) (Kd.R_base ho0)) (Kd.R_base ho1)) (fun _ h_ => h_.1)); replace HO224 := Aside0.mk (Kd.R_mono (Kd.R_told (Kd.R_told (Kd.R_old (zR HO224) hb) (Kd.R_base ho0)) (Kd.R_base ho1)) (fun _ h_ => h_.1)); replace HB := Aside0.mk (below_step (zW HB) hb); (try clear hb); (try clear hb2); (try clear hk); (try clear hi); (try clear ho0); (try clear ho1)) | ((with_reducible refine gate_dst (N := 14) rfl ?_); (try (refine gate_guard (by rfl) ?_; dsimp only)); refine box_event ?hg (N := 14) ?hd (cs := #[.int .i64 0, .slice none 0 0, .slice none 0 0]) (t := 31) ?hr ?_; (case hd => rfl); (case hg => rfl); (case hr => exact zq4); intro gb237 hg w36 hbox hb; replace HO194 := Aside0.mk (Kd.R_below (zR HO194) hb); replace HO198 := Aside0.mk (Kd.N_below (Kd.N_elderB (zN HO198) gb237 (Nat.le_of_eq hg.symm)) hb); replace HO204 := Aside0.mk (Kd.R_below (zR HO204) hb); replace HO208 := Aside0.mk (Kd.N_below (Kd.N_elderB (zN HO208) gb237 (Nat.le_of_eq hg.symm)) hb); replace HO211 := Aside0.mk (Kd.R_below (zR HO211) hb); replace HO216 := Aside0.mk (Kd.R_below (zR HO216) hb); replace HO220 := Aside0.mk (Kd.R_below (zR HO220) hb); replace HO224 := Aside0.mk (Kd.R_below (zR HO224) hb); replace HO228 := Aside0.mk (Kd.R_below (zR HO228) hb); replace HO232 := Aside0.mk (Kd.R_below (zR HO232) hb); replace HO235 := Aside0.mk (Kd.R_below (zR HO235) hb); have BK237 := Aside0.mk (hbox); have GW237 := Aside0.mk ((zq5 : w.heap.size ≤ gb237)); have GE237 := Aside0.mk ((zq5 : w.heap.size ≤ gb237)); replace HB := Aside0.mk (below_step (zW HB) hb); clear hb hbox hg; have hcz37_0 : w36.cell? ⟨gb237, 0, none⟩ = some (.int .i64 0) := (blk_cell BK237.out 0).trans rfl; have hcz37_1 : w36.cell? ⟨gb237, 1, none⟩ = some (.slice none 0 0) := (blk_cell BK237.out 1).trans rfl; have hcz37_2 : w36.cell? ⟨gb237, 2, none⟩ = some (.slice none 0 0) := (blk_cell BK237.out 2).trans rfl; have hfz37_0 := blk_frozen BK237.out 0; have hfz37_1 := blk_frozen BK237.out 1; have hfz37_2 := blk_frozen BK237.out 2; obtain ⟨Ao38, co38, eo38⟩ := Kd.R_slice HO232.out; subst eo38; obtain ⟨Ao39, co39, eo39⟩ := Kd.R_slice HO235.out; subst eo39) | ((with_reducible refine gate_dst (N := 69) rfl ?_); (try (refine gate_guard (by rfl) ?_; dsimp only)); refine Kd.R_lit k58 _ 58 ?hg (N := 69) ?hd (xs := ([(⟨(⟨#[49, 50]⟩ : ByteArray), (⟨#[51, 52]⟩ : ByteArray), 5⟩ : S58)] : List (S58))) (inner := [.string (⟨#[49, 50]⟩ : ByteArray), .string (⟨#[51, 52]⟩ : ByteArray), .int .i64 5]) (ok := fun _ => True) (okp := fun _ => True) ?hr ?hp (fun _ hk => hk) trivial (Below.refl _ _) (Nat.le_refl _) (by simp) ?_; (case hd => rfl); (case hg => rfl); (case hr => exact zq4); (case hp => exact (Reps.c3 (show Kd.M k58 _ _ _ (⟨(⟨#[49, 50]⟩ : ByteArray), (⟨#[51, 52]⟩ : ByteArray), 5⟩ : S58) [.string (⟨#[49, 50]⟩ : ByteArray), .string (⟨#[51, 52]⟩ : ByteArray), .int .i64 5] from (k58_mkM _ _ _ (⟨(⟨#[49, 50]⟩ : ByteArray), (⟨#[51, 52]⟩ : ByteArray), 5⟩ : S58) )) (Reps.none _ _))); intro v239 w40 ho41 hb hg_ hnew_; clear hg_ hnew_; (first | rw [← Ny238.out] at ho41 | (simp only [Int.reduceToNat] at ho41; rw [← Ny238.out] at ho41)); replace HO194 := Aside0.mk (Kd.R_below (by (with_reducible repeat (first | apply Kd.R_alloc | apply Kd.R_drewN | apply Kd.R_drew)); exact (Kd.R_mono (Kd.R_far (p := ⟨gb237, 2, none⟩) (Kd.R_far (p := ⟨gb237, 1, none⟩) (Kd.R_far (p := ⟨gb237, 0, none⟩) (Kd.R_types HO194.out BK237.out (by decide)) (fun _ hk => hk.2) (.int .i64 t229)) (fun _ hk => hk.2) (.slice Ao38 t230.length co38)) (fun _ hk => hk.2) (.slice Ao39 t233.length co39)) (fun _ h_ => h_.1))) hb); replace HO198 := Aside0.mk (Kd.N_elder' (by (with_reducible repeat (first | apply Kd.N_alloc | apply Kd.N_drewN | apply Kd.N_drew)); exact (Kd.N_mono (Kd.N_far (p := ⟨gb237, 2, none⟩) (Kd.N_far (p := ⟨gb237, 1, none⟩) (Kd.N_far (p := ⟨gb237, 0, none⟩) (Kd.N_mono HO198.out (fun k_ hk => (⟨hk, hk.2⟩ : _ ∧ k_ ≠ gb237))) (fun _ hk => hk.2) (.int .i64 t229)) (fun _ hk => hk.2) (.slice Ao38 t230.length co38)) (fun _ hk => hk.2) (.slice Ao39 t233.length co39)) (fun _ h_ => h_.1))) (Kd.R_base ho41) hb); replace HO204 := Aside0.mk (Kd.R_below (by (with_reducible repeat (first | apply Kd.R_alloc | apply Kd.R_drewN | apply Kd.R_drew)); exact (Kd.R_mono (Kd.R_far (p := ⟨gb237, 2, none⟩) (Kd.R_far (p := ⟨gb237, 1, none⟩) (Kd.R_far (p := ⟨gb237, 0, none⟩) (Kd.R_types HO204.out BK237.out (by decide)) (fun _ hk => hk.2) (.int .i64 t229)) (fun _ hk => hk.2) (.slice Ao38 t230.length co38)) (fun _ hk => hk.2) (.slice Ao39 t233.length co39)) (fun _ h_ => h_.1))) hb); replace HO208 := Aside0.mk (Kd.N_elder' (by (with_reducible repeat (first | apply Kd.N_alloc | apply Kd.N_drewN | apply Kd.N_drew)); exact (Kd.N_mono (Kd.N_far (p := ⟨gb237, 2, none⟩) (Kd.N_far (p := ⟨gb237, 1, none⟩) (Kd.N_far (p := ⟨gb237, 0, none⟩) (Kd.N_mono HO208.out (fun k_ hk => (⟨hk, hk.2⟩ : _ ∧ k_ ≠ gb237))) (fun _ hk => hk.2) (.int .i64 t229)) (fun _ hk => hk.2) (.slice Ao38 t230.length co38)) (fun _ hk => hk.2) (.slice Ao39 t233.length co39)) (fun _ h_ => h_.1))) (Kd.R_base ho41) hb); replace HO211 := Aside0.mk (Kd.R_below (by (with_reducible repeat (first | apply Kd.R_alloc | apply Kd.R_drewN | apply Kd.R_drew)); exact (Kd.R_mono (Kd.R_far (p := ⟨gb237, 2, none⟩) (Kd.R_far (p := ⟨gb237, 1, none⟩) (Kd.R_far (p := ⟨gb237, 0, none⟩) (Kd.R_types HO211.out BK237.out (by decide)) (fun _ hk => hk.2) (.int .i64 t229)) (fun _ hk => hk.2) (.slice Ao38 t230.length co38)) (fun _ hk => hk.2) (.slice Ao39 t233.length co39)) (fun _ h_ => h_.1))) hb); replace HO216 := Aside0.mk (Kd.R_below (by (with_reducible repeat (first | apply Kd.R_alloc | apply Kd.R_drewN | apply Kd.R_drew)); exact (Kd.R_mono (Kd.R_far (p := ⟨gb237, 2, none⟩) (Kd.R_far (p := ⟨gb237, 1, none⟩) (Kd.R_far (p := ⟨gb237, 0, none⟩) (Kd.R_types HO216.out BK237.out (by decide)) (fun _ hk => hk.2) (.int .i64 t229)) (fun _ hk => hk.2) (.slice Ao38 t230.length co38)) (fun _ hk => hk.2) (.slice Ao39 t233.length co39)) (fun _ h_ => h_.1))) hb); replace HO220 := Aside0.mk (Kd.R_below (by (with_reducible repeat (first | apply Kd.R_alloc | apply Kd.R_drewN | apply Kd.R_drew)); exact (Kd.R_mono (Kd.R_far (p := ⟨gb237, 2, none⟩) (Kd.R_far (p := ⟨gb237, 1, none⟩) (Kd.R_far (p := ⟨gb237, 0, none⟩) (Kd.R_types HO220.out BK237.out (by decide)) (fun _ hk => hk.2) (.int .i64 t229)) (fun _ hk => hk.2) (.slice Ao38 t230.length co38)) (fun _ hk => hk.2) (.slice Ao39 t233.length co39)) (fun _ h_ => h_.1))) hb); replace HO224 := Aside0.mk (Kd.R_below (by (with_reducible repeat (first | apply Kd.R_alloc | apply Kd.R_drewN | apply Kd.R_drew)); exact (Kd.R_mono (Kd.R_far (p := ⟨gb237, 2, none⟩) (Kd.R_far (p := ⟨gb237, 1, none⟩) (Kd.R_far (p := ⟨gb237, 0, none⟩) (Kd.R_types HO224.out BK237.out (by decide)) (fun _ hk => hk.2) (.int .i64 t229)) (fun _ hk => hk.2) (.slice Ao38 t230.length co38)) (fun _ hk => hk.2) (.slice Ao39 t233.length co39)) (fun _ h_ => h_.1))) hb); replace HO228 := Aside0.mk (Kd.R_below (by (with_reducible repeat (first | apply Kd.R_alloc | apply Kd.R_drewN | apply Kd.R_drew)); exact (Kd.R_mono (Kd.R_far (p := ⟨gb237, 2, none⟩) (Kd.R_far (p := ⟨gb237, 1, none⟩) (Kd.R_far (p := ⟨gb237, 0, none⟩) (Kd.R_types HO228.out BK237.out (by decide)) (fun _ hk => hk.2) (.int .i64 t229)) (fun _ hk => hk.2) (.slice Ao38 t230.length co38)) (fun _ hk => hk.2) (.slice Ao39 t233.length co39)) (fun _ h_ => h_.1))) hb); replace HO232 := Aside0.mk (Kd.R_below (by (with_reducible repeat (first | apply Kd.R_alloc | apply Kd.R_drewN | apply Kd.R_drew)); exact (Kd.R_mono (Kd.R_far (p := ⟨gb237, 2, none⟩) (Kd.R_far (p := ⟨gb237, 1, none⟩) (Kd.R_far (p := ⟨gb237, 0, none⟩) (Kd.R_types HO232.out BK237.out (by decide)) (fun _ hk => hk.2) (.int .i64 t229)) (fun _ hk => hk.2) (.slice Ao38 t230.length co38)) (fun _ hk => hk.2) (.slice Ao39 t233.length co39)) (fun _ h_ => h_.1))) hb); replace HO235 := Aside0.mk (Kd.R_below (by (with_reducible repeat (first | apply Kd.R_alloc | apply Kd.R_drewN | apply Kd.R_drew)); exact (Kd.R_mono (Kd.R_far (p := ⟨gb237, 2, none⟩) (Kd.R_far (p := ⟨gb237, 1, none⟩) (Kd.R_far (p := ⟨gb237, 0, none⟩) (Kd.R_types HO235.out BK237.out (by decide)) (fun _ hk => hk.2) (.int .i64 t229)) (fun _ hk => hk.2) (.slice Ao38 t230.length co38)) (fun _ hk => hk.2) (.slice Ao39 t233.length co39)) (fun _ h_ => h_.1))) hb); have HO240 := Aside0.mk (Kd.R_lower ho41 (below_size (zW HB))); replace BK237 := Aside0.mk (blk_below (g := gb237) (o := .cells #[.int .i64 t229, .slice Ao38 t230.length co38, .slice Ao39 t233.length co39] 31 (0, 0)) (by (with_reducible repeat (first | refine blk_drewN ?_ _ | refine blk_drew ?_ | refine blk_alloc ?_ _)); refine blk_put (cs := #[.int .i64 t229, .slice Ao38 t230.length co38, .slice none 0 0]) ?_ 2 _ rfl; (with_reducible repeat (first | refine blk_drewN ?_ _ | refine blk_drew ?_ | refine blk_alloc ?_ _)); refine blk_put (cs := #[.int .i64 t229, .slice none 0 0, .slice none 0 0]) ?_ 1 _ rfl; (with_reducible repeat (first | refine blk_drewN ?_ _ | refine blk_drew ?_ | refine blk_alloc ?_ _)); refine blk_put (cs := #[.int .i64 0, .slice none 0 0, .slice none 0 0]) ?_ 0 _ rfl; (with_reducible repeat (first | refine blk_drewN ?_ _ | refine blk_drew ?_ | refine blk_alloc ?_ _)); exact BK237.out) hb); replace HB := Aside0.mk (below_step (zW HB) hb); clear hb ho41; obtain ⟨Ao42, co42, eo42⟩ := Kd.R_slice HO240.out; subst eo42) | ((with_reducible refine gate_callee (f := 22) rfl ?_); refine goesL_ (some 73) rfl rfl Tryz.func22 (by kernel_rfl) rfl #[.slice Ao42 y238.length co42, .int .i64 2, .int .i64 10, .int .i64 2, .string (⟨#[49, 50, 53, 54, 55]⟩ : ByteArray), .agg #[.int .i64 0, .int .i64 9]] rfl zG ?_; (with_reducible refine (forward_Dial.calls k _ _ y238 2 10 2 (⟨#[49, 50, 53, 54, 55]⟩ : ByteArray) 0 9 t241 t242 t243 t244 t245 t246 _ ?side1 ?side2 A15.out).mono ?_); (case side1 => exact zC (Kd.R_reads' HO240.out).2.2); (case side2 => exact zq64); rintro e w43 ⟨rfl, hb⟩; refine ⟨_, rfl, ?_⟩; replace HO194 := Aside0.mk (Kd.R_below (zR HO194) hb); replace HO198 := Aside0.mk (Kd.N_below (zN HO198) hb); replace HO204 := Aside0.mk (Kd.R_below (zR HO204) hb); replace HO208 := Aside0.mk (Kd.N_below (zN HO208) hb); replace HO211 := Aside0.mk (Kd.R_below (zR HO211) hb); replace HO216 := Aside0.mk (Kd.R_below (zR HO216) hb); replace HO220 := Aside0.mk (Kd.R_below (zR HO220) hb); replace HO224 := Aside0.mk (Kd.R_below (zR HO224) hb); replace HO228 := Aside0.mk (Kd.R_below (zR HO228) hb); replace HO232 := Aside0.mk (Kd.R_below (zR HO232) hb); replace HO235 := Aside0.mk (Kd.R_below (zR HO235) hb); replace HO240 := Aside0.mk (Kd.R_below (zR HO240) hb); replace BK237 := Aside0.mk (blk_below (zB BK237) hb); replace HB := Aside0.mk (below_step (zW HB) hb); (try clear hb); (try clear hb2); (try clear hk); (try clear hi)) | ((with_reducible refine gate_dst (N := 17) rfl ?_); (try (refine gate_guard (by rfl) ?_; dsimp only)); refine box_event ?hg (N := 17) ?hd (cs := #[.int .i64 0, .int .i64 0, .int .i64 0, .int .i64 0, .int .i64 0]) (t := 41) ?hr ?_; (case hd => rfl); (case hg => rfl); (case hr => exact zq4); intro gb247 hg w44 hbox hb; replace HO194 := Aside0.mk (Kd.R_below (Kd.R_elderB (zR HO194) gb247 (Nat.le_of_eq hg.symm)) hb); replace HO198 := Aside0.mk (Kd.N_below (Kd.N_elderB (zN HO198) gb247 (Nat.le_of_eq hg.symm)) hb); replace HO204 := Aside0.mk (Kd.R_below (Kd.R_elderB (zR HO204) gb247 (Nat.le_of_eq hg.symm)) hb); replace HO208 := Aside0.mk (Kd.N_below (Kd.N_elderB (zN HO208) gb247 (Nat.le_of_eq hg.symm)) hb); replace HO211 := Aside0.mk (Kd.R_below (Kd.R_elderB (zR HO211) gb247 (Nat.le_of_eq hg.symm)) hb); replace HO216 := Aside0.mk (Kd.R_below (zR HO216) hb); replace HO220 := Aside0.mk (Kd.R_below (Kd.R_elderB (zR HO220) gb247 (Nat.le_of_eq hg.symm)) hb); replace HO224 := Aside0.mk (Kd.R_below (zR HO224) hb); replace HO228 := Aside0.mk (Kd.R_below (Kd.R_elderB (zR HO228) gb247 (Nat.le_of_eq hg.symm)) hb); replace HO232 := Aside0.mk (Kd.R_below (zR HO232) hb); replace HO235 := Aside0.mk (Kd.R_below (zR HO235) hb); replace HO240 := Aside0.mk (Kd.R_below (zR HO240) hb); have BK247 := Aside0.mk (hbox); have GW247 := Aside0.mk ((zq5 : w.heap.size ≤ gb247)); have GE247 := Aside0.mk ((zq5 : w.heap.size ≤ gb247)); replace HB := Aside0.mk (below_step (zW HB) hb); have NB237_247 := Aside0.mk ((zq65 : gb237 ≠ gb247)); have NB247_237 := Aside0.mk ((zq66 : gb247 ≠ gb237)); replace BK237 := Aside0.mk (blk_below (zB BK237) hb); clear hb hbox hg; have hnb45 := NB247_237.out; have hnc45 := NB237_247.out; have hcz46_0 : w44.cell? ⟨gb247, 0, none⟩ = some (.int .i64 0) := (blk_cell BK247.out 0).trans rfl; have hcz46_1 : w44.cell? ⟨gb247, 1, none⟩ = some (.int .i64 0) := (blk_cell BK247.out 1).trans rfl; have hcz46_2 : w44.cell? ⟨gb247, 2, none⟩ = some (.int .i64 0) := (blk_cell BK247.out 2).trans rfl; have hcz46_3 : w44.cell? ⟨gb247, 3, none⟩ = some (.int .i64 0) := (blk_cell BK247.out 3).trans rfl; have hcz46_4 : w44.cell? ⟨gb247, 4, none⟩ = some (.int .i64 0) := (blk_cell BK247.out 4).trans rfl; have hfz46_0 := blk_frozen BK247.out 0; have hfz46_1 := blk_frozen BK247.out 1; have hfz46_2 := blk_frozen BK247.out 2; have hfz46_3 := blk_frozen BK247.out 3; have hfz46_4 := blk_frozen BK247.out 4) | ((with_reducible refine gate_callee (f := 22) rfl ?_); refine goesL_ (some 79) rfl rfl Tryz.func22 (by kernel_rfl) rfl #[.slice Ao42 y238.length co42, .int .i64 2, .int .i64 10, .int .i64 2, .string (⟨#[51, 52, 48, 48, 48, 53, 54, 55]⟩ : ByteArray), .agg #[.int .i64 0, .int .i64 9]] rfl zG ?_; (with_reducible refine (forward_Dial.calls k _ _ y238 2 10 2 (⟨#[51, 52, 48, 48, 48, 53, 54, 55]⟩ : ByteArray) 0 9 t248 t249 t250 t251 t252 t253 _ ?side1 ?side2 A16.out).mono ?_); (case side1 => refine (Kd.R_reads' (e := 58) (base := w.heap.size) (ok := fun k_ => True) (n := y238.length) (c := co42) ?_).2.2; exact (zq67)); (case side2 => exact zq64); rintro e w47 ⟨rfl, hb⟩; refine ⟨_, rfl, ?_⟩; replace HO194 := Aside0.mk (Kd.R_below (by (with_reducible repeat (first | apply Kd.R_alloc | apply Kd.R_drewN | apply Kd.R_drew)); exact (Kd.R_mono (Kd.R_far (p := ⟨gb247, 4, none⟩) (Kd.R_far (p := ⟨gb247, 3, none⟩) (Kd.R_far (p := ⟨gb247, 2, none⟩) (Kd.R_far (p := ⟨gb247, 1, none⟩) (Kd.R_far (p := ⟨gb247, 0, none⟩) (Kd.R_mono HO194.out (fun k_ hk => (⟨hk, hk.2⟩ : _ ∧ k_ ≠ gb247))) (fun _ hk => hk.2) (.int .i64 t241)) (fun _ hk => hk.2) (.int .i64 t242)) (fun _ hk => hk.2) (.int .i64 t243)) (fun _ hk => hk.2) (.int .i64 t244)) (fun _ hk => hk.2) (.int .i64 t245)) (fun _ h_ => h_.1))) hb); replace HO198 := Aside0.mk (Kd.N_below (by (with_reducible repeat (first | apply Kd.N_alloc | apply Kd.N_drewN | apply Kd.N_drew)); exact (Kd.N_mono (Kd.N_far (p := ⟨gb247, 4, none⟩) (Kd.N_far (p := ⟨gb247, 3, none⟩) (Kd.N_far (p := ⟨gb247, 2, none⟩) (Kd.N_far (p := ⟨gb247, 1, none⟩) (Kd.N_far (p := ⟨gb247, 0, none⟩) (Kd.N_mono HO198.out (fun k_ hk => (⟨hk, hk.2⟩ : _ ∧ k_ ≠ gb247))) (fun _ hk => hk.2) (.int .i64 t241)) (fun _ hk => hk.2) (.int .i64 t242)) (fun _ hk => hk.2) (.int .i64 t243)) (fun _ hk => hk.2) (.int .i64 t244)) (fun _ hk => hk.2) (.int .i64 t245)) (fun _ h_ => h_.1))) hb); replace HO204 := Aside0.mk (Kd.R_below (by (with_reducible repeat (first | apply Kd.R_alloc | apply Kd.R_drewN | apply Kd.R_drew)); exact (Kd.R_mono (Kd.R_far (p := ⟨gb247, 4, none⟩) (Kd.R_far (p := ⟨gb247, 3, none⟩) (Kd.R_far (p := ⟨gb247, 2, none⟩) (Kd.R_far (p := ⟨gb247, 1, none⟩) (Kd.R_far (p := ⟨gb247, 0, none⟩) (Kd.R_mono HO204.out (fun k_ hk => (⟨hk, hk.2⟩ : _ ∧ k_ ≠ gb247))) (fun _ hk => hk.2) (.int .i64 t241)) (fun _ hk => hk.2) (.int .i64 t242)) (fun _ hk => hk.2) (.int .i64 t243)) (fun _ hk => hk.2) (.int .i64 t244)) (fun _ hk => hk.2) (.int .i64 t245)) (fun _ h_ => h_.1))) hb); replace HO208 := Aside0.mk (Kd.N_below (by (with_reducible repeat (first | apply Kd.N_alloc | apply Kd.N_drewN | apply Kd.N_drew)); exact (Kd.N_mono (Kd.N_far (p := ⟨gb247, 4, none⟩) (Kd.N_far (p := ⟨gb247, 3, none⟩) (Kd.N_far (p := ⟨gb247, 2, none⟩) (Kd.N_far (p := ⟨gb247, 1, none⟩) (Kd.N_far (p := ⟨gb247, 0, none⟩) (Kd.N_mono HO208.out (fun k_ hk => (⟨hk, hk.2⟩ : _ ∧ k_ ≠ gb247))) (fun _ hk => hk.2) (.int .i64 t241)) (fun _ hk => hk.2) (.int .i64 t242)) (fun _ hk => hk.2) (.int .i64 t243)) (fun _ hk => hk.2) (.int .i64 t244)) (fun _ hk => hk.2) (.int .i64 t245)) (fun _ h_ => h_.1))) hb); replace HO211 := Aside0.mk (Kd.R_below (by (with_reducible repeat (first | apply Kd.R_alloc | apply Kd.R_drewN | apply Kd.R_drew)); exact (Kd.R_mono (Kd.R_far (p := ⟨gb247, 4, none⟩) (Kd.R_far (p := ⟨gb247, 3, none⟩) (Kd.R_far (p := ⟨gb247, 2, none⟩) (Kd.R_far (p := ⟨gb247, 1, none⟩) (Kd.R_far (p := ⟨gb247, 0, none⟩) (Kd.R_mono HO211.out (fun k_ hk => (⟨hk, hk.2⟩ : _ ∧ k_ ≠ gb247))) (fun _ hk => hk.2) (.int .i64 t241)) (fun _ hk => hk.2) (.int .i64 t242)) (fun _ hk => hk.2) (.int .i64 t243)) (fun _ hk => hk.2) (.int .i64 t244)) (fun _ hk => hk.2) (.int .i64 t245)) (fun _ h_ => h_.1))) hb); replace HO216 := Aside0.mk (Kd.R_below (by (with_reducible repeat (first | apply Kd.R_alloc | apply Kd.R_drewN | apply Kd.R_drew)); exact (Kd.R_mono (Kd.R_far (p := ⟨gb247, 4, none⟩) (Kd.R_far (p := ⟨gb247, 3, none⟩) (Kd.R_far (p := ⟨gb247, 2, none⟩) (Kd.R_far (p := ⟨gb247, 1, none⟩) (Kd.R_far (p := ⟨gb247, 0, none⟩) (Kd.R_types HO216.out BK247.out (by decide)) (fun _ hk => hk.2) (.int .i64 t241)) (fun _ hk => hk.2) (.int .i64 t242)) (fun _ hk => hk.2) (.int .i64 t243)) (fun _ hk => hk.2) (.int .i64 t244)) (fun _ hk => hk.2) (.int .i64 t245)) (fun _ h_ => h_.1))) hb); replace HO220 := Aside0.mk (Kd.R_below (by (with_reducible repeat (first | apply Kd.R_alloc | apply Kd.R_drewN | apply Kd.R_drew)); exact (Kd.R_mono (Kd.R_far (p := ⟨gb247, 4, none⟩) (Kd.R_far (p := ⟨gb247, 3, none⟩) (Kd.R_far (p := ⟨gb247, 2, none⟩) (Kd.R_far (p := ⟨gb247, 1, none⟩) (Kd.R_far (p := ⟨gb247, 0, none⟩) (Kd.R_mono HO220.out (fun k_ hk => (⟨hk, hk.2⟩ : _ ∧ k_ ≠ gb247))) (fun _ hk => hk.2) (.int .i64 t241)) (fun _ hk => hk.2) (.int .i64 t242)) (fun _ hk => hk.2) (.int .i64 t243)) (fun _ hk => hk.2) (.int .i64 t244)) (fun _ hk => hk.2) (.int .i64 t245)) (fun _ h_ => h_.1))) hb); replace HO224 := Aside0.mk (Kd.R_below (by (with_reducible repeat (first | apply Kd.R_alloc | apply Kd.R_drewN | apply Kd.R_drew)); exact (Kd.R_mono (Kd.R_far (p := ⟨gb247, 4, none⟩) (Kd.R_far (p := ⟨gb247, 3, none⟩) (Kd.R_far (p := ⟨gb247, 2, none⟩) (Kd.R_far (p := ⟨gb247, 1, none⟩) (Kd.R_far (p := ⟨gb247, 0, none⟩) (Kd.R_types HO224.out BK247.out (by decide)) (fun _ hk => hk.2) (.int .i64 t241)) (fun _ hk => hk.2) (.int .i64 t242)) (fun _ hk => hk.2) (.int .i64 t243)) (fun _ hk => hk.2) (.int .i64 t244)) (fun _ hk => hk.2) (.int .i64 t245)) (fun _ h_ => h_.1))) hb); replace HO228 := Aside0.mk (Kd.R_below (by (with_reducible repeat (first | apply Kd.R_alloc | apply Kd.R_drewN | apply Kd.R_drew)); exact (Kd.R_mono (Kd.R_far (p := ⟨gb247, 4, none⟩) (Kd.R_far (p := ⟨gb247, 3, none⟩) (Kd.R_far (p := ⟨gb247, 2, none⟩) (Kd.R_far (p := ⟨gb247, 1, none⟩) (Kd.R_far (p := ⟨gb247, 0, none⟩) (Kd.R_mono HO228.out (fun k_ hk => (⟨hk, hk.2⟩ : _ ∧ k_ ≠ gb247))) (fun _ hk => hk.2) (.int .i64 t241)) (fun _ hk => hk.2) (.int .i64 t242)) (fun _ hk => hk.2) (.int .i64 t243)) (fun _ hk => hk.2) (.int .i64 t244)) (fun _ hk => hk.2) (.int .i64 t245)) (fun _ h_ => h_.1))) hb); replace HO232 := Aside0.mk (Kd.R_below (by (with_reducible repeat (first | apply Kd.R_alloc | apply Kd.R_drewN | apply Kd.R_drew)); exact (Kd.R_mono (Kd.R_far (p := ⟨gb247, 4, none⟩) (Kd.R_far (p := ⟨gb247, 3, none⟩) (Kd.R_far (p := ⟨gb247, 2, none⟩) (Kd.R_far (p := ⟨gb247, 1, none⟩) (Kd.R_far (p := ⟨gb247, 0, none⟩) (Kd.R_types HO232.out BK247.out (by decide)) (fun _ hk => hk.2) (.int .i64 t241)) (fun _ hk => hk.2) (.int .i64 t242)) (fun _ hk => hk.2) (.int .i64 t243)) (fun _ hk => hk.2) (.int .i64 t244)) (fun _ hk => hk.2) (.int .i64 t245)) (fun _ h_ => h_.1))) hb); replace HO235 := Aside0.mk (Kd.R_below (by (with_reducible repeat (first | apply Kd.R_alloc | apply Kd.R_drewN | apply Kd.R_drew)); exact (Kd.R_mono (Kd.R_far (p := ⟨gb247, 4, none⟩) (Kd.R_far (p := ⟨gb247, 3, none⟩) (Kd.R_far (p := ⟨gb247, 2, none⟩) (Kd.R_far (p := ⟨gb247, 1, none⟩) (Kd.R_far (p := ⟨gb247, 0, none⟩) (Kd.R_types HO235.out BK247.out (by decide)) (fun _ hk => hk.2) (.int .i64 t241)) (fun _ hk => hk.2) (.int .i64 t242)) (fun _ hk => hk.2) (.int .i64 t243)) (fun _ hk => hk.2) (.int .i64 t244)) (fun _ hk => hk.2) (.int .i64 t245)) (fun _ h_ => h_.1))) hb); replace HO240 := Aside0.mk (Kd.R_below (zq67) hb); replace BK237 := Aside0.mk (blk_below (g := gb237) (o := .cells #[.int .i64 t229, .slice Ao38 t230.length co38, .slice Ao39 t233.length co39] 31 (0, 0)) (by (with_reducible repeat (first | refine blk_drewN ?_ _ | refine blk_drew ?_ | refine blk_alloc ?_ _)); refine blk_far ?_ NB237_247.out _; (with_reducible repeat (first | refine blk_drewN ?_ _ | refine blk_drew ?_ | refine blk_alloc ?_ _)); refine blk_far ?_ NB237_247.out _; (with_reducible repeat (first | refine blk_drewN ?_ _ | refine blk_drew ?_ | refine blk_alloc ?_ _)); refine blk_far ?_ NB237_247.out _; (with_reducible repeat (first | refine blk_drewN ?_ _ | refine blk_drew ?_ | refine blk_alloc ?_ _)); refine blk_far ?_ NB237_247.out _; (with_reducible repeat (first | refine blk_drewN ?_ _ | refine blk_drew ?_ | refine blk_alloc ?_ _)); refine blk_far ?_ NB237_247.out _; (with_reducible repeat (first | refine blk_drewN ?_ _ | refine blk_drew ?_ | refine blk_alloc ?_ _)); exact BK237.out) hb); replace BK247 := Aside0.mk (blk_below (g := gb247) (o := .cells #[.int .i64 t241, .int .i64 t242, .int .i64 t243, .int .i64 t244, .int .i64 t245] 41 (0, 0)) (by (with_reducible repeat (first | refine blk_drewN ?_ _ | refine blk_drew ?_ | refine blk_alloc ?_ _)); refine blk_put (cs := #[.int .i64 t241, .int .i64 t242, .int .i64 t243, .int .i64 t244, .int .i64 0]) ?_ 4 _ rfl; (with_reducible repeat (first | refine blk_drewN ?_ _ | refine blk_drew ?_ | refine blk_alloc ?_ _)); refine blk_put (cs := #[.int .i64 t241, .int .i64 t242, .int .i64 t243, .int .i64 0, .int .i64 0]) ?_ 3 _ rfl; (with_reducible repeat (first | refine blk_drewN ?_ _ | refine blk_drew ?_ | refine blk_alloc ?_ _)); refine blk_put (cs := #[.int .i64 t241, .int .i64 t242, .int .i64 0, .int .i64 0, .int .i64 0]) ?_ 2 _ rfl; (with_reducible repeat (first | refine blk_drewN ?_ _ | refine blk_drew ?_ | refine blk_alloc ?_ _)); refine blk_put (cs := #[.int .i64 t241, .int .i64 0, .int .i64 0, .int .i64 0, .int .i64 0]) ?_ 1 _ rfl; (with_reducible repeat (first | refine blk_drewN ?_ _ | refine blk_drew ?_ | refine blk_alloc ?_ _)); refine blk_put (cs := #[.int .i64 0, .int .i64 0, .int .i64 0, .int .i64 0, .int .i64 0]) ?_ 0 _ rfl; (with_reducible repeat (first | refine blk_drewN ?_ _ | refine blk_drew ?_ | refine blk_alloc ?_ _)); exact BK247.out) hb); replace HB := Aside0.mk (below_step (zW HB) hb); (try clear hb); (try clear hb2); (try clear hk); (try clear hi)) | ((with_reducible refine gate_dst (N := 19) rfl ?_); (try (refine gate_guard (by rfl) ?_; dsimp only)); refine box_event ?hg (N := 19) ?hd (cs := #[.int .i64 0, .int .i64 0, .int .i64 0, .int .i64 0, .int .i64 0]) (t := 41) ?hr ?_; (case hd => rfl); (case hg => rfl); (case hr => exact zq4); intro gb254 hg w48 hbox hb; replace HO194 := Aside0.mk (Kd.R_below (Kd.R_elderB (zR HO194) gb254 (Nat.le_of_eq hg.symm)) hb); replace HO198 := Aside0.mk (Kd.N_below (Kd.N_elderB (zN HO198) gb254 (Nat.le_of_eq hg.symm)) hb); replace HO204 := Aside0.mk (Kd.R_below (Kd.R_elderB (zR HO204) gb254 (Nat.le_of_eq hg.symm)) hb); replace HO208 := Aside0.mk (Kd.N_below (Kd.N_elderB (zN HO208) gb254 (Nat.le_of_eq hg.symm)) hb); replace HO211 := Aside0.mk (Kd.R_below (Kd.R_elderB (zR HO211) gb254 (Nat.le_of_eq hg.symm)) hb); replace HO216 := Aside0.mk (Kd.R_below (zR HO216) hb); replace HO220 := Aside0.mk (Kd.R_below (Kd.R_elderB (zR HO220) gb254 (Nat.le_of_eq hg.symm)) hb); replace HO224 := Aside0.mk (Kd.R_below (zR HO224) hb); replace HO228 := Aside0.mk (Kd.R_below (Kd.R_elderB (zR HO228) gb254 (Nat.le_of_eq hg.symm)) hb); replace HO232 := Aside0.mk (Kd.R_below (zR HO232) hb); replace HO235 := Aside0.mk (Kd.R_below (zR HO235) hb); replace HO240 := Aside0.mk (Kd.R_below (zR HO240) hb); have BK254 := Aside0.mk (hbox); have GW254 := Aside0.mk ((zq5 : w.heap.size ≤ gb254)); have GE254 := Aside0.mk ((zq5 : w.heap.size ≤ gb254)); replace HB := Aside0.mk (below_step (zW HB) hb); have NB237_254 := Aside0.mk ((zq65 : gb237 ≠ gb254)); have NB254_237 := Aside0.mk ((zq66 : gb254 ≠ gb237)); replace BK237 := Aside0.mk (blk_below (zB BK237) hb); have NB247_254 := Aside0.mk ((by rw [hg]; exact Nat.ne_of_lt (blk_lt (zB BK247)) : gb247 ≠ gb254)); have NB254_247 := Aside0.mk ((by rw [hg]; exact Nat.ne_of_gt (blk_lt (zB BK247)) : gb254 ≠ gb247)); replace BK247 := Aside0.mk (blk_below (zB BK247) hb); clear hb hbox hg; have hnb49 := NB254_237.out; have hnc49 := NB237_254.out; have hnb50 := NB254_247.out; have hnc50 := NB247_254.out; have hcz51_0 : w48.cell? ⟨gb254, 0, none⟩ = some (.int .i64 0) := (blk_cell BK254.out 0).trans rfl; have hcz51_1 : w48.cell? ⟨gb254, 1, none⟩ = some (.int .i64 0) := (blk_cell BK254.out 1).trans rfl; have hcz51_2 : w48.cell? ⟨gb254, 2, none⟩ = some (.int .i64 0) := (blk_cell BK254.out 2).trans rfl; have hcz51_3 : w48.cell? ⟨gb254, 3, none⟩ = some (.int .i64 0) := (blk_cell BK254.out 3).trans rfl; have hcz51_4 : w48.cell? ⟨gb254, 4, none⟩ = some (.int .i64 0) := (blk_cell BK254.out 4).trans rfl; have hfz51_0 := blk_frozen BK254.out 0; have hfz51_1 := blk_frozen BK254.out 1; have hfz51_2 := blk_frozen BK254.out 2; have hfz51_3 := blk_frozen BK254.out 3; have hfz51_4 := blk_frozen BK254.out 4) | ((with_reducible refine gate_callee (f := 22) rfl ?_); refine goesL_ (some 85) rfl rfl Tryz.func22 (by kernel_rfl) rfl #[.slice Ao42 y238.length co42, .int .i64 2, .int .i64 10, .int .i64 2, .string (⟨#[49, 50, 53, 54, 55, 56]⟩ : ByteArray), .agg #[.int .i64 0, .int .i64 9]] rfl zG ?_; (with_reducible refine (forward_Dial.calls k _ _ y238 2 10 2 (⟨#[49, 50, 53, 54, 55, 56]⟩ : ByteArray) 0 9 t255 t256 t257 t258 t259 t260 _ ?side1 ?side2 A17.out).mono ?_); (case side1 => refine (Kd.R_reads' (e := 58) (base := w.heap.size) (ok := fun k_ => True) (n := y238.length) (c := co42) ?_).2.2; exact (zq68)); (case side2 => exact zq64); rintro e w52 ⟨rfl, hb⟩; refine ⟨_, rfl, ?_⟩; replace HO194 := Aside0.mk (Kd.R_below (by (with_reducible repeat (first | apply Kd.R_alloc | apply Kd.R_drewN | apply Kd.R_drew)); exact (Kd.R_mono (Kd.R_far (p := ⟨gb254, 4, none⟩) (Kd.R_far (p := ⟨gb254, 3, none⟩) (Kd.R_far (p := ⟨gb254, 2, none⟩) (Kd.R_far (p := ⟨gb254, 1, none⟩) (Kd.R_far (p := ⟨gb254, 0, none⟩) (Kd.R_mono HO194.out (fun k_ hk => (⟨hk, hk.2⟩ : _ ∧ k_ ≠ gb254))) (fun _ hk => hk.2) (.int .i64 t248)) (fun _ hk => hk.2) (.int .i64 t249)) (fun _ hk => hk.2) (.int .i64 t250)) (fun _ hk => hk.2) (.int .i64 t251)) (fun _ hk => hk.2) (.int .i64 t252)) (fun _ h_ => h_.1))) hb); replace HO198 := Aside0.mk (Kd.N_below (by (with_reducible repeat (first | apply Kd.N_alloc | apply Kd.N_drewN | apply Kd.N_drew)); exact (Kd.N_mono (Kd.N_far (p := ⟨gb254, 4, none⟩) (Kd.N_far (p := ⟨gb254, 3, none⟩) (Kd.N_far (p := ⟨gb254, 2, none⟩) (Kd.N_far (p := ⟨gb254, 1, none⟩) (Kd.N_far (p := ⟨gb254, 0, none⟩) (Kd.N_mono HO198.out (fun k_ hk => (⟨hk, hk.2⟩ : _ ∧ k_ ≠ gb254))) (fun _ hk => hk.2) (.int .i64 t248)) (fun _ hk => hk.2) (.int .i64 t249)) (fun _ hk => hk.2) (.int .i64 t250)) (fun _ hk => hk.2) (.int .i64 t251)) (fun _ hk => hk.2) (.int .i64 t252)) (fun _ h_ => h_.1))) hb); replace HO204 := Aside0.mk (Kd.R_below (by (with_reducible repeat (first | apply Kd.R_alloc | apply Kd.R_drewN | apply Kd.R_drew)); exact (Kd.R_mono (Kd.R_far (p := ⟨gb254, 4, none⟩) (Kd.R_far (p := ⟨gb254, 3, none⟩) (Kd.R_far (p := ⟨gb254, 2, none⟩) (Kd.R_far (p := ⟨gb254, 1, none⟩) (Kd.R_far (p := ⟨gb254, 0, none⟩) (Kd.R_mono HO204.out (fun k_ hk => (⟨hk, hk.2⟩ : _ ∧ k_ ≠ gb254))) (fun _ hk => hk.2) (.int .i64 t248)) (fun _ hk => hk.2) (.int .i64 t249)) (fun _ hk => hk.2) (.int .i64 t250)) (fun _ hk => hk.2) (.int .i64 t251)) (fun _ hk => hk.2) (.int .i64 t252)) (fun _ h_ => h_.1))) hb); replace HO208 := Aside0.mk (Kd.N_below (by (with_reducible repeat (first | apply Kd.N_alloc | apply Kd.N_drewN | apply Kd.N_drew)); exact (Kd.N_mono (Kd.N_far (p := ⟨gb254, 4, none⟩) (Kd.N_far (p := ⟨gb254, 3, none⟩) (Kd.N_far (p := ⟨gb254, 2, none⟩) (Kd.N_far (p := ⟨gb254, 1, none⟩) (Kd.N_far (p := ⟨gb254, 0, none⟩) (Kd.N_mono HO208.out (fun k_ hk => (⟨hk, hk.2⟩ : _ ∧ k_ ≠ gb254))) (fun _ hk => hk.2) (.int .i64 t248)) (fun _ hk => hk.2) (.int .i64 t249)) (fun _ hk => hk.2) (.int .i64 t250)) (fun _ hk => hk.2) (.int .i64 t251)) (fun _ hk => hk.2) (.int .i64 t252)) (fun _ h_ => h_.1))) hb); replace HO211 := Aside0.mk (Kd.R_below (by (with_reducible repeat (first | apply Kd.R_alloc | apply Kd.R_drewN | apply Kd.R_drew)); exact (Kd.R_mono (Kd.R_far (p := ⟨gb254, 4, none⟩) (Kd.R_far (p := ⟨gb254, 3, none⟩) (Kd.R_far (p := ⟨gb254, 2, none⟩) (Kd.R_far (p := ⟨gb254, 1, none⟩) (Kd.R_far (p := ⟨gb254, 0, none⟩) (Kd.R_mono HO211.out (fun k_ hk => (⟨hk, hk.2⟩ : _ ∧ k_ ≠ gb254))) (fun _ hk => hk.2) (.int .i64 t248)) (fun _ hk => hk.2) (.int .i64 t249)) (fun _ hk => hk.2) (.int .i64 t250)) (fun _ hk => hk.2) (.int .i64 t251)) (fun _ hk => hk.2) (.int .i64 t252)) (fun _ h_ => h_.1))) hb); replace HO216 := Aside0.mk (Kd.R_below (by (with_reducible repeat (first | apply Kd.R_alloc | apply Kd.R_drewN | apply Kd.R_drew)); exact (Kd.R_mono (Kd.R_far (p := ⟨gb254, 4, none⟩) (Kd.R_far (p := ⟨gb254, 3, none⟩) (Kd.R_far (p := ⟨gb254, 2, none⟩) (Kd.R_far (p := ⟨gb254, 1, none⟩) (Kd.R_far (p := ⟨gb254, 0, none⟩) (Kd.R_types HO216.out BK254.out (by decide)) (fun _ hk => hk.2) (.int .i64 t248)) (fun _ hk => hk.2) (.int .i64 t249)) (fun _ hk => hk.2) (.int .i64 t250)) (fun _ hk => hk.2) (.int .i64 t251)) (fun _ hk => hk.2) (.int .i64 t252)) (fun _ h_ => h_.1))) hb); replace HO220 := Aside0.mk (Kd.R_below (by (with_reducible repeat (first | apply Kd.R_alloc | apply Kd.R_drewN | apply Kd.R_drew)); exact (Kd.R_mono (Kd.R_far (p := ⟨gb254, 4, none⟩) (Kd.R_far (p := ⟨gb254, 3, none⟩) (Kd.R_far (p := ⟨gb254, 2, none⟩) (Kd.R_far (p := ⟨gb254, 1, none⟩) (Kd.R_far (p := ⟨gb254, 0, none⟩) (Kd.R_mono HO220.out (fun k_ hk => (⟨hk, hk.2⟩ : _ ∧ k_ ≠ gb254))) (fun _ hk => hk.2) (.int .i64 t248)) (fun _ hk => hk.2) (.int .i64 t249)) (fun _ hk => hk.2) (.int .i64 t250)) (fun _ hk => hk.2) (.int .i64 t251)) (fun _ hk => hk.2) (.int .i64 t252)) (fun _ h_ => h_.1))) hb); replace HO224 := Aside0.mk (Kd.R_below (by (with_reducible repeat (first | apply Kd.R_alloc | apply Kd.R_drewN | apply Kd.R_drew)); exact (Kd.R_mono (Kd.R_far (p := ⟨gb254, 4, none⟩) (Kd.R_far (p := ⟨gb254, 3, none⟩) (Kd.R_far (p := ⟨gb254, 2, none⟩) (Kd.R_far (p := ⟨gb254, 1, none⟩) (Kd.R_far (p := ⟨gb254, 0, none⟩) (Kd.R_types HO224.out BK254.out (by decide)) (fun _ hk => hk.2) (.int .i64 t248)) (fun _ hk => hk.2) (.int .i64 t249)) (fun _ hk => hk.2) (.int .i64 t250)) (fun _ hk => hk.2) (.int .i64 t251)) (fun _ hk => hk.2) (.int .i64 t252)) (fun _ h_ => h_.1))) hb); replace HO228 := Aside0.mk (Kd.R_below (by (with_reducible repeat (first | apply Kd.R_alloc | apply Kd.R_drewN | apply Kd.R_drew)); exact (Kd.R_mono (Kd.R_far (p := ⟨gb254, 4, none⟩) (Kd.R_far (p := ⟨gb254, 3, none⟩) (Kd.R_far (p := ⟨gb254, 2, none⟩) (Kd.R_far (p := ⟨gb254, 1, none⟩) (Kd.R_far (p := ⟨gb254, 0, none⟩) (Kd.R_mono HO228.out (fun k_ hk => (⟨hk, hk.2⟩ : _ ∧ k_ ≠ gb254))) (fun _ hk => hk.2) (.int .i64 t248)) (fun _ hk => hk.2) (.int .i64 t249)) (fun _ hk => hk.2) (.int .i64 t250)) (fun _ hk => hk.2) (.int .i64 t251)) (fun _ hk => hk.2) (.int .i64 t252)) (fun _ h_ => h_.1))) hb); replace HO232 := Aside0.mk (Kd.R_below (by (with_reducible repeat (first | apply Kd.R_alloc | apply Kd.R_drewN | apply Kd.R_drew)); exact (Kd.R_mono (Kd.R_far (p := ⟨gb254, 4, none⟩) (Kd.R_far (p := ⟨gb254, 3, none⟩) (Kd.R_far (p := ⟨gb254, 2, none⟩) (Kd.R_far (p := ⟨gb254, 1, none⟩) (Kd.R_far (p := ⟨gb254, 0, none⟩) (Kd.R_types HO232.out BK254.out (by decide)) (fun _ hk => hk.2) (.int .i64 t248)) (fun _ hk => hk.2) (.int .i64 t249)) (fun _ hk => hk.2) (.int .i64 t250)) (fun _ hk => hk.2) (.int .i64 t251)) (fun _ hk => hk.2) (.int .i64 t252)) (fun _ h_ => h_.1))) hb); replace HO235 := Aside0.mk (Kd.R_below (by (with_reducible repeat (first | apply Kd.R_alloc | apply Kd.R_drewN | apply Kd.R_drew)); exact (Kd.R_mono (Kd.R_far (p := ⟨gb254, 4, none⟩) (Kd.R_far (p := ⟨gb254, 3, none⟩) (Kd.R_far (p := ⟨gb254, 2, none⟩) (Kd.R_far (p := ⟨gb254, 1, none⟩) (Kd.R_far (p := ⟨gb254, 0, none⟩) (Kd.R_types HO235.out BK254.out (by decide)) (fun _ hk => hk.2) (.int .i64 t248)) (fun _ hk => hk.2) (.int .i64 t249)) (fun _ hk => hk.2) (.int .i64 t250)) (fun _ hk => hk.2) (.int .i64 t251)) (fun _ hk => hk.2) (.int .i64 t252)) (fun _ h_ => h_.1))) hb); replace HO240 := Aside0.mk (Kd.R_below (zq68) hb); replace BK237 := Aside0.mk (blk_below (g := gb237) (o := .cells #[.int .i64 t229, .slice Ao38 t230.length co38, .slice Ao39 t233.length co39] 31 (0, 0)) (by (with_reducible repeat (first | refine blk_drewN ?_ _ | refine blk_drew ?_ | refine blk_alloc ?_ _)); refine blk_far ?_ NB237_254.out _; (with_reducible repeat (first | refine blk_drewN ?_ _ | refine blk_drew ?_ | refine blk_alloc ?_ _)); refine blk_far ?_ NB237_254.out _; (with_reducible repeat (first | refine blk_drewN ?_ _ | refine blk_drew ?_ | refine blk_alloc ?_ _)); refine blk_far ?_ NB237_254.out _; (with_reducible repeat (first | refine blk_drewN ?_ _ | refine blk_drew ?_ | refine blk_alloc ?_ _)); refine blk_far ?_ NB237_254.out _; (with_reducible repeat (first | refine blk_drewN ?_ _ | refine blk_drew ?_ | refine blk_alloc ?_ _)); refine blk_far ?_ NB237_254.out _; (with_reducible repeat (first | refine blk_drewN ?_ _ | refine blk_drew ?_ | refine blk_alloc ?_ _)); exact BK237.out) hb); replace BK247 := Aside0.mk (blk_below (g := gb247) (o := .cells #[.int .i64 t241, .int .i64 t242, .int .i64 t243, .int .i64 t244, .int .i64 t245] 41 (0, 0)) (by (with_reducible repeat (first | refine blk_drewN ?_ _ | refine blk_drew ?_ | refine blk_alloc ?_ _)); refine blk_far ?_ NB247_254.out _; (with_reducible repeat (first | refine blk_drewN ?_ _ | refine blk_drew ?_ | refine blk_alloc ?_ _)); refine blk_far ?_ NB247_254.out _; (with_reducible repeat (first | refine blk_drewN ?_ _ | refine blk_drew ?_ | refine blk_alloc ?_ _)); refine blk_far ?_ NB247_254.out _; (with_reducible repeat (first | refine blk_drewN ?_ _ | refine blk_drew ?_ | refine blk_alloc ?_ _)); refine blk_far ?_ NB247_254.out _; (with_reducible repeat (first | refine blk_drewN ?_ _ | refine blk_drew ?_ | refine blk_alloc ?_ _)); refine blk_far ?_ NB247_254.out _; (with_reducible repeat (first | refine blk_drewN ?_ _ | refine blk_drew ?_ | refine blk_alloc ?_ _)); exact BK247.out) hb); replace BK254 := Aside0.mk (blk_below (g := gb254) (o := .cells #[.int .i64 t248, .int .i64 t249, .int .i64 t250, .int .i64 t251, .int .i64 t252] 41 (0, 0)) (by (with_reducible repeat (first | refine blk_drewN ?_ _ | refine blk_drew ?_ | refine blk_alloc ?_ _)); refine blk_put (cs := #[.int .i64 t248, .int .i64 t249, .int .i64 t250, .int .i64 t251, .int .i64 0]) ?_ 4 _ rfl; (with_reducible repeat (first | refine blk_drewN ?_ _ | refine blk_drew ?_ | refine blk_alloc ?_ _)); refine blk_put (cs := #[.int .i64 t248, .int .i64 t249, .int .i64 t250, .int .i64 0, .int .i64 0]) ?_ 3 _ rfl; (with_reducible repeat (first | refine blk_drewN ?_ _ | refine blk_drew ?_ | refine blk_alloc ?_ _)); refine blk_put (cs := #[.int .i64 t248, .int .i64 t249, .int .i64 0, .int .i64 0, .int .i64 0]) ?_ 2 _ rfl; (with_reducible repeat (first | refine blk_drewN ?_ _ | refine blk_drew ?_ | refine blk_alloc ?_ _)); refine blk_put (cs := #[.int .i64 t248, .int .i64 0, .int .i64 0, .int .i64 0, .int .i64 0]) ?_ 1 _ rfl; (with_reducible repeat (first | refine blk_drewN ?_ _ | refine blk_drew ?_ | refine blk_alloc ?_ _)); refine blk_put (cs := #[.int .i64 0, .int .i64 0, .int .i64 0, .int .i64 0, .int .i64 0]) ?_ 0 _ rfl; (with_reducible repeat (first | refine blk_drewN ?_ _ | refine blk_drew ?_ | refine blk_alloc ?_ _)); exact BK254.out) hb); replace HB := Aside0.mk (below_step (zW HB) hb); (try clear hb); (try clear hb2); (try clear hk); (try clear hi)) | ((with_reducible refine gate_dst (N := 21) rfl ?_); (try (refine gate_guard (by rfl) ?_; dsimp only)); refine box_event ?hg (N := 21) ?hd (cs := #[.int .i64 0, .int .i64 0, .int .i64 0, .int .i64 0, .int .i64 0]) (t := 41) ?hr ?_; (case hd => rfl); (case hg => rfl); (case hr => exact zq4); intro gb261 hg w53 hbox hb; replace HO194 := Aside0.mk (Kd.R_below (Kd.R_elderB (zR HO194) gb261 (Nat.le_of_eq hg.symm)) hb); replace HO198 := Aside0.mk (Kd.N_below (Kd.N_elderB (zN HO198) gb261 (Nat.le_of_eq hg.symm)) hb); replace HO204 := Aside0.mk (Kd.R_below (Kd.R_elderB (zR HO204) gb261 (Nat.le_of_eq hg.symm)) hb); replace HO208 := Aside0.mk (Kd.N_below (Kd.N_elderB (zN HO208) gb261 (Nat.le_of_eq hg.symm)) hb); replace HO211 := Aside0.mk (Kd.R_below (Kd.R_elderB (zR HO211) gb261 (Nat.le_of_eq hg.symm)) hb); replace HO216 := Aside0.mk (Kd.R_below (zR HO216) hb); replace HO220 := Aside0.mk (Kd.R_below (Kd.R_elderB (zR HO220) gb261 (Nat.le_of_eq hg.symm)) hb); replace HO224 := Aside0.mk (Kd.R_below (zR HO224) hb); replace HO228 := Aside0.mk (Kd.R_below (Kd.R_elderB (zR HO228) gb261 (Nat.le_of_eq hg.symm)) hb); replace HO232 := Aside0.mk (Kd.R_below (zR HO232) hb); replace HO235 := Aside0.mk (Kd.R_below (zR HO235) hb); replace HO240 := Aside0.mk (Kd.R_below (zR HO240) hb); have BK261 := Aside0.mk (hbox); have GW261 := Aside0.mk ((zq5 : w.heap.size ≤ gb261)); have GE261 := Aside0.mk ((zq5 : w.heap.size ≤ gb261)); replace HB := Aside0.mk (below_step (zW HB) hb); have NB237_261 := Aside0.mk ((zq65 : gb237 ≠ gb261)); have NB261_237 := Aside0.mk ((zq66 : gb261 ≠ gb237)); replace BK237 := Aside0.mk (blk_below (zB BK237) hb); have NB247_261 := Aside0.mk ((by rw [hg]; exact Nat.ne_of_lt (blk_lt (zB BK247)) : gb247 ≠ gb261)); have NB261_247 := Aside0.mk ((by rw [hg]; exact Nat.ne_of_gt (blk_lt (zB BK247)) : gb261 ≠ gb247)); replace BK247 := Aside0.mk (blk_below (zB BK247) hb); have NB254_261 := Aside0.mk ((by rw [hg]; exact Nat.ne_of_lt (blk_lt (zB BK254)) : gb254 ≠ gb261)); have NB261_254 := Aside0.mk ((by rw [hg]; exact Nat.ne_of_gt (blk_lt (zB BK254)) : gb261 ≠ gb254)); replace BK254 := Aside0.mk (blk_below (zB BK254) hb); clear hb hbox hg; have hnb54 := NB261_237.out; have hnc54 := NB237_261.out; have hnb55 := NB261_247.out; have hnc55 := NB247_261.out; have hnb56 := NB261_254.out; have hnc56 := NB254_261.out; have hcz57_0 : w53.cell? ⟨gb261, 0, none⟩ = some (.int .i64 0) := (blk_cell BK261.out 0).trans rfl; have hcz57_1 : w53.cell? ⟨gb261, 1, none⟩ = some (.int .i64 0) := (blk_cell BK261.out 1).trans rfl; have hcz57_2 : w53.cell? ⟨gb261, 2, none⟩ = some (.int .i64 0) := (blk_cell BK261.out 2).trans rfl; have hcz57_3 : w53.cell? ⟨gb261, 3, none⟩ = some (.int .i64 0) := (blk_cell BK261.out 3).trans rfl; have hcz57_4 : w53.cell? ⟨gb261, 4, none⟩ = some (.int .i64 0) := (blk_cell BK261.out 4).trans rfl; have hfz57_0 := blk_frozen BK261.out 0; have hfz57_1 := blk_frozen BK261.out 1; have hfz57_2 := blk_frozen BK261.out 2; have hfz57_3 := blk_frozen BK261.out 3; have hfz57_4 := blk_frozen BK261.out 4))
 (try simp only [Act.put, List.setIfInBounds_toArray, List.set_cons_zero, List.set_cons_succ])
 go_cut [125] (fun v125 wc => ∃ (kq : Nat) (x125_17 : Bool), v125 = .bool x125_17 ∧ Aside0 (dialtonelaw22_sane_rest.j0 kq l0 l1 t205 t214 x125_17 t241 t242 t243 t244 t245 t248 t249 t250 t251 t252 = some r) ∧ Aside0 (kq ≤ k) ∧ Aside0 (Kd.N (Kd.slice 3 (Kd.int .i64)) 29 wc w.heap.size (fun k_ => some k_ ≠ (v215 : Value).ownBlock ∧ some k_ ≠ ((.slice Ao38 t230.length co38) : Value).ownBlock ∧ some k_ ≠ ((.slice Ao39 t233.length co39) : Value).ownBlock ∧ k_ ≠ gb237 ∧ k_ ≠ gb247 ∧ k_ ≠ gb254 ∧ k_ ≠ gb261) v207 t205) ∧ Aside0 (Kd.R (Kd.int .i64) 3 wc w.heap.size (fun k_ => some k_ ≠ ((.slice Ao38 t230.length co38) : Value).ownBlock ∧ some k_ ≠ ((.slice Ao39 t233.length co39) : Value).ownBlock) v215 t214) ∧ Aside0 (Kd.R (Kd.int .i64) 3 wc w.heap.size (fun k_ => some k_ ≠ (v215 : Value).ownBlock ∧ some k_ ≠ ((.slice Ao39 t233.length co39) : Value).ownBlock) (.slice Ao38 t230.length co38) t230) ∧ Aside0 (Kd.R (Kd.int .i64) 3 wc w.heap.size (fun k_ => some k_ ≠ (v215 : Value).ownBlock ∧ some k_ ≠ ((.slice Ao38 t230.length co38) : Value).ownBlock) (.slice Ao39 t233.length co39) t233) ∧ Aside0 (wc.heap[gb237]? = some (.cells #[.int .i64 t229, (.slice Ao38 t230.length co38), (.slice Ao39 t233.length co39)] 31 (0, 0))) ∧ Aside0 (wc.heap[gb247]? = some (.cells #[.int .i64 t241, .int .i64 t242, .int .i64 t243, .int .i64 t244, .int .i64 t245] 41 (0, 0))) ∧ Aside0 (wc.heap[gb254]? = some (.cells #[.int .i64 t248, .int .i64 t249, .int .i64 t250, .int .i64 t251, .int .i64 t252] 41 (0, 0))) ∧ Aside0 (wc.heap[gb261]? = some (.cells #[.int .i64 t255, .int .i64 t256, .int .i64 t257, .int .i64 t258, .int .i64 t259] 41 (0, 0))) ∧ Aside0 (Below w.heap.size w wc))
 case first =>
  have H := HC18.out
  clear HC18
  by_cases c58 : t196 = 0
  rotate_left
  ·rw [if_neg c58] at H
   exact absurd H (by simp)
  rw [if_pos c58] at H
  have c58b0 : (t196 == 0) = true := beq_iff_eq.mpr c58
  have c58b1 : (t196 != 0) = false := bne_eq_false_iff_eq.mpr c58
  clear c58
  (first | rw [c58b0] | (simp only [i64_w, i32_w]; rw [c58b0]) | skip)
  by_cases c59 : t206 = 0
  rotate_left
  ·rw [if_neg c59] at H
   exact absurd H (by simp)
  rw [if_pos c59] at H
  have c59b0 : (t206 == 0) = true := beq_iff_eq.mpr c59
  have c59b1 : (t206 != 0) = false := bne_eq_false_iff_eq.mpr c59
  clear c59
  by_cases c60 : t236 = 220
  rotate_left
  ·rw [if_neg c60] at H
   exact absurd H (by simp)
  rw [if_pos c60] at H
  have c60b0 : (t236 == 220) = true := beq_iff_eq.mpr c60
  have c60b1 : (t236 != 220) = false := bne_eq_false_iff_eq.mpr c60
  clear c60
  by_cases c61 : t246 = 0
  rotate_left
  ·rw [if_neg c61] at H
   exact absurd H (by simp)
  rw [if_pos c61] at H
  have c61b0 : (t246 == 0) = true := beq_iff_eq.mpr c61
  have c61b1 : (t246 != 0) = false := bne_eq_false_iff_eq.mpr c61
  clear c61
  by_cases c62 : t253 = 0
  rotate_left
  ·rw [if_neg c62] at H
   exact absurd H (by simp)
  rw [if_pos c62] at H
  have c62b0 : (t253 == 0) = true := beq_iff_eq.mpr c62
  have c62b1 : (t253 != 0) = false := bne_eq_false_iff_eq.mpr c62
  clear c62
  by_cases c63 : t260 = 220
  rotate_left
  ·rw [if_neg c63] at H
   exact absurd H (by simp)
  rw [if_pos c63] at H
  have c63b0 : (t260 == 220) = true := beq_iff_eq.mpr c63
  have c63b1 : (t260 != 220) = false := bne_eq_false_iff_eq.mpr c63
  clear c63
  by_cases c64 : t217 = true
  rotate_left
  ·replace c64 := Bool.eq_false_iff.mpr c64
   subst c64
   rw [if_neg (show ¬ (false = true) by decide)] at H
   exact absurd H (by simp)
  subst c64
  rw [if_pos rfl] at H
  by_cases c65 : t225 = true
  ·subst c65
   rw [if_pos rfl] at H
   exact absurd H (by simp)
  replace c65 := Bool.eq_false_iff.mpr c65
  subst c65
  rw [if_neg (show ¬ (false = true) by decide)] at H
  by_cases c66 : (t195.length : Int) = 0
  rotate_left
  ·rw [if_neg c66] at H
   exact absurd H (by simp)
  rw [if_pos c66] at H
  have c66b0 : ((t195.length : Int) == 0) = true := beq_iff_eq.mpr c66
  have c66b1 : ((t195.length : Int) != 0) = false := bne_eq_false_iff_eq.mpr c66
  clear c66
  have H' := Aside0.mk H
  clear H
  obtain ⟨Ao67, co67, eo67⟩ := Kd.N_slice HO198.out
  subst eo67
  go_wp2
  go_meet
  case rel => exact ⟨_, ((t213 != 500)), (zq2), H', ⟨zq19⟩, ⟨by (with_reducible repeat (first | apply Kd.N_alloc | apply Kd.N_drewN | apply Kd.N_drew)); exact Kd.N_mono (Kd.N_far (p := ⟨gb261, 4, none⟩) (Kd.N_far (p := ⟨gb261, 3, none⟩) (Kd.N_far (p := ⟨gb261, 2, none⟩) (Kd.N_far (p := ⟨gb261, 1, none⟩) (Kd.N_far (p := ⟨gb261, 0, none⟩) (Kd.N_mono HO208.out (fun k_ hk => (⟨hk, hk.2⟩ : _ ∧ k_ ≠ gb261))) (fun _ hk => hk.2) (.int .i64 t255)) (fun _ hk => hk.2) (.int .i64 t256)) (fun _ hk => hk.2) (.int .i64 t257)) (fun _ hk => hk.2) (.int .i64 t258)) (fun _ hk => hk.2) (.int .i64 t259)) (fun _ hk => ⟨hk.1.1.1.1.1.1.1.1.1.1.1.2, ⟨hk.1.1.1.1.1.1.1.2, ⟨hk.1.1.1.1.1.1.2, ⟨hk.1.1.1.1.1.2, ⟨hk.1.1.1.2, ⟨hk.1.1.2, hk.1.2⟩⟩⟩⟩⟩⟩)⟩, ⟨by (with_reducible repeat (first | apply Kd.R_alloc | apply Kd.R_drewN | apply Kd.R_drew)); exact Kd.R_mono (Kd.R_far (p := ⟨gb261, 4, none⟩) (Kd.R_far (p := ⟨gb261, 3, none⟩) (Kd.R_far (p := ⟨gb261, 2, none⟩) (Kd.R_far (p := ⟨gb261, 1, none⟩) (Kd.R_far (p := ⟨gb261, 0, none⟩) (Kd.R_types HO216.out BK261.out (by decide)) (fun _ hk => hk.2) (.int .i64 t255)) (fun _ hk => hk.2) (.int .i64 t256)) (fun _ hk => hk.2) (.int .i64 t257)) (fun _ hk => hk.2) (.int .i64 t258)) (fun _ hk => hk.2) (.int .i64 t259)) (fun _ hk => ⟨hk.1.1.2, hk.1.2⟩)⟩, ⟨by (with_reducible repeat (first | apply Kd.R_alloc | apply Kd.R_drewN | apply Kd.R_drew)); exact Kd.R_mono (Kd.R_far (p := ⟨gb261, 4, none⟩) (Kd.R_far (p := ⟨gb261, 3, none⟩) (Kd.R_far (p := ⟨gb261, 2, none⟩) (Kd.R_far (p := ⟨gb261, 1, none⟩) (Kd.R_far (p := ⟨gb261, 0, none⟩) (Kd.R_types HO232.out BK261.out (by decide)) (fun _ hk => hk.2) (.int .i64 t255)) (fun _ hk => hk.2) (.int .i64 t256)) (fun _ hk => hk.2) (.int .i64 t257)) (fun _ hk => hk.2) (.int .i64 t258)) (fun _ hk => hk.2) (.int .i64 t259)) (fun _ hk => ⟨hk.1.1.2, hk.1.1.1⟩)⟩, ⟨by (with_reducible repeat (first | apply Kd.R_alloc | apply Kd.R_drewN | apply Kd.R_drew)); exact Kd.R_mono (Kd.R_far (p := ⟨gb261, 4, none⟩) (Kd.R_far (p := ⟨gb261, 3, none⟩) (Kd.R_far (p := ⟨gb261, 2, none⟩) (Kd.R_far (p := ⟨gb261, 1, none⟩) (Kd.R_far (p := ⟨gb261, 0, none⟩) (Kd.R_types HO235.out BK261.out (by decide)) (fun _ hk => hk.2) (.int .i64 t255)) (fun _ hk => hk.2) (.int .i64 t256)) (fun _ hk => hk.2) (.int .i64 t257)) (fun _ hk => hk.2) (.int .i64 t258)) (fun _ hk => hk.2) (.int .i64 t259)) (fun _ hk => ⟨hk.1.1.2, hk.1.1.1⟩)⟩, ⟨by (with_reducible repeat (first | refine blk_drewN ?_ _ | refine blk_drew ?_ | refine blk_alloc ?_ _)); refine blk_far ?_ NB237_261.out _; (with_reducible repeat (first | refine blk_drewN ?_ _ | refine blk_drew ?_ | refine blk_alloc ?_ _)); refine blk_far ?_ NB237_261.out _; (with_reducible repeat (first | refine blk_drewN ?_ _ | refine blk_drew ?_ | refine blk_alloc ?_ _)); refine blk_far ?_ NB237_261.out _; (with_reducible repeat (first | refine blk_drewN ?_ _ | refine blk_drew ?_ | refine blk_alloc ?_ _)); refine blk_far ?_ NB237_261.out _; (with_reducible repeat (first | refine blk_drewN ?_ _ | refine blk_drew ?_ | refine blk_alloc ?_ _)); refine blk_far ?_ NB237_261.out _; (with_reducible repeat (first | refine blk_drewN ?_ _ | refine blk_drew ?_ | refine blk_alloc ?_ _)); exact BK237.out⟩, ⟨by (with_reducible repeat (first | refine blk_drewN ?_ _ | refine blk_drew ?_ | refine blk_alloc ?_ _)); refine blk_far ?_ NB247_261.out _; (with_reducible repeat (first | refine blk_drewN ?_ _ | refine blk_drew ?_ | refine blk_alloc ?_ _)); refine blk_far ?_ NB247_261.out _; (with_reducible repeat (first | refine blk_drewN ?_ _ | refine blk_drew ?_ | refine blk_alloc ?_ _)); refine blk_far ?_ NB247_261.out _; (with_reducible repeat (first | refine blk_drewN ?_ _ | refine blk_drew ?_ | refine blk_alloc ?_ _)); refine blk_far ?_ NB247_261.out _; (with_reducible repeat (first | refine blk_drewN ?_ _ | refine blk_drew ?_ | refine blk_alloc ?_ _)); refine blk_far ?_ NB247_261.out _; (with_reducible repeat (first | refine blk_drewN ?_ _ | refine blk_drew ?_ | refine blk_alloc ?_ _)); exact BK247.out⟩, ⟨by (with_reducible repeat (first | refine blk_drewN ?_ _ | refine blk_drew ?_ | refine blk_alloc ?_ _)); refine blk_far ?_ NB254_261.out _; (with_reducible repeat (first | refine blk_drewN ?_ _ | refine blk_drew ?_ | refine blk_alloc ?_ _)); refine blk_far ?_ NB254_261.out _; (with_reducible repeat (first | refine blk_drewN ?_ _ | refine blk_drew ?_ | refine blk_alloc ?_ _)); refine blk_far ?_ NB254_261.out _; (with_reducible repeat (first | refine blk_drewN ?_ _ | refine blk_drew ?_ | refine blk_alloc ?_ _)); refine blk_far ?_ NB254_261.out _; (with_reducible repeat (first | refine blk_drewN ?_ _ | refine blk_drew ?_ | refine blk_alloc ?_ _)); refine blk_far ?_ NB254_261.out _; (with_reducible repeat (first | refine blk_drewN ?_ _ | refine blk_drew ?_ | refine blk_alloc ?_ _)); exact BK254.out⟩, ⟨by (with_reducible repeat (first | refine blk_drewN ?_ _ | refine blk_drew ?_ | refine blk_alloc ?_ _)); refine blk_put (cs := #[.int .i64 t255, .int .i64 t256, .int .i64 t257, .int .i64 t258, .int .i64 0]) ?_ 4 _ rfl; (with_reducible repeat (first | refine blk_drewN ?_ _ | refine blk_drew ?_ | refine blk_alloc ?_ _)); refine blk_put (cs := #[.int .i64 t255, .int .i64 t256, .int .i64 t257, .int .i64 0, .int .i64 0]) ?_ 3 _ rfl; (with_reducible repeat (first | refine blk_drewN ?_ _ | refine blk_drew ?_ | refine blk_alloc ?_ _)); refine blk_put (cs := #[.int .i64 t255, .int .i64 t256, .int .i64 0, .int .i64 0, .int .i64 0]) ?_ 2 _ rfl; (with_reducible repeat (first | refine blk_drewN ?_ _ | refine blk_drew ?_ | refine blk_alloc ?_ _)); refine blk_put (cs := #[.int .i64 t255, .int .i64 0, .int .i64 0, .int .i64 0, .int .i64 0]) ?_ 1 _ rfl; (with_reducible repeat (first | refine blk_drewN ?_ _ | refine blk_drew ?_ | refine blk_alloc ?_ _)); refine blk_put (cs := #[.int .i64 0, .int .i64 0, .int .i64 0, .int .i64 0, .int .i64 0]) ?_ 0 _ rfl; (with_reducible repeat (first | refine blk_drewN ?_ _ | refine blk_drew ?_ | refine blk_alloc ?_ _)); exact BK261.out⟩, ⟨zq71⟩⟩
 case rest =>
  clear HC18
  try clear c1
  try clear c2
  try clear p2
  try clear q2
  try clear hx2
  try clear qi2
  try clear c3
  try clear c4
  try clear c5
  try clear c6
  try clear p6
  try clear c9
  try clear c9b0
  try clear c9b1
  try clear c11
  try clear c19
  try clear c20
  try clear c21
  try clear p21
  try clear q21
  try clear hx21
  try clear qi21
  try clear c22
  try clear c45
  try clear c49
  try clear c50
  try clear c54
  try clear c55
  try clear c56
  try clear c58
  try clear c58b0
  try clear c58b1
  try clear c59
  try clear c59b0
  try clear c59b1
  try clear c60
  try clear c60b0
  try clear c60b1
  try clear c61
  try clear c61b0
  try clear c61b1
  try clear c62
  try clear c62b0
  try clear c62b1
  try clear c63
  try clear c63b0
  try clear c63b1
  try clear c64
  try clear p64
  try clear c65
  try clear c66
  try clear c66b0
  try clear c66b1
  try clear hcz37_0
  try clear hcz37_1
  try clear hcz37_2
  try clear hcz46_0
  try clear hcz46_1
  try clear hcz46_2
  try clear hcz46_3
  try clear hcz46_4
  try clear hcz51_0
  try clear hcz51_1
  try clear hcz51_2
  try clear hcz51_3
  try clear hcz51_4
  try clear hcz57_0
  try clear hcz57_1
  try clear hcz57_2
  try clear hcz57_3
  try clear hcz57_4
  try clear hfz37_0
  try clear hfz37_1
  try clear hfz37_2
  try clear hfz46_0
  try clear hfz46_1
  try clear hfz46_2
  try clear hfz46_3
  try clear hfz46_4
  try clear hfz51_0
  try clear hfz51_1
  try clear hfz51_2
  try clear hfz51_3
  try clear hfz51_4
  try clear hfz57_0
  try clear hfz57_1
  try clear hfz57_2
  try clear hfz57_3
  try clear hfz57_4
  try clear hx212_0
  try clear hx212_1
  try clear hx212_2
  try clear hx212_3
  try clear hx212_4
  try clear p212
  try clear q212
  obtain ⟨kq, x125_17, rfl, HA, HJ17, HO_6, HO_9, HO_238001, HO_238002, BK237, BK247, BK254, BK261, HB⟩ := hcut
  cases kq with
  | zero => exact absurd HA.out (by simp [dialtonelaw22_sane_rest.j0])
  | succ kj17 =>
   have H := HA.out
   clear HA
   simp only [dialtonelaw22_sane_rest.j0] at H
   by_cases c68 : x125_17 = true
   ·subst c68
    rw [if_pos rfl] at H
    exact absurd H (by simp)
   replace c68 := Bool.eq_false_iff.mpr c68
   subst c68
   rw [if_neg (show ¬ (false = true) by decide)] at H
   have HC69 := Aside0.mk H
   clear H
   go_upto_region 15 with (fail)
   go_cut [23] (fun v23 wc => ∃ (kq : Nat) (x23_68 : Bool), v23 = .bool x23_68 ∧ Aside0 (dialtonelaw22_sane_rest.j1 kq l1 t205 t214 x23_68 t241 t242 t243 t244 t245 t248 t249 t250 t251 t252 = some r) ∧ Aside0 (kq ≤ kj17) ∧ Aside0 (Kd.N (Kd.slice 3 (Kd.int .i64)) 29 wc w.heap.size (fun k_ => some k_ ≠ (v215 : Value).ownBlock ∧ some k_ ≠ ((.slice Ao38 t230.length co38) : Value).ownBlock ∧ some k_ ≠ ((.slice Ao39 t233.length co39) : Value).ownBlock ∧ k_ ≠ gb237 ∧ k_ ≠ gb247 ∧ k_ ≠ gb254 ∧ k_ ≠ gb261) v207 t205) ∧ Aside0 (Kd.R (Kd.int .i64) 3 wc w.heap.size (fun k_ => some k_ ≠ ((.slice Ao38 t230.length co38) : Value).ownBlock ∧ some k_ ≠ ((.slice Ao39 t233.length co39) : Value).ownBlock) v215 t214) ∧ Aside0 (Kd.R (Kd.int .i64) 3 wc w.heap.size (fun k_ => some k_ ≠ (v215 : Value).ownBlock ∧ some k_ ≠ ((.slice Ao39 t233.length co39) : Value).ownBlock) (.slice Ao38 t230.length co38) t230) ∧ Aside0 (Kd.R (Kd.int .i64) 3 wc w.heap.size (fun k_ => some k_ ≠ (v215 : Value).ownBlock ∧ some k_ ≠ ((.slice Ao38 t230.length co38) : Value).ownBlock) (.slice Ao39 t233.length co39) t233) ∧ Aside0 (wc.heap[gb237]? = some (.cells #[.int .i64 t229, (.slice Ao38 t230.length co38), (.slice Ao39 t233.length co39)] 31 (0, 0))) ∧ Aside0 (wc.heap[gb247]? = some (.cells #[.int .i64 t241, .int .i64 t242, .int .i64 t243, .int .i64 t244, .int .i64 t245] 41 (0, 0))) ∧ Aside0 (wc.heap[gb254]? = some (.cells #[.int .i64 t248, .int .i64 t249, .int .i64 t250, .int .i64 t251, .int .i64 t252] 41 (0, 0))) ∧ Aside0 (wc.heap[gb261]? = some (.cells #[.int .i64 t255, .int .i64 t256, .int .i64 t257, .int .i64 t258, .int .i64 t259] 41 (0, 0))) ∧ Aside0 (Below w.heap.size w wc))
   case first =>
    have H := HC69.out
    clear HC69
    obtain ⟨y262, hy262⟩ : ∃ y_ : List Int, y_ = (([10, 20] : List Int)) := ⟨_, rfl⟩
    replace H : ((dialtonelaw22_ends.f kj17 ([] : List (S37)) 100 1 y262 (([0] : List Int))).bind fun t268 => (if t268 = true then ((dialtonelaw22_ends.f kj17 l0 100 1 (([10, 20, 30] : List Int)) (([0, 1] : List Int))).bind fun t275 => (if t275 = true then ((dialtonelaw22_ends.f kj17 l1 100 2 (([10, 20, 30] : List Int)) (([0, 1] : List Int))).bind fun t282 => (if t282 = true then ((dialtonelaw22_ends.f kj17 l0 600 5 (([10, 20, 30, 10] : List Int)) (([0, 1, 2] : List Int))).bind fun t289 => (if t289 = true then ((dialtonelaw22_ends.f kj17 ([] : List (S37)) 1000 1 (([10] : List Int)) ([] : List Int)).bind fun t293 => (dialtonelaw22_sane_rest.j1 kj17 l1 t205 t214 t293 t241 t242 t243 t244 t245 t248 t249 t250 t251 t252)) else (none))) else (none))) else (none))) else (none))) = some r := by first | (rw [hy262]; with_reducible exact H) | (have H2_ := (Option.bind_some _ _).symm.trans H; rw [hy262]; with_reducible exact H2_) | (have H2_ := (Option.bind_some _ _).symm.trans H; with_reducible exact H2_) | with_reducible exact H | (rw [hy262]; exact H) | exact H
    have Ny262 := Aside0.mk hy262
    clear hy262
    obtain ⟨y265, hy265⟩ : ∃ y_ : List Int, y_ = (([0] : List Int)) := ⟨_, rfl⟩
    replace H : ((dialtonelaw22_ends.f kj17 ([] : List (S37)) 100 1 y262 y265).bind fun t268 => (if t268 = true then ((dialtonelaw22_ends.f kj17 l0 100 1 (([10, 20, 30] : List Int)) (([0, 1] : List Int))).bind fun t275 => (if t275 = true then ((dialtonelaw22_ends.f kj17 l1 100 2 (([10, 20, 30] : List Int)) (([0, 1] : List Int))).bind fun t282 => (if t282 = true then ((dialtonelaw22_ends.f kj17 l0 600 5 (([10, 20, 30, 10] : List Int)) (([0, 1, 2] : List Int))).bind fun t289 => (if t289 = true then ((dialtonelaw22_ends.f kj17 ([] : List (S37)) 1000 1 (([10] : List Int)) ([] : List Int)).bind fun t293 => (dialtonelaw22_sane_rest.j1 kj17 l1 t205 t214 t293 t241 t242 t243 t244 t245 t248 t249 t250 t251 t252)) else (none))) else (none))) else (none))) else (none))) = some r := by first | (rw [hy265]; with_reducible exact H) | (have H2_ := (Option.bind_some _ _).symm.trans H; rw [hy265]; with_reducible exact H2_) | (have H2_ := (Option.bind_some _ _).symm.trans H; with_reducible exact H2_) | with_reducible exact H | (rw [hy265]; exact H) | exact H
    have Ny265 := Aside0.mk hy265
    clear hy265
    replace H := Option.bind_eq_some_iff.mp H
    obtain ⟨t268, A700, H⟩ := H
    try dsimp only at H
    have A70 := Aside0.mk A700
    clear A700
    by_cases c71 : t268 = true
    rotate_left
    ·replace c71 := Bool.eq_false_iff.mpr c71
     subst c71
     rw [if_neg (show ¬ (false = true) by decide)] at H
     exact absurd H (by simp)
    subst c71
    rw [if_pos rfl] at H
    obtain ⟨y269, hy269⟩ : ∃ y_ : List Int, y_ = (([10, 20, 30] : List Int)) := ⟨_, rfl⟩
    replace H : ((dialtonelaw22_ends.f kj17 l0 100 1 y269 (([0, 1] : List Int))).bind fun t275 => (if t275 = true then ((dialtonelaw22_ends.f kj17 l1 100 2 (([10, 20, 30] : List Int)) (([0, 1] : List Int))).bind fun t282 => (if t282 = true then ((dialtonelaw22_ends.f kj17 l0 600 5 (([10, 20, 30, 10] : List Int)) (([0, 1, 2] : List Int))).bind fun t289 => (if t289 = true then ((dialtonelaw22_ends.f kj17 ([] : List (S37)) 1000 1 (([10] : List Int)) ([] : List Int)).bind fun t293 => (dialtonelaw22_sane_rest.j1 kj17 l1 t205 t214 t293 t241 t242 t243 t244 t245 t248 t249 t250 t251 t252)) else (none))) else (none))) else (none))) = some r := by first | (rw [hy269]; with_reducible exact H) | (have H2_ := (Option.bind_some _ _).symm.trans H; rw [hy269]; with_reducible exact H2_) | (have H2_ := (Option.bind_some _ _).symm.trans H; with_reducible exact H2_) | with_reducible exact H | (rw [hy269]; exact H) | exact H
    have Ny269 := Aside0.mk hy269
    clear hy269
    obtain ⟨y272, hy272⟩ : ∃ y_ : List Int, y_ = (([0, 1] : List Int)) := ⟨_, rfl⟩
    replace H : ((dialtonelaw22_ends.f kj17 l0 100 1 y269 y272).bind fun t275 => (if t275 = true then ((dialtonelaw22_ends.f kj17 l1 100 2 (([10, 20, 30] : List Int)) (([0, 1] : List Int))).bind fun t282 => (if t282 = true then ((dialtonelaw22_ends.f kj17 l0 600 5 (([10, 20, 30, 10] : List Int)) (([0, 1, 2] : List Int))).bind fun t289 => (if t289 = true then ((dialtonelaw22_ends.f kj17 ([] : List (S37)) 1000 1 (([10] : List Int)) ([] : List Int)).bind fun t293 => (dialtonelaw22_sane_rest.j1 kj17 l1 t205 t214 t293 t241 t242 t243 t244 t245 t248 t249 t250 t251 t252)) else (none))) else (none))) else (none))) = some r := by first | (rw [hy272]; with_reducible exact H) | (have H2_ := (Option.bind_some _ _).symm.trans H; rw [hy272]; with_reducible exact H2_) | (have H2_ := (Option.bind_some _ _).symm.trans H; with_reducible exact H2_) | with_reducible exact H | (rw [hy272]; exact H) | exact H
    have Ny272 := Aside0.mk hy272
    clear hy272
    replace H := Option.bind_eq_some_iff.mp H
    obtain ⟨t275, A720, H⟩ := H
    try dsimp only at H
    have A72 := Aside0.mk A720
    clear A720
    by_cases c73 : t275 = true
    rotate_left
    ·replace c73 := Bool.eq_false_iff.mpr c73
     subst c73
     rw [if_neg (show ¬ (false = true) by decide)] at H
     exact absurd H (by simp)
    subst c73
    rw [if_pos rfl] at H
    obtain ⟨y276, hy276⟩ : ∃ y_ : List Int, y_ = (([10, 20, 30] : List Int)) := ⟨_, rfl⟩
    replace H : ((dialtonelaw22_ends.f kj17 l1 100 2 y276 (([0, 1] : List Int))).bind fun t282 => (if t282 = true then ((dialtonelaw22_ends.f kj17 l0 600 5 (([10, 20, 30, 10] : List Int)) (([0, 1, 2] : List Int))).bind fun t289 => (if t289 = true then ((dialtonelaw22_ends.f kj17 ([] : List (S37)) 1000 1 (([10] : List Int)) ([] : List Int)).bind fun t293 => (dialtonelaw22_sane_rest.j1 kj17 l1 t205 t214 t293 t241 t242 t243 t244 t245 t248 t249 t250 t251 t252)) else (none))) else (none))) = some r := by first | (rw [hy276]; with_reducible exact H) | (have H2_ := (Option.bind_some _ _).symm.trans H; rw [hy276]; with_reducible exact H2_) | (have H2_ := (Option.bind_some _ _).symm.trans H; with_reducible exact H2_) | with_reducible exact H | (rw [hy276]; exact H) | exact H
    have Ny276 := Aside0.mk hy276
    clear hy276
    obtain ⟨y279, hy279⟩ : ∃ y_ : List Int, y_ = (([0, 1] : List Int)) := ⟨_, rfl⟩
    replace H : ((dialtonelaw22_ends.f kj17 l1 100 2 y276 y279).bind fun t282 => (if t282 = true then ((dialtonelaw22_ends.f kj17 l0 600 5 (([10, 20, 30, 10] : List Int)) (([0, 1, 2] : List Int))).bind fun t289 => (if t289 = true then ((dialtonelaw22_ends.f kj17 ([] : List (S37)) 1000 1 (([10] : List Int)) ([] : List Int)).bind fun t293 => (dialtonelaw22_sane_rest.j1 kj17 l1 t205 t214 t293 t241 t242 t243 t244 t245 t248 t249 t250 t251 t252)) else (none))) else (none))) = some r := by first | (rw [hy279]; with_reducible exact H) | (have H2_ := (Option.bind_some _ _).symm.trans H; rw [hy279]; with_reducible exact H2_) | (have H2_ := (Option.bind_some _ _).symm.trans H; with_reducible exact H2_) | with_reducible exact H | (rw [hy279]; exact H) | exact H
    have Ny279 := Aside0.mk hy279
    clear hy279
    replace H := Option.bind_eq_some_iff.mp H
    obtain ⟨t282, A740, H⟩ := H
    try dsimp only at H
    have A74 := Aside0.mk A740
    clear A740
    by_cases c75 : t282 = true
    rotate_left
    ·replace c75 := Bool.eq_false_iff.mpr c75
     subst c75
     rw [if_neg (show ¬ (false = true) by decide)] at H
     exact absurd H (by simp)
    subst c75
    rw [if_pos rfl] at H
    obtain ⟨y283, hy283⟩ : ∃ y_ : List Int, y_ = (([10, 20, 30, 10] : List Int)) := ⟨_, rfl⟩
    replace H : ((dialtonelaw22_ends.f kj17 l0 600 5 y283 (([0, 1, 2] : List Int))).bind fun t289 => (if t289 = true then ((dialtonelaw22_ends.f kj17 ([] : List (S37)) 1000 1 (([10] : List Int)) ([] : List Int)).bind fun t293 => (dialtonelaw22_sane_rest.j1 kj17 l1 t205 t214 t293 t241 t242 t243 t244 t245 t248 t249 t250 t251 t252)) else (none))) = some r := by first | (rw [hy283]; with_reducible exact H) | (have H2_ := (Option.bind_some _ _).symm.trans H; rw [hy283]; with_reducible exact H2_) | (have H2_ := (Option.bind_some _ _).symm.trans H; with_reducible exact H2_) | with_reducible exact H | (rw [hy283]; exact H) | exact H
    have Ny283 := Aside0.mk hy283
    clear hy283
    obtain ⟨y286, hy286⟩ : ∃ y_ : List Int, y_ = (([0, 1, 2] : List Int)) := ⟨_, rfl⟩
    replace H : ((dialtonelaw22_ends.f kj17 l0 600 5 y283 y286).bind fun t289 => (if t289 = true then ((dialtonelaw22_ends.f kj17 ([] : List (S37)) 1000 1 (([10] : List Int)) ([] : List Int)).bind fun t293 => (dialtonelaw22_sane_rest.j1 kj17 l1 t205 t214 t293 t241 t242 t243 t244 t245 t248 t249 t250 t251 t252)) else (none))) = some r := by first | (rw [hy286]; with_reducible exact H) | (have H2_ := (Option.bind_some _ _).symm.trans H; rw [hy286]; with_reducible exact H2_) | (have H2_ := (Option.bind_some _ _).symm.trans H; with_reducible exact H2_) | with_reducible exact H | (rw [hy286]; exact H) | exact H
    have Ny286 := Aside0.mk hy286
    clear hy286
    replace H := Option.bind_eq_some_iff.mp H
    obtain ⟨t289, A760, H⟩ := H
    try dsimp only at H
    have A76 := Aside0.mk A760
    clear A760
    by_cases c77 : t289 = true
    rotate_left
    ·replace c77 := Bool.eq_false_iff.mpr c77
     subst c77
     rw [if_neg (show ¬ (false = true) by decide)] at H
     exact absurd H (by simp)
    subst c77
    rw [if_pos rfl] at H
    obtain ⟨y290, hy290⟩ : ∃ y_ : List Int, y_ = (([10] : List Int)) := ⟨_, rfl⟩
    replace H : ((dialtonelaw22_ends.f kj17 ([] : List (S37)) 1000 1 y290 ([] : List Int)).bind fun t293 => (dialtonelaw22_sane_rest.j1 kj17 l1 t205 t214 t293 t241 t242 t243 t244 t245 t248 t249 t250 t251 t252)) = some r := by first | (rw [hy290]; with_reducible exact H) | (have H2_ := (Option.bind_some _ _).symm.trans H; rw [hy290]; with_reducible exact H2_) | (have H2_ := (Option.bind_some _ _).symm.trans H; with_reducible exact H2_) | with_reducible exact H | (rw [hy290]; exact H) | exact H
    have Ny290 := Aside0.mk hy290
    clear hy290
    replace H := Option.bind_eq_some_iff.mp H
    obtain ⟨t293, A780, H⟩ := H
    try dsimp only at H
    have A78 := Aside0.mk A780
    clear A780
    have H' := Aside0.mk H
    clear H
    go_wp2_with (first | ((with_reducible refine gate_dst (N := 126) rfl ?_); (try (refine gate_guard (by rfl) ?_; dsimp only)); refine Kd.R_lit (Kd.int .i64) _ 3 ?hg (N := 126) ?hd (xs := ([10, 20] : List Int)) (inner := [.int .i64 10, .int .i64 20]) (ok := fun _ => True) (okp := fun _ => True) ?hr ?hp (fun _ hk => hk) trivial (Below.refl _ _) (Nat.le_refl _) (by simp) ?_; (case hd => rfl); (case hg => rfl); (case hr => exact zq4); (case hp => exact (Reps.one (show Kd.M (Kd.int .i64) _ _ _ 10 [.int .i64 10] from rfl) (Reps.one (show Kd.M (Kd.int .i64) _ _ _ 20 [.int .i64 20] from rfl) (Reps.none _ _)))); intro v263 w79 ho80 hb hg_ hnew_; clear hg_ hnew_; (first | rw [← Ny262.out] at ho80 | (simp only [Int.reduceToNat] at ho80; rw [← Ny262.out] at ho80)); replace HO_6 := Aside0.mk (Kd.N_elder' (zN HO_6) (Kd.R_base ho80) hb); have HO264 := Aside0.mk (Kd.R_lower (Kd.R_new' (Kd.R_new' (Kd.R_new' ho80 (Kd.R_lt (zR HO_9))) (Kd.R_lt (zR HO_238001))) (Kd.R_lt (zR HO_238002))) (below_size (zW HB))); replace HO_9 := Aside0.mk (Kd.R_elder' (zR HO_9) (Kd.R_base ho80) hb); replace HO_238001 := Aside0.mk (Kd.R_elder' (zR HO_238001) (Kd.R_base ho80) hb); replace HO_238002 := Aside0.mk (Kd.R_elder' (zR HO_238002) (Kd.R_base ho80) hb); replace BK237 := Aside0.mk (blk_below (zB BK237) hb); replace BK247 := Aside0.mk (blk_below (zB BK247) hb); replace BK254 := Aside0.mk (blk_below (zB BK254) hb); replace BK261 := Aside0.mk (blk_below (zB BK261) hb); replace HB := Aside0.mk (below_step (zW HB) hb); clear hb ho80) | ((with_reducible refine gate_dst (N := 127) rfl ?_); (try (refine gate_guard (by rfl) ?_; dsimp only)); refine Kd.R_lit (Kd.int .i64) _ 3 ?hg (N := 127) ?hd (xs := ([0] : List Int)) (inner := [.int .i64 0]) (ok := fun _ => True) (okp := fun _ => True) ?hr ?hp (fun _ hk => hk) trivial (Below.refl _ _) (Nat.le_refl _) (by simp) ?_; (case hd => rfl); (case hg => rfl); (case hr => exact zq4); (case hp => exact (Reps.one (show Kd.M (Kd.int .i64) _ _ _ 0 [.int .i64 0] from rfl) (Reps.none _ _))); intro v266 w81 ho82 hb hg_ hnew_; clear hg_ hnew_; (first | rw [← Ny265.out] at ho82 | (simp only [Int.reduceToNat] at ho82; rw [← Ny265.out] at ho82)); replace HO_6 := Aside0.mk (Kd.N_elder' (zN HO_6) (Kd.R_base ho82) hb); have HO267 := Aside0.mk (Kd.R_lower (Kd.R_new' (Kd.R_new' (Kd.R_new' (Kd.R_new' ho82 (Kd.R_lt (zR HO_9))) (Kd.R_lt (zR HO_238001))) (Kd.R_lt (zR HO_238002))) (Kd.R_lt (zR HO264))) (below_size (zW HB))); replace HO_9 := Aside0.mk (Kd.R_elder' (zR HO_9) (Kd.R_base ho82) hb); replace HO_238001 := Aside0.mk (Kd.R_elder' (zR HO_238001) (Kd.R_base ho82) hb); replace HO_238002 := Aside0.mk (Kd.R_elder' (zR HO_238002) (Kd.R_base ho82) hb); replace HO264 := Aside0.mk (Kd.R_elder' (zR HO264) (Kd.R_base ho82) hb); replace BK237 := Aside0.mk (blk_below (zB BK237) hb); replace BK247 := Aside0.mk (blk_below (zB BK247) hb); replace BK254 := Aside0.mk (blk_below (zB BK254) hb); replace BK261 := Aside0.mk (blk_below (zB BK261) hb); replace HB := Aside0.mk (below_step (zW HB) hb); clear hb ho82; obtain ⟨Ao83, co83, eo83⟩ := Kd.R_slice HO264.out; subst eo83; obtain ⟨Ao84, co84, eo84⟩ := Kd.R_slice HO267.out; subst eo84) | ((with_reducible refine gate_callee (f := 23) rfl ?_); refine goesL_ (some 128) rfl rfl Tryz.func23 (by kernel_rfl) rfl #[.slice none 0 0, .int .i64 100, .int .i64 1, .slice Ao83 y262.length co83, .slice Ao84 y265.length co84] rfl zG ?_; (refine (dialtonelaw22_ends.calls kj17 _ _ ([] : List (S37)) 100 1 _ _ y262 _ _ y265 true _ ?side1 ?side2 ?side3 ?side4 ?side5 ?side6 A70.out).mono ?_); (case side1 => exact zq62); (case side2 => exact zq63); (case side3 => exact zC (Kd.R_reads' HO264.out).2.2); (case side4 => exact (Kd.R_reads' HO264.out).2.1); (case side5 => exact zC (Kd.R_reads' HO267.out).2.2); (case side6 => exact (Kd.R_reads' HO267.out).2.1); rintro e w85 ⟨rfl, hb⟩; refine ⟨_, rfl, ?_⟩; replace HO_6 := Aside0.mk (Kd.N_below (zN HO_6) hb); replace HO_9 := Aside0.mk (Kd.R_below (zR HO_9) hb); replace HO_238001 := Aside0.mk (Kd.R_below (zR HO_238001) hb); replace HO_238002 := Aside0.mk (Kd.R_below (zR HO_238002) hb); replace HO264 := Aside0.mk (Kd.R_below (zR HO264) hb); replace HO267 := Aside0.mk (Kd.R_below (zR HO267) hb); replace BK237 := Aside0.mk (blk_below (zB BK237) hb); replace BK247 := Aside0.mk (blk_below (zB BK247) hb); replace BK254 := Aside0.mk (blk_below (zB BK254) hb); replace BK261 := Aside0.mk (blk_below (zB BK261) hb); replace HB := Aside0.mk (below_step (zW HB) hb); (try clear hb); (try clear hb2); (try clear hk); (try clear hi)) | ((with_reducible refine gate_dst (N := 131) rfl ?_); (try (refine gate_guard (by rfl) ?_; dsimp only)); refine Kd.R_lit (Kd.int .i64) _ 3 ?hg (N := 131) ?hd (xs := ([10, 20, 30] : List Int)) (inner := [.int .i64 10, .int .i64 20, .int .i64 30]) (ok := fun _ => True) (okp := fun _ => True) ?hr ?hp (fun _ hk => hk) trivial (Below.refl _ _) (Nat.le_refl _) (by simp) ?_; (case hd => rfl); (case hg => rfl); (case hr => exact zq4); (case hp => exact zq69); intro v270 w86 ho87 hb hg_ hnew_; clear hg_ hnew_; (first | rw [← Ny269.out] at ho87 | (simp only [Int.reduceToNat] at ho87; rw [← Ny269.out] at ho87)); replace HO_6 := Aside0.mk (Kd.N_elder' (zN HO_6) (Kd.R_base ho87) hb); have HO271 := Aside0.mk (Kd.R_lower (Kd.R_new' (Kd.R_new' (Kd.R_new' (Kd.R_new' (Kd.R_new' ho87 (Kd.R_lt (zR HO_9))) (Kd.R_lt (zR HO_238001))) (Kd.R_lt (zR HO_238002))) (Kd.R_lt (zR HO264))) (Kd.R_lt (zR HO267))) (below_size (zW HB))); replace HO_9 := Aside0.mk (Kd.R_elder' (zR HO_9) (Kd.R_base ho87) hb); replace HO_238001 := Aside0.mk (Kd.R_elder' (zR HO_238001) (Kd.R_base ho87) hb); replace HO_238002 := Aside0.mk (Kd.R_elder' (zR HO_238002) (Kd.R_base ho87) hb); replace HO264 := Aside0.mk (Kd.R_elder' (zR HO264) (Kd.R_base ho87) hb); replace HO267 := Aside0.mk (Kd.R_elder' (zR HO267) (Kd.R_base ho87) hb); replace BK237 := Aside0.mk (blk_below (zB BK237) hb); replace BK247 := Aside0.mk (blk_below (zB BK247) hb); replace BK254 := Aside0.mk (blk_below (zB BK254) hb); replace BK261 := Aside0.mk (blk_below (zB BK261) hb); replace HB := Aside0.mk (below_step (zW HB) hb); clear hb ho87) | ((with_reducible refine gate_dst (N := 132) rfl ?_); (try (refine gate_guard (by rfl) ?_; dsimp only)); refine Kd.R_lit (Kd.int .i64) _ 3 ?hg (N := 132) ?hd (xs := ([0, 1] : List Int)) (inner := [.int .i64 0, .int .i64 1]) (ok := fun _ => True) (okp := fun _ => True) ?hr ?hp (fun _ hk => hk) trivial (Below.refl _ _) (Nat.le_refl _) (by simp) ?_; (case hd => rfl); (case hg => rfl); (case hr => exact zq4); (case hp => exact zq70); intro v273 w88 ho89 hb hg_ hnew_; clear hg_ hnew_; (first | rw [← Ny272.out] at ho89 | (simp only [Int.reduceToNat] at ho89; rw [← Ny272.out] at ho89)); replace HO_6 := Aside0.mk (Kd.N_elder' (zN HO_6) (Kd.R_base ho89) hb); have HO274 := Aside0.mk (Kd.R_lower (Kd.R_new' (Kd.R_new' (Kd.R_new' (Kd.R_new' (Kd.R_new' (Kd.R_new' ho89 (Kd.R_lt (zR HO_9))) (Kd.R_lt (zR HO_238001))) (Kd.R_lt (zR HO_238002))) (Kd.R_lt (zR HO264))) (Kd.R_lt (zR HO267))) (Kd.R_lt (zR HO271))) (below_size (zW HB))); replace HO_9 := Aside0.mk (Kd.R_elder' (zR HO_9) (Kd.R_base ho89) hb); replace HO_238001 := Aside0.mk (Kd.R_elder' (zR HO_238001) (Kd.R_base ho89) hb); replace HO_238002 := Aside0.mk (Kd.R_elder' (zR HO_238002) (Kd.R_base ho89) hb); replace HO264 := Aside0.mk (Kd.R_elder' (zR HO264) (Kd.R_base ho89) hb); replace HO267 := Aside0.mk (Kd.R_elder' (zR HO267) (Kd.R_base ho89) hb); replace HO271 := Aside0.mk (Kd.R_elder' (zR HO271) (Kd.R_base ho89) hb); replace BK237 := Aside0.mk (blk_below (zB BK237) hb); replace BK247 := Aside0.mk (blk_below (zB BK247) hb); replace BK254 := Aside0.mk (blk_below (zB BK254) hb); replace BK261 := Aside0.mk (blk_below (zB BK261) hb); replace HB := Aside0.mk (below_step (zW HB) hb); clear hb ho89; obtain ⟨Ao90, co90, eo90⟩ := Kd.R_slice HO271.out; subst eo90; obtain ⟨Ao91, co91, eo91⟩ := Kd.R_slice HO274.out; subst eo91) | (go_at_call 23; (with_reducible refine (dialtonelaw22_ends.calls kj17 _ _ l0 100 1 _ _ y269 _ _ y272 true _ ?side1 ?side2 ?side3 ?side4 ?side5 ?side6 A72.out).mono ?_); (case side1 => exact zq11); (case side2 => exact zq12); (case side3 => exact zC (Kd.R_reads' HO271.out).2.2); (case side4 => exact (Kd.R_reads' HO271.out).2.1); (case side5 => exact zC (Kd.R_reads' HO274.out).2.2); (case side6 => exact (Kd.R_reads' HO274.out).2.1); rintro e w92 ⟨rfl, hb⟩; replace HO_6 := Aside0.mk (Kd.N_below (zN HO_6) hb); replace HO_9 := Aside0.mk (Kd.R_below (zR HO_9) hb); replace HO_238001 := Aside0.mk (Kd.R_below (zR HO_238001) hb); replace HO_238002 := Aside0.mk (Kd.R_below (zR HO_238002) hb); replace HO264 := Aside0.mk (Kd.R_below (zR HO264) hb); replace HO267 := Aside0.mk (Kd.R_below (zR HO267) hb); replace HO271 := Aside0.mk (Kd.R_below (zR HO271) hb); replace HO274 := Aside0.mk (Kd.R_below (zR HO274) hb); replace BK237 := Aside0.mk (blk_below (zB BK237) hb); replace BK247 := Aside0.mk (blk_below (zB BK247) hb); replace BK254 := Aside0.mk (blk_below (zB BK254) hb); replace BK261 := Aside0.mk (blk_below (zB BK261) hb); replace HB := Aside0.mk (below_step (zW HB) hb); (try clear hb); (try clear hb2); (try clear hk); (try clear hi)) | ((with_reducible refine gate_dst (N := 137) rfl ?_); (try (refine gate_guard (by rfl) ?_; dsimp only)); refine Kd.R_lit (Kd.int .i64) _ 3 ?hg (N := 137) ?hd (xs := ([10, 20, 30] : List Int)) (inner := [.int .i64 10, .int .i64 20, .int .i64 30]) (ok := fun _ => True) (okp := fun _ => True) ?hr ?hp (fun _ hk => hk) trivial (Below.refl _ _) (Nat.le_refl _) (by simp) ?_; (case hd => rfl); (case hg => rfl); (case hr => exact zq4); (case hp => exact zq69); intro v277 w93 ho94 hb hg_ hnew_; clear hg_ hnew_; (first | rw [← Ny276.out] at ho94 | (simp only [Int.reduceToNat] at ho94; rw [← Ny276.out] at ho94)); replace HO_6 := Aside0.mk (Kd.N_elder' (zN HO_6) (Kd.R_base ho94) hb); have HO278 := Aside0.mk (Kd.R_lower (Kd.R_new' (Kd.R_new' (Kd.R_new' (Kd.R_new' (Kd.R_new' (Kd.R_new' (Kd.R_new' ho94 (Kd.R_lt (zR HO_9))) (Kd.R_lt (zR HO_238001))) (Kd.R_lt (zR HO_238002))) (Kd.R_lt (zR HO264))) (Kd.R_lt (zR HO267))) (Kd.R_lt (zR HO271))) (Kd.R_lt (zR HO274))) (below_size (zW HB))); replace HO_9 := Aside0.mk (Kd.R_elder' (zR HO_9) (Kd.R_base ho94) hb); replace HO_238001 := Aside0.mk (Kd.R_elder' (zR HO_238001) (Kd.R_base ho94) hb); replace HO_238002 := Aside0.mk (Kd.R_elder' (zR HO_238002) (Kd.R_base ho94) hb); replace HO264 := Aside0.mk (Kd.R_elder' (zR HO264) (Kd.R_base ho94) hb); replace HO267 := Aside0.mk (Kd.R_elder' (zR HO267) (Kd.R_base ho94) hb); replace HO271 := Aside0.mk (Kd.R_elder' (zR HO271) (Kd.R_base ho94) hb); replace HO274 := Aside0.mk (Kd.R_elder' (zR HO274) (Kd.R_base ho94) hb); replace BK237 := Aside0.mk (blk_below (zB BK237) hb); replace BK247 := Aside0.mk (blk_below (zB BK247) hb); replace BK254 := Aside0.mk (blk_below (zB BK254) hb); replace BK261 := Aside0.mk (blk_below (zB BK261) hb); replace HB := Aside0.mk (below_step (zW HB) hb); clear hb ho94) | ((with_reducible refine gate_dst (N := 138) rfl ?_); (try (refine gate_guard (by rfl) ?_; dsimp only)); refine Kd.R_lit (Kd.int .i64) _ 3 ?hg (N := 138) ?hd (xs := ([0, 1] : List Int)) (inner := [.int .i64 0, .int .i64 1]) (ok := fun _ => True) (okp := fun _ => True) ?hr ?hp (fun _ hk => hk) trivial (Below.refl _ _) (Nat.le_refl _) (by simp) ?_; (case hd => rfl); (case hg => rfl); (case hr => exact zq4); (case hp => exact zq70); intro v280 w95 ho96 hb hg_ hnew_; clear hg_ hnew_; (first | rw [← Ny279.out] at ho96 | (simp only [Int.reduceToNat] at ho96; rw [← Ny279.out] at ho96)); replace HO_6 := Aside0.mk (Kd.N_elder' (zN HO_6) (Kd.R_base ho96) hb); have HO281 := Aside0.mk (Kd.R_lower (Kd.R_new' (Kd.R_new' (Kd.R_new' (Kd.R_new' (Kd.R_new' (Kd.R_new' (Kd.R_new' (Kd.R_new' ho96 (Kd.R_lt (zR HO_9))) (Kd.R_lt (zR HO_238001))) (Kd.R_lt (zR HO_238002))) (Kd.R_lt (zR HO264))) (Kd.R_lt (zR HO267))) (Kd.R_lt (zR HO271))) (Kd.R_lt (zR HO274))) (Kd.R_lt (zR HO278))) (below_size (zW HB))); replace HO_9 := Aside0.mk (Kd.R_elder' (zR HO_9) (Kd.R_base ho96) hb); replace HO_238001 := Aside0.mk (Kd.R_elder' (zR HO_238001) (Kd.R_base ho96) hb); replace HO_238002 := Aside0.mk (Kd.R_elder' (zR HO_238002) (Kd.R_base ho96) hb); replace HO264 := Aside0.mk (Kd.R_elder' (zR HO264) (Kd.R_base ho96) hb); replace HO267 := Aside0.mk (Kd.R_elder' (zR HO267) (Kd.R_base ho96) hb); replace HO271 := Aside0.mk (Kd.R_elder' (zR HO271) (Kd.R_base ho96) hb); replace HO274 := Aside0.mk (Kd.R_elder' (zR HO274) (Kd.R_base ho96) hb); replace HO278 := Aside0.mk (Kd.R_elder' (zR HO278) (Kd.R_base ho96) hb); replace BK237 := Aside0.mk (blk_below (zB BK237) hb); replace BK247 := Aside0.mk (blk_below (zB BK247) hb); replace BK254 := Aside0.mk (blk_below (zB BK254) hb); replace BK261 := Aside0.mk (blk_below (zB BK261) hb); replace HB := Aside0.mk (below_step (zW HB) hb); clear hb ho96; obtain ⟨Ao97, co97, eo97⟩ := Kd.R_slice HO278.out; subst eo97; obtain ⟨Ao98, co98, eo98⟩ := Kd.R_slice HO281.out; subst eo98) | (go_at_call 23; (with_reducible refine (dialtonelaw22_ends.calls kj17 _ _ l1 100 2 _ _ y276 _ _ y279 true _ ?side1 ?side2 ?side3 ?side4 ?side5 ?side6 A74.out).mono ?_); (case side1 => exact zq13); (case side2 => exact HC1.out); (case side3 => exact zC (Kd.R_reads' HO278.out).2.2); (case side4 => exact (Kd.R_reads' HO278.out).2.1); (case side5 => exact zC (Kd.R_reads' HO281.out).2.2); (case side6 => exact (Kd.R_reads' HO281.out).2.1); rintro e w99 ⟨rfl, hb⟩; replace HO_6 := Aside0.mk (Kd.N_below (zN HO_6) hb); replace HO_9 := Aside0.mk (Kd.R_below (zR HO_9) hb); replace HO_238001 := Aside0.mk (Kd.R_below (zR HO_238001) hb); replace HO_238002 := Aside0.mk (Kd.R_below (zR HO_238002) hb); replace HO264 := Aside0.mk (Kd.R_below (zR HO264) hb); replace HO267 := Aside0.mk (Kd.R_below (zR HO267) hb); replace HO271 := Aside0.mk (Kd.R_below (zR HO271) hb); replace HO274 := Aside0.mk (Kd.R_below (zR HO274) hb); replace HO278 := Aside0.mk (Kd.R_below (zR HO278) hb); replace HO281 := Aside0.mk (Kd.R_below (zR HO281) hb); replace BK237 := Aside0.mk (blk_below (zB BK237) hb); replace BK247 := Aside0.mk (blk_below (zB BK247) hb); replace BK254 := Aside0.mk (blk_below (zB BK254) hb); replace BK261 := Aside0.mk (blk_below (zB BK261) hb); replace HB := Aside0.mk (below_step (zW HB) hb); (try clear hb); (try clear hb2); (try clear hk); (try clear hi)) | ((with_reducible refine gate_dst (N := 143) rfl ?_); (try (refine gate_guard (by rfl) ?_; dsimp only)); refine Kd.R_lit (Kd.int .i64) _ 3 ?hg (N := 143) ?hd (xs := ([10, 20, 30, 10] : List Int)) (inner := [.int .i64 10, .int .i64 20, .int .i64 30, .int .i64 10]) (ok := fun _ => True) (okp := fun _ => True) ?hr ?hp (fun _ hk => hk) trivial (Below.refl _ _) (Nat.le_refl _) (by simp) ?_; (case hd => rfl); (case hg => rfl); (case hr => exact zq4); (case hp => exact (Reps.one (show Kd.M (Kd.int .i64) _ _ _ 10 [.int .i64 10] from rfl) (Reps.one (show Kd.M (Kd.int .i64) _ _ _ 20 [.int .i64 20] from rfl) (Reps.one (show Kd.M (Kd.int .i64) _ _ _ 30 [.int .i64 30] from rfl) (Reps.one (show Kd.M (Kd.int .i64) _ _ _ 10 [.int .i64 10] from rfl) (Reps.none _ _)))))); intro v284 w100 ho101 hb hg_ hnew_; clear hg_ hnew_; (first | rw [← Ny283.out] at ho101 | (simp only [Int.reduceToNat] at ho101; rw [← Ny283.out] at ho101)); replace HO_6 := Aside0.mk (Kd.N_elder' (zN HO_6) (Kd.R_base ho101) hb); have HO285 := Aside0.mk (Kd.R_lower (Kd.R_new' (Kd.R_new' (Kd.R_new' (Kd.R_new' (Kd.R_new' (Kd.R_new' (Kd.R_new' (Kd.R_new' (Kd.R_new' ho101 (Kd.R_lt (zR HO_9))) (Kd.R_lt (zR HO_238001))) (Kd.R_lt (zR HO_238002))) (Kd.R_lt (zR HO264))) (Kd.R_lt (zR HO267))) (Kd.R_lt (zR HO271))) (Kd.R_lt (zR HO274))) (Kd.R_lt (zR HO278))) (Kd.R_lt (zR HO281))) (below_size (zW HB))); replace HO_9 := Aside0.mk (Kd.R_elder' (zR HO_9) (Kd.R_base ho101) hb); replace HO_238001 := Aside0.mk (Kd.R_elder' (zR HO_238001) (Kd.R_base ho101) hb); replace HO_238002 := Aside0.mk (Kd.R_elder' (zR HO_238002) (Kd.R_base ho101) hb); replace HO264 := Aside0.mk (Kd.R_elder' (zR HO264) (Kd.R_base ho101) hb); replace HO267 := Aside0.mk (Kd.R_elder' (zR HO267) (Kd.R_base ho101) hb); replace HO271 := Aside0.mk (Kd.R_elder' (zR HO271) (Kd.R_base ho101) hb); replace HO274 := Aside0.mk (Kd.R_elder' (zR HO274) (Kd.R_base ho101) hb); replace HO278 := Aside0.mk (Kd.R_elder' (zR HO278) (Kd.R_base ho101) hb); replace HO281 := Aside0.mk (Kd.R_elder' (zR HO281) (Kd.R_base ho101) hb); replace BK237 := Aside0.mk (blk_below (zB BK237) hb); replace BK247 := Aside0.mk (blk_below (zB BK247) hb); replace BK254 := Aside0.mk (blk_below (zB BK254) hb); replace BK261 := Aside0.mk (blk_below (zB BK261) hb); replace HB := Aside0.mk (below_step (zW HB) hb); clear hb ho101) | ((with_reducible refine gate_dst (N := 144) rfl ?_); (try (refine gate_guard (by rfl) ?_; dsimp only)); refine Kd.R_lit (Kd.int .i64) _ 3 ?hg (N := 144) ?hd (xs := ([0, 1, 2] : List Int)) (inner := [.int .i64 0, .int .i64 1, .int .i64 2]) (ok := fun _ => True) (okp := fun _ => True) ?hr ?hp (fun _ hk => hk) trivial (Below.refl _ _) (Nat.le_refl _) (by simp) ?_; (case hd => rfl); (case hg => rfl); (case hr => exact zq4); (case hp => exact (Reps.one (show Kd.M (Kd.int .i64) _ _ _ 0 [.int .i64 0] from rfl) (Reps.one (show Kd.M (Kd.int .i64) _ _ _ 1 [.int .i64 1] from rfl) (Reps.one (show Kd.M (Kd.int .i64) _ _ _ 2 [.int .i64 2] from rfl) (Reps.none _ _))))); intro v287 w102 ho103 hb hg_ hnew_; clear hg_ hnew_; (first | rw [← Ny286.out] at ho103 | (simp only [Int.reduceToNat] at ho103; rw [← Ny286.out] at ho103)); replace HO_6 := Aside0.mk (Kd.N_elder' (zN HO_6) (Kd.R_base ho103) hb); have HO288 := Aside0.mk (Kd.R_lower (Kd.R_new' (Kd.R_new' (Kd.R_new' (Kd.R_new' (Kd.R_new' (Kd.R_new' (Kd.R_new' (Kd.R_new' (Kd.R_new' (Kd.R_new' ho103 (Kd.R_lt (zR HO_9))) (Kd.R_lt (zR HO_238001))) (Kd.R_lt (zR HO_238002))) (Kd.R_lt (zR HO264))) (Kd.R_lt (zR HO267))) (Kd.R_lt (zR HO271))) (Kd.R_lt (zR HO274))) (Kd.R_lt (zR HO278))) (Kd.R_lt (zR HO281))) (Kd.R_lt (zR HO285))) (below_size (zW HB))); replace HO_9 := Aside0.mk (Kd.R_elder' (zR HO_9) (Kd.R_base ho103) hb); replace HO_238001 := Aside0.mk (Kd.R_elder' (zR HO_238001) (Kd.R_base ho103) hb); replace HO_238002 := Aside0.mk (Kd.R_elder' (zR HO_238002) (Kd.R_base ho103) hb); replace HO264 := Aside0.mk (Kd.R_elder' (zR HO264) (Kd.R_base ho103) hb); replace HO267 := Aside0.mk (Kd.R_elder' (zR HO267) (Kd.R_base ho103) hb); replace HO271 := Aside0.mk (Kd.R_elder' (zR HO271) (Kd.R_base ho103) hb); replace HO274 := Aside0.mk (Kd.R_elder' (zR HO274) (Kd.R_base ho103) hb); replace HO278 := Aside0.mk (Kd.R_elder' (zR HO278) (Kd.R_base ho103) hb); replace HO281 := Aside0.mk (Kd.R_elder' (zR HO281) (Kd.R_base ho103) hb); replace HO285 := Aside0.mk (Kd.R_elder' (zR HO285) (Kd.R_base ho103) hb); replace BK237 := Aside0.mk (blk_below (zB BK237) hb); replace BK247 := Aside0.mk (blk_below (zB BK247) hb); replace BK254 := Aside0.mk (blk_below (zB BK254) hb); replace BK261 := Aside0.mk (blk_below (zB BK261) hb); replace HB := Aside0.mk (below_step (zW HB) hb); clear hb ho103; obtain ⟨Ao104, co104, eo104⟩ := Kd.R_slice HO285.out; subst eo104; obtain ⟨Ao105, co105, eo105⟩ := Kd.R_slice HO288.out; subst eo105) | (go_at_call 23; (with_reducible refine (dialtonelaw22_ends.calls kj17 _ _ l0 600 5 _ _ y283 _ _ y286 true _ ?side1 ?side2 ?side3 ?side4 ?side5 ?side6 A76.out).mono ?_); (case side1 => exact zq11); (case side2 => exact zq12); (case side3 => exact zC (Kd.R_reads' HO285.out).2.2); (case side4 => exact (Kd.R_reads' HO285.out).2.1); (case side5 => exact zC (Kd.R_reads' HO288.out).2.2); (case side6 => exact (Kd.R_reads' HO288.out).2.1); rintro e w106 ⟨rfl, hb⟩; replace HO_6 := Aside0.mk (Kd.N_below (zN HO_6) hb); replace HO_9 := Aside0.mk (Kd.R_below (zR HO_9) hb); replace HO_238001 := Aside0.mk (Kd.R_below (zR HO_238001) hb); replace HO_238002 := Aside0.mk (Kd.R_below (zR HO_238002) hb); replace HO264 := Aside0.mk (Kd.R_below (zR HO264) hb); replace HO267 := Aside0.mk (Kd.R_below (zR HO267) hb); replace HO271 := Aside0.mk (Kd.R_below (zR HO271) hb); replace HO274 := Aside0.mk (Kd.R_below (zR HO274) hb); replace HO278 := Aside0.mk (Kd.R_below (zR HO278) hb); replace HO281 := Aside0.mk (Kd.R_below (zR HO281) hb); replace HO285 := Aside0.mk (Kd.R_below (zR HO285) hb); replace HO288 := Aside0.mk (Kd.R_below (zR HO288) hb); replace BK237 := Aside0.mk (blk_below (zB BK237) hb); replace BK247 := Aside0.mk (blk_below (zB BK247) hb); replace BK254 := Aside0.mk (blk_below (zB BK254) hb); replace BK261 := Aside0.mk (blk_below (zB BK261) hb); replace HB := Aside0.mk (below_step (zW HB) hb); (try clear hb); (try clear hb2); (try clear hk); (try clear hi)) | ((with_reducible refine gate_dst (N := 148) rfl ?_); (try (refine gate_guard (by rfl) ?_; dsimp only)); refine Kd.R_lit (Kd.int .i64) _ 3 ?hg (N := 148) ?hd (xs := ([10] : List Int)) (inner := [.int .i64 10]) (ok := fun _ => True) (okp := fun _ => True) ?hr ?hp (fun _ hk => hk) trivial (Below.refl _ _) (Nat.le_refl _) (by simp) ?_; (case hd => rfl); (case hg => rfl); (case hr => exact zq4); (case hp => exact (Reps.one (show Kd.M (Kd.int .i64) _ _ _ 10 [.int .i64 10] from rfl) (Reps.none _ _))); intro v291 w107 ho108 hb hg_ hnew_; clear hg_ hnew_; (first | rw [← Ny290.out] at ho108 | (simp only [Int.reduceToNat] at ho108; rw [← Ny290.out] at ho108)); replace HO_6 := Aside0.mk (Kd.N_elder' (zN HO_6) (Kd.R_base ho108) hb); have HO292 := Aside0.mk (Kd.R_lower (Kd.R_new' (Kd.R_new' (Kd.R_new' (Kd.R_new' (Kd.R_new' (Kd.R_new' (Kd.R_new' (Kd.R_new' (Kd.R_new' (Kd.R_new' (Kd.R_new' ho108 (Kd.R_lt (zR HO_9))) (Kd.R_lt (zR HO_238001))) (Kd.R_lt (zR HO_238002))) (Kd.R_lt (zR HO264))) (Kd.R_lt (zR HO267))) (Kd.R_lt (zR HO271))) (Kd.R_lt (zR HO274))) (Kd.R_lt (zR HO278))) (Kd.R_lt (zR HO281))) (Kd.R_lt (zR HO285))) (Kd.R_lt (zR HO288))) (below_size (zW HB))); replace HO_9 := Aside0.mk (Kd.R_elder' (zR HO_9) (Kd.R_base ho108) hb); replace HO_238001 := Aside0.mk (Kd.R_elder' (zR HO_238001) (Kd.R_base ho108) hb); replace HO_238002 := Aside0.mk (Kd.R_elder' (zR HO_238002) (Kd.R_base ho108) hb); replace HO264 := Aside0.mk (Kd.R_elder' (zR HO264) (Kd.R_base ho108) hb); replace HO267 := Aside0.mk (Kd.R_elder' (zR HO267) (Kd.R_base ho108) hb); replace HO271 := Aside0.mk (Kd.R_elder' (zR HO271) (Kd.R_base ho108) hb); replace HO274 := Aside0.mk (Kd.R_elder' (zR HO274) (Kd.R_base ho108) hb); replace HO278 := Aside0.mk (Kd.R_elder' (zR HO278) (Kd.R_base ho108) hb); replace HO281 := Aside0.mk (Kd.R_elder' (zR HO281) (Kd.R_base ho108) hb); replace HO285 := Aside0.mk (Kd.R_elder' (zR HO285) (Kd.R_base ho108) hb); replace HO288 := Aside0.mk (Kd.R_elder' (zR HO288) (Kd.R_base ho108) hb); replace BK237 := Aside0.mk (blk_below (zB BK237) hb); replace BK247 := Aside0.mk (blk_below (zB BK247) hb); replace BK254 := Aside0.mk (blk_below (zB BK254) hb); replace BK261 := Aside0.mk (blk_below (zB BK261) hb); replace HB := Aside0.mk (below_step (zW HB) hb); clear hb ho108; obtain ⟨Ao109, co109, eo109⟩ := Kd.R_slice HO292.out; subst eo109) | (go_at_call 23; (refine (dialtonelaw22_ends.calls kj17 _ _ ([] : List (S37)) 1000 1 _ _ y290 _ _ ([] : List Int) t293 _ ?side1 ?side2 ?side3 ?side4 ?side5 ?side6 A78.out).mono ?_); (case side1 => exact zq62); (case side2 => exact zq63); (case side3 => exact zC (Kd.R_reads' HO292.out).2.2); (case side4 => exact (Kd.R_reads' HO292.out).2.1); (case side5 => exact zq62); (case side6 => exact zq63); rintro e w110 ⟨rfl, hb⟩; replace HO_6 := Aside0.mk (Kd.N_below (zN HO_6) hb); replace HO_9 := Aside0.mk (Kd.R_below (zR HO_9) hb); replace HO_238001 := Aside0.mk (Kd.R_below (zR HO_238001) hb); replace HO_238002 := Aside0.mk (Kd.R_below (zR HO_238002) hb); replace HO264 := Aside0.mk (Kd.R_below (zR HO264) hb); replace HO267 := Aside0.mk (Kd.R_below (zR HO267) hb); replace HO271 := Aside0.mk (Kd.R_below (zR HO271) hb); replace HO274 := Aside0.mk (Kd.R_below (zR HO274) hb); replace HO278 := Aside0.mk (Kd.R_below (zR HO278) hb); replace HO281 := Aside0.mk (Kd.R_below (zR HO281) hb); replace HO285 := Aside0.mk (Kd.R_below (zR HO285) hb); replace HO288 := Aside0.mk (Kd.R_below (zR HO288) hb); replace HO292 := Aside0.mk (Kd.R_below (zR HO292) hb); replace BK237 := Aside0.mk (blk_below (zB BK237) hb); replace BK247 := Aside0.mk (blk_below (zB BK247) hb); replace BK254 := Aside0.mk (blk_below (zB BK254) hb); replace BK261 := Aside0.mk (blk_below (zB BK261) hb); replace HB := Aside0.mk (below_step (zW HB) hb); (try clear hb); (try clear hb2); (try clear hk); (try clear hi)))
    go_meet
    case rel => exact ⟨_, (t293), (zq2), H', ⟨by have := HJ17.out; first | omega | exact Nat.le_refl _⟩, ⟨by (with_reducible repeat (first | apply Kd.N_alloc | apply Kd.N_drewN | apply Kd.N_drew)); exact Kd.N_mono HO_6.out (fun _ hk => ⟨hk.1.1.1.1.1.1.1.1.1.1, ⟨hk.1.1.1.1.1.1.1.1.1.2.1, ⟨hk.1.1.1.1.1.1.1.1.1.2.2.1, ⟨hk.1.1.1.1.1.1.1.1.1.2.2.2.1, ⟨hk.1.1.1.1.1.1.1.1.1.2.2.2.2.1, ⟨hk.1.1.1.1.1.1.1.1.1.2.2.2.2.2.1, hk.1.1.1.1.1.1.1.1.1.2.2.2.2.2.2⟩⟩⟩⟩⟩⟩)⟩, ⟨by (with_reducible repeat (first | apply Kd.R_alloc | apply Kd.R_drewN | apply Kd.R_drew)); exact Kd.R_mono HO_9.out (fun _ hk => ⟨hk.1.1.1.1.1.1.1.1.1.1, hk.1.1.1.1.1.1.1.1.1.2⟩)⟩, ⟨by (with_reducible repeat (first | apply Kd.R_alloc | apply Kd.R_drewN | apply Kd.R_drew)); exact Kd.R_mono HO_238001.out (fun _ hk => ⟨hk.1.1.1.1.1.1.1.1.1.1, hk.1.1.1.1.1.1.1.1.1.2⟩)⟩, ⟨by (with_reducible repeat (first | apply Kd.R_alloc | apply Kd.R_drewN | apply Kd.R_drew)); exact Kd.R_mono HO_238002.out (fun _ hk => ⟨hk.1.1.1.1.1.1.1.1.1.1, hk.1.1.1.1.1.1.1.1.1.2⟩)⟩, ⟨zq72⟩, ⟨zq73⟩, ⟨zq74⟩, ⟨zq75⟩, ⟨zq71⟩⟩
   case rest =>
    clear HC69
    try clear c1
    try clear c2
    try clear p2
    try clear q2
    try clear hx2
    try clear qi2
    try clear c3
    try clear c4
    try clear c5
    try clear c6
    try clear p6
    try clear c7
    try clear c9
    try clear c9b0
    try clear c9b1
    try clear c11
    try clear c19
    try clear c20
    try clear c21
    try clear p21
    try clear q21
    try clear hx21
    try clear qi21
    try clear c22
    try clear c23
    try clear c45
    try clear c49
    try clear c50
    try clear c54
    try clear c55
    try clear c56
    try clear c58
    try clear c58b0
    try clear c58b1
    try clear c59
    try clear c59b0
    try clear c59b1
    try clear c60
    try clear c60b0
    try clear c60b1
    try clear c61
    try clear c61b0
    try clear c61b1
    try clear c62
    try clear c62b0
    try clear c62b1
    try clear c63
    try clear c63b0
    try clear c63b1
    try clear c64
    try clear p64
    try clear c65
    try clear c66
    try clear c66b0
    try clear c66b1
    try clear c68
    try clear c71
    try clear c73
    try clear c75
    try clear c77
    try clear hcz37_0
    try clear hcz37_1
    try clear hcz37_2
    try clear hcz46_0
    try clear hcz46_1
    try clear hcz46_2
    try clear hcz46_3
    try clear hcz46_4
    try clear hcz51_0
    try clear hcz51_1
    try clear hcz51_2
    try clear hcz51_3
    try clear hcz51_4
    try clear hcz57_0
    try clear hcz57_1
    try clear hcz57_2
    try clear hcz57_3
    try clear hcz57_4
    try clear hfz37_0
    try clear hfz37_1
    try clear hfz37_2
    try clear hfz46_0
    try clear hfz46_1
    try clear hfz46_2
    try clear hfz46_3
    try clear hfz46_4
    try clear hfz51_0
    try clear hfz51_1
    try clear hfz51_2
    try clear hfz51_3
    try clear hfz51_4
    try clear hfz57_0
    try clear hfz57_1
    try clear hfz57_2
    try clear hfz57_3
    try clear hfz57_4
    try clear hx212_0
    try clear hx212_1
    try clear hx212_2
    try clear hx212_3
    try clear hx212_4
    try clear p2
    try clear p21
    try clear p212
    try clear p6
    try clear p64
    try clear q2
    try clear q21
    try clear q212
    obtain ⟨kq, x23_68, rfl, HA, HJ68, HO_6, HO_9, HO_238001, HO_238002, BK237, BK247, BK254, BK261, HB⟩ := hcut
    cases kq with
    | zero => exact absurd HA.out (by simp [dialtonelaw22_sane_rest.j1])
    | succ kj68 =>
     have H := HA.out
     clear HA
     simp only [dialtonelaw22_sane_rest.j1] at H
     have HC111 := Aside0.mk H
     clear H
     go_upto_region 16 with (fail)
     go_cut [24] (fun v24 wc => ∃ (kq : Nat) (x24_110 : Bool), v24 = .bool x24_110 ∧ Aside0 (dialtonelaw22_sane_rest.j2 kq l1 x23_68 x24_110 t241 t242 t243 t244 t245 t248 t249 t250 t251 t252 = some r) ∧ Aside0 (kq ≤ kj68) ∧ Aside0 (Kd.R (Kd.int .i64) 3 wc w.heap.size (fun k_ => some k_ ≠ ((.slice Ao39 t233.length co39) : Value).ownBlock) (.slice Ao38 t230.length co38) t230) ∧ Aside0 (Kd.R (Kd.int .i64) 3 wc w.heap.size (fun k_ => some k_ ≠ ((.slice Ao38 t230.length co38) : Value).ownBlock) (.slice Ao39 t233.length co39) t233) ∧ Aside0 (wc.heap[gb237]? = some (.cells #[.int .i64 t229, (.slice Ao38 t230.length co38), (.slice Ao39 t233.length co39)] 31 (0, 0))) ∧ Aside0 (wc.heap[gb247]? = some (.cells #[.int .i64 t241, .int .i64 t242, .int .i64 t243, .int .i64 t244, .int .i64 t245] 41 (0, 0))) ∧ Aside0 (wc.heap[gb254]? = some (.cells #[.int .i64 t248, .int .i64 t249, .int .i64 t250, .int .i64 t251, .int .i64 t252] 41 (0, 0))) ∧ Aside0 (wc.heap[gb261]? = some (.cells #[.int .i64 t255, .int .i64 t256, .int .i64 t257, .int .i64 t258, .int .i64 t259] 41 (0, 0))) ∧ Aside0 (Below w.heap.size w wc))
     case first =>
      have H := HC111.out
      clear HC111
      obtain ⟨y294, hy294⟩ : ∃ y_ : List Int, y_ = (([10, 20, 30] : List Int)) := ⟨_, rfl⟩
      replace H : ((dialtoneref22_SameLoops.f kj68 t205 (([y294] : List (List Int)))).bind fun t300 => (if t300 = true then ((dialtoneref22_Ints.f kj68 t214 (([10, 20, 30] : List Int))).bind fun t304 => (if t304 = true then ((forward_Payers.f 0 (([10, 20, 30] : List Int)) ([] : List Int)).bind fun t308 => ((dialtoneref22_Ints.f kj68 t308 (([(-1), 10, 20] : List Int))).bind fun t314 => (dialtonelaw22_sane_rest.j2 kj68 l1 x23_68 t314 t241 t242 t243 t244 t245 t248 t249 t250 t251 t252))) else (none))) else (none))) = some r := by first | (rw [hy294]; with_reducible exact H) | (have H2_ := (Option.bind_some _ _).symm.trans H; rw [hy294]; with_reducible exact H2_) | (have H2_ := (Option.bind_some _ _).symm.trans H; with_reducible exact H2_) | with_reducible exact H | (rw [hy294]; exact H) | exact H
      have Ny294 := Aside0.mk hy294
      clear hy294
      obtain ⟨y297, hy297⟩ : ∃ y_ : List (List Int), y_ = (([y294] : List (List Int))) := ⟨_, rfl⟩
      replace H : ((dialtoneref22_SameLoops.f kj68 t205 y297).bind fun t300 => (if t300 = true then ((dialtoneref22_Ints.f kj68 t214 (([10, 20, 30] : List Int))).bind fun t304 => (if t304 = true then ((forward_Payers.f 0 (([10, 20, 30] : List Int)) ([] : List Int)).bind fun t308 => ((dialtoneref22_Ints.f kj68 t308 (([(-1), 10, 20] : List Int))).bind fun t314 => (dialtonelaw22_sane_rest.j2 kj68 l1 x23_68 t314 t241 t242 t243 t244 t245 t248 t249 t250 t251 t252))) else (none))) else (none))) = some r := by first | (rw [hy297]; with_reducible exact H) | (have H2_ := (Option.bind_some _ _).symm.trans H; rw [hy297]; with_reducible exact H2_) | (have H2_ := (Option.bind_some _ _).symm.trans H; with_reducible exact H2_) | with_reducible exact H | (rw [hy297]; exact H) | exact H
      have Ny297 := Aside0.mk hy297
      clear hy297
      replace H := Option.bind_eq_some_iff.mp H
      obtain ⟨t300, A1120, H⟩ := H
      try dsimp only at H
      have A112 := Aside0.mk A1120
      clear A1120
      by_cases c113 : t300 = true
      rotate_left
      ·replace c113 := Bool.eq_false_iff.mpr c113
       subst c113
       rw [if_neg (show ¬ (false = true) by decide)] at H
       exact absurd H (by simp)
      subst c113
      rw [if_pos rfl] at H
      obtain ⟨y301, hy301⟩ : ∃ y_ : List Int, y_ = (([10, 20, 30] : List Int)) := ⟨_, rfl⟩
      replace H : ((dialtoneref22_Ints.f kj68 t214 y301).bind fun t304 => (if t304 = true then ((forward_Payers.f 0 (([10, 20, 30] : List Int)) ([] : List Int)).bind fun t308 => ((dialtoneref22_Ints.f kj68 t308 (([(-1), 10, 20] : List Int))).bind fun t314 => (dialtonelaw22_sane_rest.j2 kj68 l1 x23_68 t314 t241 t242 t243 t244 t245 t248 t249 t250 t251 t252))) else (none))) = some r := by first | (rw [hy301]; with_reducible exact H) | (have H2_ := (Option.bind_some _ _).symm.trans H; rw [hy301]; with_reducible exact H2_) | (have H2_ := (Option.bind_some _ _).symm.trans H; with_reducible exact H2_) | with_reducible exact H | (rw [hy301]; exact H) | exact H
      have Ny301 := Aside0.mk hy301
      clear hy301
      replace H := Option.bind_eq_some_iff.mp H
      obtain ⟨t304, A1140, H⟩ := H
      try dsimp only at H
      have A114 := Aside0.mk A1140
      clear A1140
      by_cases c115 : t304 = true
      rotate_left
      ·replace c115 := Bool.eq_false_iff.mpr c115
       subst c115
       rw [if_neg (show ¬ (false = true) by decide)] at H
       exact absurd H (by simp)
      subst c115
      rw [if_pos rfl] at H
      obtain ⟨y305, hy305⟩ : ∃ y_ : List Int, y_ = (([10, 20, 30] : List Int)) := ⟨_, rfl⟩
      replace H : ((forward_Payers.f 0 y305 ([] : List Int)).bind fun t308 => ((dialtoneref22_Ints.f kj68 t308 (([(-1), 10, 20] : List Int))).bind fun t314 => (dialtonelaw22_sane_rest.j2 kj68 l1 x23_68 t314 t241 t242 t243 t244 t245 t248 t249 t250 t251 t252))) = some r := by first | (rw [hy305]; with_reducible exact H) | (have H2_ := (Option.bind_some _ _).symm.trans H; rw [hy305]; with_reducible exact H2_) | (have H2_ := (Option.bind_some _ _).symm.trans H; with_reducible exact H2_) | with_reducible exact H | (rw [hy305]; exact H) | exact H
      have Ny305 := Aside0.mk hy305
      clear hy305
      replace H := Option.bind_eq_some_iff.mp H
      obtain ⟨t308, A1160, H⟩ := H
      try dsimp only at H
      have A116 := Aside0.mk A1160
      clear A1160
      obtain ⟨y311, hy311⟩ : ∃ y_ : List Int, y_ = (([(-1), 10, 20] : List Int)) := ⟨_, rfl⟩
      replace H : ((dialtoneref22_Ints.f kj68 t308 y311).bind fun t314 => (dialtonelaw22_sane_rest.j2 kj68 l1 x23_68 t314 t241 t242 t243 t244 t245 t248 t249 t250 t251 t252)) = some r := by first | (rw [hy311]; with_reducible exact H) | (have H2_ := (Option.bind_some _ _).symm.trans H; rw [hy311]; with_reducible exact H2_) | (have H2_ := (Option.bind_some _ _).symm.trans H; with_reducible exact H2_) | with_reducible exact H | (rw [hy311]; exact H) | exact H
      have Ny311 := Aside0.mk hy311
      clear hy311
      replace H := Option.bind_eq_some_iff.mp H
      obtain ⟨t314, A1170, H⟩ := H
      try dsimp only at H
      have A117 := Aside0.mk A1170
      clear A1170
      have H' := Aside0.mk H
      clear H
      go_wp2_with (first | ((with_reducible refine gate_dst (N := 152) rfl ?_); (try (refine gate_guard (by rfl) ?_; dsimp only)); refine Kd.R_lit (Kd.int .i64) _ 3 ?hg (N := 152) ?hd (xs := ([10, 20, 30] : List Int)) (inner := [.int .i64 10, .int .i64 20, .int .i64 30]) (ok := fun _ => True) (okp := fun _ => True) ?hr ?hp (fun _ hk => hk) trivial (Below.refl _ _) (Nat.le_refl _) (by simp) ?_; (case hd => rfl); (case hg => rfl); (case hr => exact zq4); (case hp => exact zq69); intro v295 w118 ho119 hb hg_ hnew_; clear hg_ hnew_; (first | rw [← Ny294.out] at ho119 | (simp only [Int.reduceToNat] at ho119; rw [← Ny294.out] at ho119)); replace HO_6 := Aside0.mk (Kd.N_elder' (zN HO_6) (Kd.R_base ho119) hb); have HO296 := Aside0.mk (Kd.R_lower (Kd.R_new' (Kd.R_new' (Kd.R_new' ho119 (Kd.R_lt (zR HO_9))) (Kd.R_lt (zR HO_238001))) (Kd.R_lt (zR HO_238002))) (below_size (zW HB))); replace HO_9 := Aside0.mk (Kd.R_elder' (zR HO_9) (Kd.R_base ho119) hb); replace HO_238001 := Aside0.mk (Kd.R_elder' (zR HO_238001) (Kd.R_base ho119) hb); replace HO_238002 := Aside0.mk (Kd.R_elder' (zR HO_238002) (Kd.R_base ho119) hb); replace BK237 := Aside0.mk (blk_below (zB BK237) hb); replace BK247 := Aside0.mk (blk_below (zB BK247) hb); replace BK254 := Aside0.mk (blk_below (zB BK254) hb); replace BK261 := Aside0.mk (blk_below (zB BK261) hb); replace HB := Aside0.mk (below_step (zW HB) hb); clear hb ho119; obtain ⟨Ao120, co120, eo120⟩ := Kd.R_slice HO296.out; subst eo120) | ((with_reducible refine gate_dst (N := 153) rfl ?_); (try (refine gate_guard (by rfl) ?_; dsimp only)); refine Kd.N_lit (Kd.slice 3 (Kd.int .i64)) _ 29 ?hg (N' := 153) ?hd (xs := ([y294] : List (List Int))) (inner := [.slice Ao120 y294.length co120]) (ok := (fun k_ => some k_ ≠ (v207 : Value).ownBlock ∧ some k_ ≠ (v215 : Value).ownBlock ∧ some k_ ≠ (.slice Ao38 t230.length co38 : Value).ownBlock ∧ some k_ ≠ (.slice Ao39 t233.length co39 : Value).ownBlock ∧ k_ ≠ gb237 ∧ k_ ≠ gb247 ∧ k_ ≠ gb254 ∧ k_ ≠ gb261)) (okp := (fun k_ => some k_ ≠ (v207 : Value).ownBlock ∧ some k_ ≠ (v215 : Value).ownBlock ∧ some k_ ≠ (.slice Ao38 t230.length co38 : Value).ownBlock ∧ some k_ ≠ (.slice Ao39 t233.length co39 : Value).ownBlock ∧ k_ ≠ gb237 ∧ k_ ≠ gb247 ∧ k_ ≠ gb254 ∧ k_ ≠ gb261)) ?hr ?hp (fun _ hk => hk) ((show ∀ k_, w118.heap.size ≤ k_ → (fun k_ => some k_ ≠ (v207 : Value).ownBlock ∧ some k_ ≠ (v215 : Value).ownBlock ∧ some k_ ≠ (.slice Ao38 t230.length co38 : Value).ownBlock ∧ some k_ ≠ (.slice Ao39 t233.length co39 : Value).ownBlock ∧ k_ ≠ gb237 ∧ k_ ≠ gb247 ∧ k_ ≠ gb254 ∧ k_ ≠ gb261) k_ from fun k_ hk => ⟨Kd.fresh' (Kd.N_lt (zN HO_6)) k_ hk, Kd.fresh' (Kd.R_lt (zR HO_9)) k_ hk, Kd.fresh' (Kd.R_lt (zR HO_238001)) k_ hk, Kd.fresh' (Kd.R_lt (zR HO_238002)) k_ hk, Kd.freshB (zB BK237) k_ hk, Kd.freshB (zB BK247) k_ hk, Kd.freshB (zB BK254) k_ hk, Kd.freshB (zB BK261) k_ hk⟩) _ (Nat.le_refl _)) (Below.refl _ _) (Nat.le_refl _) (by simp) ?_; (case hd => rfl); (case hg => rfl); (case hr => exact zq4); (case hp => exact (Reps.one (show Kd.FK (Kd.slice 3 (Kd.int .i64)) _ _ y294 [.slice Ao120 y294.length co120] from (Kd.FK_slice_mk (Kd.R_reads' (Kd.R_mono (ok' := (fun k_ => some k_ ≠ (v207 : Value).ownBlock ∧ some k_ ≠ (v215 : Value).ownBlock ∧ some k_ ≠ (.slice Ao38 t230.length co38 : Value).ownBlock ∧ some k_ ≠ (.slice Ao39 t233.length co39 : Value).ownBlock ∧ k_ ≠ gb237 ∧ k_ ≠ gb247 ∧ k_ ≠ gb254 ∧ k_ ≠ gb261)) (Kd.R_types (Kd.R_types (Kd.R_types (Kd.R_types (Kd.R_apart' (HO296.out) (Kd.N_typed HO_6.out) (by decide)) BK237.out (by decide)) BK247.out (by decide)) BK254.out (by decide)) BK261.out (by decide)) (fun k_ hk => ⟨hk.1.1.1.1.2, ⟨hk.1.1.1.1.1.1.1.2, ⟨hk.1.1.1.1.1.1.2, ⟨hk.1.1.1.1.1.2, ⟨hk.1.1.1.2, ⟨hk.1.1.2, ⟨hk.1.2, hk.2⟩⟩⟩⟩⟩⟩⟩))).2.1 (Kd.R_F (Kd.R_mono (ok' := (fun k_ => some k_ ≠ (v207 : Value).ownBlock ∧ some k_ ≠ (v215 : Value).ownBlock ∧ some k_ ≠ (.slice Ao38 t230.length co38 : Value).ownBlock ∧ some k_ ≠ (.slice Ao39 t233.length co39 : Value).ownBlock ∧ k_ ≠ gb237 ∧ k_ ≠ gb247 ∧ k_ ≠ gb254 ∧ k_ ≠ gb261)) (Kd.R_types (Kd.R_types (Kd.R_types (Kd.R_types (Kd.R_apart' (HO296.out) (Kd.N_typed HO_6.out) (by decide)) BK237.out (by decide)) BK247.out (by decide)) BK254.out (by decide)) BK261.out (by decide)) (fun k_ hk => ⟨hk.1.1.1.1.2, ⟨hk.1.1.1.1.1.1.1.2, ⟨hk.1.1.1.1.1.1.2, ⟨hk.1.1.1.1.1.2, ⟨hk.1.1.1.2, ⟨hk.1.1.2, ⟨hk.1.2, hk.2⟩⟩⟩⟩⟩⟩⟩))))) (Reps.none _ _))); intro v298 w121 ho122 hb hg_ hnew_; clear hg_ hnew_; (first | rw [← Ny297.out] at ho122 | (simp only [Int.reduceToNat] at ho122; rw [← Ny297.out] at ho122)); replace HO_6 := Aside0.mk (Kd.N_elder' (zN HO_6) (Kd.N_base ho122) hb); replace HO_9 := Aside0.mk (Kd.R_below (zR HO_9) hb); replace HO_238001 := Aside0.mk (Kd.R_below (zR HO_238001) hb); replace HO_238002 := Aside0.mk (Kd.R_below (zR HO_238002) hb); have HO299 := Aside0.mk (Kd.N_lower ho122 (below_size (zW HB))); replace BK237 := Aside0.mk (blk_below (zB BK237) hb); replace BK247 := Aside0.mk (blk_below (zB BK247) hb); replace BK254 := Aside0.mk (blk_below (zB BK254) hb); replace BK261 := Aside0.mk (blk_below (zB BK261) hb); replace HB := Aside0.mk (below_step (zW HB) hb); clear HO296; clear hb ho122; obtain ⟨Ao123, co123, eo123⟩ := Kd.N_slice HO_6.out; subst eo123; obtain ⟨Ao124, co124, eo124⟩ := Kd.N_slice HO299.out; subst eo124) | ((with_reducible refine gate_callee (f := 24) rfl ?_); refine goesL_ (some 154) rfl rfl Tryz.func24 (by kernel_rfl) rfl #[.slice Ao123 t205.length co123, .slice Ao124 y297.length co124] rfl zG ?_; (with_reducible refine (dialtoneref22_SameLoops.calls kj68 _ _ t205 _ _ y297 true _ ?side1 ?side2 ?side3 ?side4 A112.out).mono ?_); (case side1 => exact zC (Kd.N_reads' HO_6.out).2.2); (case side2 => exact (Kd.N_reads' HO_6.out).2.1); (case side3 => exact zC (Kd.N_reads' HO299.out).2.2); (case side4 => exact (Kd.N_reads' HO299.out).2.1); rintro e w' ⟨rfl, ⟨nd, rfl⟩⟩; refine ⟨_, rfl, ?_⟩) | ((with_reducible refine gate_dst (N := 157) rfl ?_); (try (refine gate_guard (by rfl) ?_; dsimp only)); refine Kd.R_lit (Kd.int .i64) _ 3 ?hg (N := 157) ?hd (xs := ([10, 20, 30] : List Int)) (inner := [.int .i64 10, .int .i64 20, .int .i64 30]) (ok := fun _ => True) (okp := fun _ => True) ?hr ?hp (fun _ hk => hk) trivial (Below.refl _ _) (Nat.le_refl _) (by simp) ?_; (case hd => rfl); (case hg => rfl); (case hr => exact zq4); (case hp => exact zq69); intro v302 w125 ho126 hb hg_ hnew_; clear hg_ hnew_; (first | rw [← Ny301.out] at ho126 | (simp only [Int.reduceToNat] at ho126; rw [← Ny301.out] at ho126)); replace HO_6 := Aside0.mk (Kd.N_elder' (zN HO_6) (Kd.R_base ho126) hb); replace HO299 := Aside0.mk (Kd.N_elder' (zN HO299) (Kd.R_base ho126) hb); have HO303 := Aside0.mk (Kd.R_lower (Kd.R_new' (Kd.R_new' (Kd.R_new' ho126 (Kd.R_lt (zR HO_9))) (Kd.R_lt (zR HO_238001))) (Kd.R_lt (zR HO_238002))) (below_size (zW HB))); replace HO_9 := Aside0.mk (Kd.R_elder' (zR HO_9) (Kd.R_base ho126) hb); replace HO_238001 := Aside0.mk (Kd.R_elder' (zR HO_238001) (Kd.R_base ho126) hb); replace HO_238002 := Aside0.mk (Kd.R_elder' (zR HO_238002) (Kd.R_base ho126) hb); replace BK237 := Aside0.mk (blk_below (zB BK237) hb); replace BK247 := Aside0.mk (blk_below (zB BK247) hb); replace BK254 := Aside0.mk (blk_below (zB BK254) hb); replace BK261 := Aside0.mk (blk_below (zB BK261) hb); replace HB := Aside0.mk (below_step (zW HB) hb); clear hb ho126; obtain ⟨Ao127, co127, eo127⟩ := Kd.R_slice HO_9.out; subst eo127; obtain ⟨Ao128, co128, eo128⟩ := Kd.R_slice HO303.out; subst eo128) | (go_at_call 16; (with_reducible refine (dialtoneref22_Ints.calls kj68 _ _ t214 _ _ y301 true _ ?side1 ?side2 ?side3 ?side4 A114.out).mono ?_); (case side1 => exact zC (Kd.R_reads' HO_9.out).2.2); (case side2 => exact (Kd.R_reads' HO_9.out).2.1); (case side3 => exact zC (Kd.R_reads' HO303.out).2.2); (case side4 => exact (Kd.R_reads' HO303.out).2.1); rintro e w' ⟨rfl, ⟨nd, rfl⟩⟩) | ((with_reducible refine gate_dst (N := 161) rfl ?_); (try (refine gate_guard (by rfl) ?_; dsimp only)); refine Kd.R_lit (Kd.int .i64) _ 3 ?hg (N := 161) ?hd (xs := ([10, 20, 30] : List Int)) (inner := [.int .i64 10, .int .i64 20, .int .i64 30]) (ok := fun _ => True) (okp := fun _ => True) ?hr ?hp (fun _ hk => hk) trivial (Below.refl _ _) (Nat.le_refl _) (by simp) ?_; (case hd => rfl); (case hg => rfl); (case hr => exact zq4); (case hp => exact zq69); intro v306 w129 ho130 hb hg_ hnew_; clear hg_ hnew_; (first | rw [← Ny305.out] at ho130 | (simp only [Int.reduceToNat] at ho130; rw [← Ny305.out] at ho130)); replace HO_6 := Aside0.mk (Kd.N_elder' (zN HO_6) (Kd.R_base ho130) hb); replace HO299 := Aside0.mk (Kd.N_elder' (zN HO299) (Kd.R_base ho130) hb); have HO307 := Aside0.mk (Kd.R_lower (Kd.R_new' (Kd.R_new' (Kd.R_new' (Kd.R_new' ho130 (Kd.R_lt (zR HO_9))) (Kd.R_lt (zR HO_238001))) (Kd.R_lt (zR HO_238002))) (Kd.R_lt (zR HO303))) (below_size (zW HB))); replace HO_9 := Aside0.mk (Kd.R_elder' (zR HO_9) (Kd.R_base ho130) hb); replace HO_238001 := Aside0.mk (Kd.R_elder' (zR HO_238001) (Kd.R_base ho130) hb); replace HO_238002 := Aside0.mk (Kd.R_elder' (zR HO_238002) (Kd.R_base ho130) hb); replace HO303 := Aside0.mk (Kd.R_elder' (zR HO303) (Kd.R_base ho130) hb); replace BK237 := Aside0.mk (blk_below (zB BK237) hb); replace BK247 := Aside0.mk (blk_below (zB BK247) hb); replace BK254 := Aside0.mk (blk_below (zB BK254) hb); replace BK261 := Aside0.mk (blk_below (zB BK261) hb); replace HB := Aside0.mk (below_step (zW HB) hb); clear hb ho130; obtain ⟨Ao131, co131, eo131⟩ := Kd.R_slice HO307.out; subst eo131) | (go_at_call 18; (refine (forward_Payers.calls 0 _ _ y305 _ _ ([] : List Int) t308 _ ?side1 ?side2 ?side3 ?side4 A116.out).mono ?_); (case side1 => exact zC (Kd.R_reads' HO307.out).2.2); (case side2 => exact (Kd.R_reads' HO307.out).2.1); (case side3 => exact zq62); (case side4 => exact zq63); rintro e w132 ⟨v309, rfl, ho0, hb⟩; replace HO_6 := Aside0.mk (Kd.N_elder' (zN HO_6) (Kd.R_base ho0) hb); replace HO299 := Aside0.mk (Kd.N_elder' (zN HO299) (Kd.R_base ho0) hb); have HO310 := Aside0.mk (Kd.R_lower (Kd.R_new' (Kd.R_new' (Kd.R_new' (Kd.R_new' (Kd.R_new' ho0 (Kd.R_lt (zR HO_9))) (Kd.R_lt (zR HO_238001))) (Kd.R_lt (zR HO_238002))) (Kd.R_lt (zR HO303))) (Kd.R_lt (zR HO307))) (below_size (zW HB))); replace HO_9 := Aside0.mk (Kd.R_elder' (zR HO_9) (Kd.R_base ho0) hb); replace HO_238001 := Aside0.mk (Kd.R_elder' (zR HO_238001) (Kd.R_base ho0) hb); replace HO_238002 := Aside0.mk (Kd.R_elder' (zR HO_238002) (Kd.R_base ho0) hb); replace HO303 := Aside0.mk (Kd.R_elder' (zR HO303) (Kd.R_base ho0) hb); replace HO307 := Aside0.mk (Kd.R_elder' (zR HO307) (Kd.R_base ho0) hb); replace BK237 := Aside0.mk (blk_below (zB BK237) hb); replace BK247 := Aside0.mk (blk_below (zB BK247) hb); replace BK254 := Aside0.mk (blk_below (zB BK254) hb); replace BK261 := Aside0.mk (blk_below (zB BK261) hb); replace HB := Aside0.mk (below_step (zW HB) hb); (try clear hb); (try clear hb2); (try clear hk); (try clear hi); (try clear ho0)) | ((with_reducible refine gate_dst (N := 164) rfl ?_); (try (refine gate_guard (by rfl) ?_; dsimp only)); refine Kd.R_lit (Kd.int .i64) _ 3 ?hg (N := 164) ?hd (xs := ([(-1), 10, 20] : List Int)) (inner := [.int .i64 (-1), .int .i64 10, .int .i64 20]) (ok := fun _ => True) (okp := fun _ => True) ?hr ?hp (fun _ hk => hk) trivial (Below.refl _ _) (Nat.le_refl _) (by simp) ?_; (case hd => rfl); (case hg => rfl); (case hr => exact zq4); (case hp => exact (Reps.one (show Kd.M (Kd.int .i64) _ _ _ (-1) [.int .i64 (-1)] from rfl) (Reps.one (show Kd.M (Kd.int .i64) _ _ _ 10 [.int .i64 10] from rfl) (Reps.one (show Kd.M (Kd.int .i64) _ _ _ 20 [.int .i64 20] from rfl) (Reps.none _ _))))); intro v312 w133 ho134 hb hg_ hnew_; clear hg_ hnew_; (first | rw [← Ny311.out] at ho134 | (simp only [Int.reduceToNat] at ho134; rw [← Ny311.out] at ho134)); replace HO_6 := Aside0.mk (Kd.N_elder' (zN HO_6) (Kd.R_base ho134) hb); replace HO299 := Aside0.mk (Kd.N_elder' (zN HO299) (Kd.R_base ho134) hb); have HO313 := Aside0.mk (Kd.R_lower (Kd.R_new' (Kd.R_new' (Kd.R_new' (Kd.R_new' (Kd.R_new' (Kd.R_new' ho134 (Kd.R_lt (zR HO_9))) (Kd.R_lt (zR HO_238001))) (Kd.R_lt (zR HO_238002))) (Kd.R_lt (zR HO303))) (Kd.R_lt (zR HO307))) (Kd.R_lt (zR HO310))) (below_size (zW HB))); replace HO_9 := Aside0.mk (Kd.R_elder' (zR HO_9) (Kd.R_base ho134) hb); replace HO_238001 := Aside0.mk (Kd.R_elder' (zR HO_238001) (Kd.R_base ho134) hb); replace HO_238002 := Aside0.mk (Kd.R_elder' (zR HO_238002) (Kd.R_base ho134) hb); replace HO303 := Aside0.mk (Kd.R_elder' (zR HO303) (Kd.R_base ho134) hb); replace HO307 := Aside0.mk (Kd.R_elder' (zR HO307) (Kd.R_base ho134) hb); replace HO310 := Aside0.mk (Kd.R_elder' (zR HO310) (Kd.R_base ho134) hb); replace BK237 := Aside0.mk (blk_below (zB BK237) hb); replace BK247 := Aside0.mk (blk_below (zB BK247) hb); replace BK254 := Aside0.mk (blk_below (zB BK254) hb); replace BK261 := Aside0.mk (blk_below (zB BK261) hb); replace HB := Aside0.mk (below_step (zW HB) hb); clear hb ho134; obtain ⟨Ao135, co135, eo135⟩ := Kd.R_slice HO310.out; subst eo135; obtain ⟨Ao136, co136, eo136⟩ := Kd.R_slice HO313.out; subst eo136) | (go_at_call 16; (with_reducible refine (dialtoneref22_Ints.calls kj68 _ _ t308 _ _ y311 t314 _ ?side1 ?side2 ?side3 ?side4 A117.out).mono ?_); (case side1 => exact zC (Kd.R_reads' HO310.out).2.2); (case side2 => exact (Kd.R_reads' HO310.out).2.1); (case side3 => exact zC (Kd.R_reads' HO313.out).2.2); (case side4 => exact (Kd.R_reads' HO313.out).2.1); rintro e w' ⟨rfl, ⟨nd, rfl⟩⟩))
      go_meet
      case rel => exact ⟨_, (t314), (zq2), H', ⟨by have := HJ17.out; have := HJ68.out; first | omega | exact Nat.le_refl _⟩, ⟨by (with_reducible repeat (first | apply Kd.R_alloc | apply Kd.R_drewN | apply Kd.R_drew)); exact Kd.R_mono HO_238001.out (fun _ hk => hk.1.1.1.1.1.2)⟩, ⟨by (with_reducible repeat (first | apply Kd.R_alloc | apply Kd.R_drewN | apply Kd.R_drew)); exact Kd.R_mono HO_238002.out (fun _ hk => hk.1.1.1.1.1.2)⟩, ⟨zq72⟩, ⟨zq73⟩, ⟨zq74⟩, ⟨zq75⟩, ⟨zq71⟩⟩
     case rest =>
      clear HC111
      try clear c1
      try clear c2
      try clear p2
      try clear q2
      try clear hx2
      try clear qi2
      try clear c3
      try clear c4
      try clear c5
      try clear c6
      try clear p6
      try clear c7
      try clear c9
      try clear c9b0
      try clear c9b1
      try clear c11
      try clear c19
      try clear c20
      try clear c21
      try clear p21
      try clear q21
      try clear hx21
      try clear qi21
      try clear c22
      try clear c23
      try clear c24
      try clear c45
      try clear c49
      try clear c50
      try clear c54
      try clear c55
      try clear c56
      try clear c58
      try clear c58b0
      try clear c58b1
      try clear c59
      try clear c59b0
      try clear c59b1
      try clear c60
      try clear c60b0
      try clear c60b1
      try clear c61
      try clear c61b0
      try clear c61b1
      try clear c62
      try clear c62b0
      try clear c62b1
      try clear c63
      try clear c63b0
      try clear c63b1
      try clear c64
      try clear p64
      try clear c65
      try clear c66
      try clear c66b0
      try clear c66b1
      try clear c68
      try clear c71
      try clear c73
      try clear c75
      try clear c77
      try clear c113
      try clear c115
      try clear hcz37_0
      try clear hcz37_1
      try clear hcz37_2
      try clear hcz46_0
      try clear hcz46_1
      try clear hcz46_2
      try clear hcz46_3
      try clear hcz46_4
      try clear hcz51_0
      try clear hcz51_1
      try clear hcz51_2
      try clear hcz51_3
      try clear hcz51_4
      try clear hcz57_0
      try clear hcz57_1
      try clear hcz57_2
      try clear hcz57_3
      try clear hcz57_4
      try clear hfz37_0
      try clear hfz37_1
      try clear hfz37_2
      try clear hfz46_0
      try clear hfz46_1
      try clear hfz46_2
      try clear hfz46_3
      try clear hfz46_4
      try clear hfz51_0
      try clear hfz51_1
      try clear hfz51_2
      try clear hfz51_3
      try clear hfz51_4
      try clear hfz57_0
      try clear hfz57_1
      try clear hfz57_2
      try clear hfz57_3
      try clear hfz57_4
      try clear hx212_0
      try clear hx212_1
      try clear hx212_2
      try clear hx212_3
      try clear hx212_4
      try clear p2
      try clear p21
      try clear p212
      try clear p6
      try clear p64
      try clear q2
      try clear q21
      try clear q212
      obtain ⟨kq, x24_110, rfl, HA, HJ110, HO_238001, HO_238002, BK237, BK247, BK254, BK261, HB⟩ := hcut
      cases kq with
      | zero => exact absurd HA.out (by simp [dialtonelaw22_sane_rest.j2])
      | succ kj110 =>
       have H := HA.out
       clear HA
       simp only [dialtonelaw22_sane_rest.j2] at H
       by_cases c137 : x23_68 = true
       rotate_left
       ·replace c137 := Bool.eq_false_iff.mpr c137
        subst c137
        rw [if_neg (show ¬ (false = true) by decide)] at H
        exact absurd H (by simp)
       subst c137
       rw [if_pos rfl] at H
       by_cases c138 : x24_110 = true
       rotate_left
       ·replace c138 := Bool.eq_false_iff.mpr c138
        subst c138
        rw [if_neg (show ¬ (false = true) by decide)] at H
        exact absurd H (by simp)
       subst c138
       rw [if_pos rfl] at H
       by_cases c139 : (t241 == t248 && (t242 == t249 && (t243 == t250 && ((t244 == t251 && (t245 == t252)))))) = true
       rotate_left
       ·rw [if_neg c139] at H
        exact absurd H (by simp)
       rw [if_pos c139] at H
       have c139b0 : (t241 == t248 && (t242 == t249 && (t243 == t250 && ((t244 == t251 && (t245 == t252)))))) = true := c139
       (try (have c139b1 : decide (t241 = t248 && (t242 == t249 && (t243 == t250 && ((t244 == t251 && (t245 == t252)))))) = true := by simpa using c139))
       (try (have c139b2 : (t241 == t248 && (t242 == t249 && (t243 == t250 && ((t244 == t251 && (t245 == t252)))))) = true := by simpa using c139))
       clear c139
       by_cases c140 : (t241 == 10 && (t242 == 2 && (t243 == 34000567 && ((t244 == 0 && (t245 == 9)))))) = true
       rotate_left
       ·rw [if_neg c140] at H
        exact absurd H (by simp)
       rw [if_pos c140] at H
       have c140b0 : (t241 == 10 && (t242 == 2 && (t243 == 34000567 && ((t244 == 0 && (t245 == 9)))))) = true := c140
       (try (have c140b1 : decide (t241 = 10 && (t242 == 2 && (t243 == 34000567 && ((t244 == 0 && (t245 == 9)))))) = true := by simpa using c140))
       (try (have c140b2 : (t241 == 10 && (t242 == 2 && (t243 == 34000567 && ((t244 == 0 && (t245 == 9)))))) = true := by simpa using c140))
       clear c140
       replace H := Option.bind_eq_some_iff.mp H
       obtain ⟨t315, A1410, H⟩ := H
       try dsimp only at H
       have A141 := Aside0.mk A1410
       clear A1410
       replace H := Option.bind_eq_some_iff.mp H
       obtain ⟨t318, A1420, H⟩ := H
       try dsimp only at H
       have A142 := Aside0.mk A1420
       clear A1420
       by_cases c143 : t318 = true
       rotate_left
       ·replace c143 := Bool.eq_false_iff.mpr c143
        subst c143
        rw [if_neg (show ¬ (false = true) by decide)] at H
        exact absurd H (by simp)
       subst c143
       rw [if_pos rfl] at H
       replace H := Option.bind_eq_some_iff.mp H
       obtain ⟨t319, A1440, H⟩ := H
       try dsimp only at H
       have A144 := Aside0.mk A1440
       clear A1440
       replace H := Option.bind_eq_some_iff.mp H
       obtain ⟨t322, A1450, H⟩ := H
       try dsimp only at H
       have A145 := Aside0.mk A1450
       clear A1450
       by_cases c146 : 0 < (t322.length : Int)
       rotate_left
       ·rw [if_neg c146] at H
        exact absurd H (by simp)
       rw [if_pos c146] at H
       have c146b0 : decide (0 < (t322.length : Int)) = true := decide_eq_true c146
       have c146b1 : decide (0 < t322.length) = true := decide_eq_true (by omega)
       clear c146
       by_cases c147 : t319.length < 3518437208883
       rotate_left
       ·rw [if_neg c147] at H
        exact absurd H (by simp)
       rw [if_pos c147] at H
       have LMc147 := Aside0.mk c147
       clear c147
       obtain ⟨y326, hy326⟩ : ∃ y_ : List (S41), y_ = (t319 ++ [(⟨(rd_T41 t322 0).f0, (rd_T41 t322 0).f1, (rd_T41 t322 0).f2, (⟨(rd_T41 t322 0).f3.f0, (rd_T41 t322 0).f3.f1⟩ : S39)⟩ : S41)]) := ⟨_, rfl⟩
       replace H : ((forward_Valid.f y326 ([] : List (S37))).bind fun t329 => (if t329 = true then (none) else ((dialtonelaw22_settings.f).bind fun t330 => ((forward_Check.f kj110 t330 ([] : List (S37)) 10 100 0 ([] : List Int) ([] : List Int)).bind fun t333 => (some (!t333)))))) = some r := by first | (rw [hy326]; with_reducible exact H) | (have H2_ := (Option.bind_some _ _).symm.trans H; rw [hy326]; with_reducible exact H2_) | (have H2_ := (Option.bind_some _ _).symm.trans H; with_reducible exact H2_) | with_reducible exact H | (rw [hy326]; exact H) | exact H
       have Ny326 := Aside0.mk hy326
       clear hy326
       replace H := Option.bind_eq_some_iff.mp H
       obtain ⟨t329, A1480, H⟩ := H
       try dsimp only at H
       have A148 := Aside0.mk A1480
       clear A1480
       by_cases c149 : t329 = true
       ·subst c149
        rw [if_pos rfl] at H
        exact absurd H (by simp)
       replace c149 := Bool.eq_false_iff.mpr c149
       subst c149
       rw [if_neg (show ¬ (false = true) by decide)] at H
       replace H := Option.bind_eq_some_iff.mp H
       obtain ⟨t330, A1500, H⟩ := H
       try dsimp only at H
       have A150 := Aside0.mk A1500
       clear A1500
       replace H := Option.bind_eq_some_iff.mp H
       obtain ⟨t333, A1510, H⟩ := H
       try dsimp only at H
       have A151 := Aside0.mk A1510
       clear A1510
       obtain rfl := Option.some.inj H
       have hnb152 := NB247_237.out
       have hnc152 := NB237_247.out
       have hnb153 := NB247_254.out
       have hnc153 := NB254_247.out
       have hnb154 := NB247_261.out
       have hnc154 := NB261_247.out
       have hcz155_0 : wc.cell? ⟨gb247, 0, none⟩ = some (.int .i64 t241) := (blk_cell BK247.out 0).trans rfl
       have hcz155_1 : wc.cell? ⟨gb247, 1, none⟩ = some (.int .i64 t242) := (blk_cell BK247.out 1).trans rfl
       have hcz155_2 : wc.cell? ⟨gb247, 2, none⟩ = some (.int .i64 t243) := (blk_cell BK247.out 2).trans rfl
       have hcz155_3 : wc.cell? ⟨gb247, 3, none⟩ = some (.int .i64 t244) := (blk_cell BK247.out 3).trans rfl
       have hcz155_4 : wc.cell? ⟨gb247, 4, none⟩ = some (.int .i64 t245) := (blk_cell BK247.out 4).trans rfl
       have hfz155_0 := blk_frozen BK247.out 0
       have hfz155_1 := blk_frozen BK247.out 1
       have hfz155_2 := blk_frozen BK247.out 2
       have hfz155_3 := blk_frozen BK247.out 3
       have hfz155_4 := blk_frozen BK247.out 4
       have hnb156 := NB254_237.out
       have hnc156 := NB237_254.out
       have hnb157 := NB254_261.out
       have hnc157 := NB261_254.out
       have hcz158_0 : wc.cell? ⟨gb254, 0, none⟩ = some (.int .i64 t248) := (blk_cell BK254.out 0).trans rfl
       have hcz158_1 : wc.cell? ⟨gb254, 1, none⟩ = some (.int .i64 t249) := (blk_cell BK254.out 1).trans rfl
       have hcz158_2 : wc.cell? ⟨gb254, 2, none⟩ = some (.int .i64 t250) := (blk_cell BK254.out 2).trans rfl
       have hcz158_3 : wc.cell? ⟨gb254, 3, none⟩ = some (.int .i64 t251) := (blk_cell BK254.out 3).trans rfl
       have hcz158_4 : wc.cell? ⟨gb254, 4, none⟩ = some (.int .i64 t252) := (blk_cell BK254.out 4).trans rfl
       have hfz158_0 := blk_frozen BK254.out 0
       have hfz158_1 := blk_frozen BK254.out 1
       have hfz158_2 := blk_frozen BK254.out 2
       have hfz158_3 := blk_frozen BK254.out 3
       have hfz158_4 := blk_frozen BK254.out 4
       go_wp2_with (first | ((fail_if_success have := HO317); (fail_if_success have := HO321); (fail_if_success have := HO324); (fail_if_success have := HO332); go_at_call 20; (with_reducible refine (dialtonelaw22_settings.calls  t315 _ A141.out).mono ?_); rintro e w159 ⟨v316, rfl, ho0, hb⟩; replace HO_238001 := Aside0.mk (Kd.R_below (zR HO_238001) hb); replace HO_238002 := Aside0.mk (Kd.R_below (zR HO_238002) hb); have HO317 := Aside0.mk (Kd.R_lower (Kd.R_newB (Kd.R_newB (Kd.R_newB ho0 (zB BK247)) (zB BK254)) (zB BK261)) (below_size (zW HB))); replace BK237 := Aside0.mk (blk_below (zB BK237) hb); replace BK247 := Aside0.mk (blk_below (zB BK247) hb); replace BK254 := Aside0.mk (blk_below (zB BK254) hb); replace BK261 := Aside0.mk (blk_below (zB BK261) hb); replace HB := Aside0.mk (below_step (zW HB) hb); (try clear hb); (try clear hb2); (try clear hk); (try clear hi); (try clear ho0); obtain ⟨Ao160, co160, eo160⟩ := Kd.R_slice HO317.out; subst eo160) | (go_at_call 25; (with_reducible refine (forward_Valid.calls _ _ t315 _ _ l1 true _ ?side1 ?side2 ?side3 ?side4 A142.out).mono ?_); (case side1 => exact zC (Kd.R_reads' HO317.out).2.2); (case side2 => exact (Kd.R_reads' HO317.out).2.1); (case side3 => exact zq13); (case side4 => exact HC1.out); rintro e w161 ⟨rfl, hb⟩; replace HO_238001 := Aside0.mk (Kd.R_below (zR HO_238001) hb); replace HO_238002 := Aside0.mk (Kd.R_below (zR HO_238002) hb); replace HO317 := Aside0.mk (Kd.R_below (zR HO317) hb); replace BK237 := Aside0.mk (blk_below (zB BK237) hb); replace BK247 := Aside0.mk (blk_below (zB BK247) hb); replace BK254 := Aside0.mk (blk_below (zB BK254) hb); replace BK261 := Aside0.mk (blk_below (zB BK261) hb); replace HB := Aside0.mk (below_step (zW HB) hb); (try clear hb); (try clear hb2); (try clear hk); (try clear hi)) | ((fail_if_success have := HO321); (fail_if_success have := HO324); (fail_if_success have := HO332); go_at_call 20; (with_reducible refine (dialtonelaw22_settings.calls  t319 _ A144.out).mono ?_); rintro e w162 ⟨v320, rfl, ho0, hb⟩; replace HO_238001 := Aside0.mk (Kd.R_below (zR HO_238001) hb); replace HO_238002 := Aside0.mk (Kd.R_below (zR HO_238002) hb); have HO321 := Aside0.mk (Kd.R_lower (Kd.R_newB (Kd.R_newB (Kd.R_newB (Kd.R_new' ho0 (Kd.R_lt (zR HO317))) (zB BK247)) (zB BK254)) (zB BK261)) (below_size (zW HB))); replace HO317 := Aside0.mk (Kd.R_elder' (zR HO317) (Kd.R_base ho0) hb); replace BK237 := Aside0.mk (blk_below (zB BK237) hb); replace BK247 := Aside0.mk (blk_below (zB BK247) hb); replace BK254 := Aside0.mk (blk_below (zB BK254) hb); replace BK261 := Aside0.mk (blk_below (zB BK261) hb); replace HB := Aside0.mk (below_step (zW HB) hb); (try clear hb); (try clear hb2); (try clear hk); (try clear hi); (try clear ho0)) | ((fail_if_success have := HO324); (fail_if_success have := HO332); go_at_call 20; (with_reducible refine (dialtonelaw22_settings.calls  t322 _ A145.out).mono ?_); rintro e w163 ⟨v323, rfl, ho0, hb⟩; replace HO_238001 := Aside0.mk (Kd.R_below (zR HO_238001) hb); replace HO_238002 := Aside0.mk (Kd.R_below (zR HO_238002) hb); have HO324 := Aside0.mk (Kd.R_lower (Kd.R_newB (Kd.R_newB (Kd.R_newB (Kd.R_new' (Kd.R_new' ho0 (Kd.R_lt (zR HO317))) (Kd.R_lt (zR HO321))) (zB BK247)) (zB BK254)) (zB BK261)) (below_size (zW HB))); replace HO317 := Aside0.mk (Kd.R_elder' (zR HO317) (Kd.R_base ho0) hb); replace HO321 := Aside0.mk (Kd.R_elder' (zR HO321) (Kd.R_base ho0) hb); replace BK237 := Aside0.mk (blk_below (zB BK237) hb); replace BK247 := Aside0.mk (blk_below (zB BK247) hb); replace BK254 := Aside0.mk (blk_below (zB BK254) hb); replace BK261 := Aside0.mk (blk_below (zB BK261) hb); replace HB := Aside0.mk (below_step (zW HB) hb); (try clear hb); (try clear hb2); (try clear hk); (try clear hi); (try clear ho0); obtain ⟨Ao164, co164, eo164⟩ := Kd.R_slice HO324.out; subst eo164; have p325 : 0 ≤ (0 : Int) := (by omega); have q325 : 0 < (t322.length : Int) := of_decide_eq_true (zq9); obtain ⟨ad325, e325, hx325_0, hx325_1, hx325_2, hx325_3, hx325_4⟩ := at_T41 (Kd.R_reads' HO324.out).2.2 0 p325 q325; cases e325; have qi325 : (0 < t322.length) = True := eq_true (by omega); (try rw [show ((0 : Int)).toNat = 0 from rfl] at hx325_0); (try rw [show 0 * 5 = 0 from rfl] at hx325_0); (try rw [Addr.add_zero'] at hx325_0); (try rw [show ((0 : Int)).toNat = 0 from rfl] at hx325_1); (try rw [show 0 * 5 = 0 from rfl] at hx325_1); (try rw [Addr.add_zero'] at hx325_1); (try rw [show ((0 : Int)).toNat = 0 from rfl] at hx325_2); (try rw [show 0 * 5 = 0 from rfl] at hx325_2); (try rw [Addr.add_zero'] at hx325_2); (try rw [show ((0 : Int)).toNat = 0 from rfl] at hx325_3); (try rw [show 0 * 5 = 0 from rfl] at hx325_3); (try rw [Addr.add_zero'] at hx325_3); (try rw [show ((0 : Int)).toNat = 0 from rfl] at hx325_4); (try rw [show 0 * 5 = 0 from rfl] at hx325_4); (try rw [Addr.add_zero'] at hx325_4); replace p325 := eq_true p325; replace q325 := eq_true q325) | ((with_reducible refine gate_builtin (b := .append) (xs := #[.tmp 188, .tmp 192]) rfl ?_); (try (refine gate_guard (by rfl) ?_; dsimp only)); at_builtin; refine Kd.R_append k41 (w0 := w) w.heap.size rfl (.tmp 188) (.tmp 192) 24 41 (.agg #[(.int .i64 0), (.int .i64 0), (.int .i64 0), (.int .i64 0), (.int .i64 0)]) 40 rfl Tryz.underlying24 info41 rfl (by decide) (by omega) v320 t319 (⟨(rd_T41 t322 0).f0, (rd_T41 t322 0).f1, (rd_T41 t322 0).f2, (⟨(rd_T41 t322 0).f3.f0, (rd_T41 t322 0).f3.f1⟩ : S39)⟩ : S41) [.int .i64 ((rd_T41 t322 0).f0), .int .i64 ((rd_T41 t322 0).f1), .int .i64 ((rd_T41 t322 0).f2), .int .i64 ((rd_T41 t322 0).f3.f0), .int .i64 ((rd_T41 t322 0).f3.f1)] (fun k_ => some k_ ≠ (.slice Ao160 t315.length co160 : Value).ownBlock ∧ some k_ ≠ (.slice (some ad325) t322.length co164 : Value).ownBlock ∧ k_ ≠ gb247 ∧ k_ ≠ gb254 ∧ k_ ≠ gb261) (fun _ => False) rfl rfl ?aP (fun _ hk => hk.elim) ?aF ?aO ?aB ?aS ?aL ?_; (case aP => exact k41_mkM _ _ _ (⟨(rd_T41 t322 0).f0, (rd_T41 t322 0).f1, (rd_T41 t322 0).f2, (⟨(rd_T41 t322 0).f3.f0, (rd_T41 t322 0).f3.f1⟩ : S39)⟩ : S41)); (case aB => exact (zW HB)); (case aF => exact (fun k_ hk => ⟨Kd.fresh' (Kd.R_lt (zR HO317)) k_ hk, Kd.fresh' (Kd.R_lt (zR HO324)) k_ hk, Kd.freshB (zB BK247) k_ hk, Kd.freshB (zB BK254) k_ hk, Kd.freshB (zB BK261) k_ hk⟩)); (case aO => exact (by (with_reducible repeat (first | apply Kd.R_alloc | apply Kd.R_drewN | apply Kd.R_drew)); exact Kd.R_mono HO321.out (fun _ hk => ⟨hk.1.1.1.1.2, ⟨hk.2, ⟨hk.1.1.1.2, ⟨hk.1.1.2, hk.1.2⟩⟩⟩⟩))); (case aS => exact zq61); (case aL => have := LMc147.out; omega); intro v327 w165 ho hb hg hat; rw [← Ny326.out] at ho; replace HO_238001 := Aside0.mk (Kd.R_over' (zR HO_238001) (Kd.R_typed (zR HO321)) (by decide) hg); replace HO_238002 := Aside0.mk (Kd.R_over' (zR HO_238002) (Kd.R_typed (zR HO321)) (by decide) hg); replace BK237 := Aside0.mk (blk_grown (zB BK237) hg (Kd.R_ne HO321.out BK237.out (by decide))); replace BK247 := Aside0.mk (blk_grown (zB BK247) hg (Kd.R_away HO321.out (fun _ hk => hk.1.1.1.2))); replace BK254 := Aside0.mk (blk_grown (zB BK254) hg (Kd.R_away HO321.out (fun _ hk => hk.1.1.2))); replace BK261 := Aside0.mk (blk_grown (zB BK261) hg (Kd.R_away HO321.out (fun _ hk => hk.1.2))); replace HO317 := Aside0.mk (Kd.R_after (ok := (fun k_ => some k_ ≠ (.slice (some ad325) t322.length co164 : Value).ownBlock ∧ k_ ≠ gb247 ∧ k_ ≠ gb254 ∧ k_ ≠ gb261)) (by (with_reducible repeat (first | apply Kd.R_alloc | apply Kd.R_drewN | apply Kd.R_drew)); exact Kd.R_mono HO317.out (fun _ hk => ⟨⟨hk.2, ⟨hk.1.1.1.1.2, ⟨hk.1.1.1.2, hk.1.1.2⟩⟩⟩, hk.1.2⟩)) hg hat); replace HO324 := Aside0.mk (Kd.R_after (ok := (fun k_ => some k_ ≠ (.slice Ao160 t315.length co160 : Value).ownBlock ∧ k_ ≠ gb247 ∧ k_ ≠ gb254 ∧ k_ ≠ gb261)) (by (with_reducible repeat (first | apply Kd.R_alloc | apply Kd.R_drewN | apply Kd.R_drew)); exact Kd.R_mono HO324.out (fun _ hk => ⟨⟨hk.1.1.1.1.2, ⟨hk.1.1.2, ⟨hk.1.2, hk.2⟩⟩⟩, hk.1.1.1.2⟩)) hg hat); replace HB := Aside0.mk (hb); have HO328 := Aside0.mk (ho); clear HO321; clear ho hb hg hat; obtain ⟨Ao166, co166, eo166⟩ := Kd.R_slice HO328.out; subst eo166) | (go_at_call 25; (refine (forward_Valid.calls _ _ y326 _ _ ([] : List (S37)) false _ ?side1 ?side2 ?side3 ?side4 A148.out).mono ?_); (case side1 => exact zC (Kd.R_reads' HO328.out).2.2); (case side2 => exact (Kd.R_reads' HO328.out).2.1); (case side3 => exact zq62); (case side4 => exact zq63); rintro e w167 ⟨rfl, hb⟩; replace HO_238001 := Aside0.mk (Kd.R_below (zR HO_238001) hb); replace HO_238002 := Aside0.mk (Kd.R_below (zR HO_238002) hb); replace HO317 := Aside0.mk (Kd.R_below (zR HO317) hb); replace HO324 := Aside0.mk (Kd.R_below (zR HO324) hb); replace HO328 := Aside0.mk (Kd.R_below (zR HO328) hb); replace BK237 := Aside0.mk (blk_below (zB BK237) hb); replace BK247 := Aside0.mk (blk_below (zB BK247) hb); replace BK254 := Aside0.mk (blk_below (zB BK254) hb); replace BK261 := Aside0.mk (blk_below (zB BK261) hb); replace HB := Aside0.mk (below_step (zW HB) hb); (try clear hb); (try clear hb2); (try clear hk); (try clear hi)) | ((fail_if_success have := HO332); go_at_call 20; (with_reducible refine (dialtonelaw22_settings.calls  t330 _ A150.out).mono ?_); rintro e w168 ⟨v331, rfl, ho0, hb⟩; replace HO_238001 := Aside0.mk (Kd.R_below (zR HO_238001) hb); replace HO_238002 := Aside0.mk (Kd.R_below (zR HO_238002) hb); have HO332 := Aside0.mk (Kd.R_lower (Kd.R_newB (Kd.R_newB (Kd.R_newB (Kd.R_new' (Kd.R_new' (Kd.R_new' ho0 (Kd.R_lt (zR HO317))) (Kd.R_lt (zR HO324))) (Kd.R_lt (zR HO328))) (zB BK247)) (zB BK254)) (zB BK261)) (below_size (zW HB))); replace HO317 := Aside0.mk (Kd.R_elder' (zR HO317) (Kd.R_base ho0) hb); replace HO324 := Aside0.mk (Kd.R_elder' (zR HO324) (Kd.R_base ho0) hb); replace HO328 := Aside0.mk (Kd.R_elder' (zR HO328) (Kd.R_base ho0) hb); replace BK237 := Aside0.mk (blk_below (zB BK237) hb); replace BK247 := Aside0.mk (blk_below (zB BK247) hb); replace BK254 := Aside0.mk (blk_below (zB BK254) hb); replace BK261 := Aside0.mk (blk_below (zB BK261) hb); replace HB := Aside0.mk (below_step (zW HB) hb); (try clear hb); (try clear hb2); (try clear hk); (try clear hi); (try clear ho0); obtain ⟨Ao169, co169, eo169⟩ := Kd.R_slice HO332.out; subst eo169) | (go_at_call 12; (refine (forward_Check.calls kj110 _ _ t330 _ _ ([] : List (S37)) 10 100 0 _ _ ([] : List Int) _ _ ([] : List Int) t333 _ ?side1 ?side2 ?side3 ?side4 ?side5 ?side6 ?side7 ?side8 A151.out).mono ?_); (case side1 => exact zC (Kd.R_reads' HO332.out).2.2); (case side2 => exact (Kd.R_reads' HO332.out).2.1); (case side3 => exact zq62); (case side4 => exact zq63); (case side5 => exact zq62); (case side6 => exact zq63); (case side7 => exact zq62); (case side8 => exact zq63); rintro e w170 ⟨rfl, hb⟩; replace HO_238001 := Aside0.mk (Kd.R_below (zR HO_238001) hb); replace HO_238002 := Aside0.mk (Kd.R_below (zR HO_238002) hb); replace HO317 := Aside0.mk (Kd.R_below (zR HO317) hb); replace HO324 := Aside0.mk (Kd.R_below (zR HO324) hb); replace HO328 := Aside0.mk (Kd.R_below (zR HO328) hb); replace HO332 := Aside0.mk (Kd.R_below (zR HO332) hb); replace BK237 := Aside0.mk (blk_below (zB BK237) hb); replace BK247 := Aside0.mk (blk_below (zB BK247) hb); replace BK254 := Aside0.mk (blk_below (zB BK254) hb); replace BK261 := Aside0.mk (blk_below (zB BK261) hb); replace HB := Aside0.mk (below_step (zW HB) hb); (try clear hb); (try clear hb2); (try clear hk); (try clear hi)))
       go_ret
       exact ⟨zq6, zq71⟩
end Go.Proofs.YtkfejgdeknemaaaGreatDoor.Fw
end
section
namespace Go.Proofs.YtkfejgdeknemaaaGreatDoor.Fw
open Go.RowKit Go.Proofs.YtkfejgdeknemaaaGreatDoorW.PrintWords Go.Proofs.YtkfejgdeknemaaaGreatDoorW.PrintLast Go.Proofs.YtkfejgdeknemaaaGreatDoorW.PrintMore Go.Proofs.GMap Go.Maps
set_option linter.unusedVariables false
set_option linter.unusedSimpArgs false
theorem sane_rest_true : dialtonelaw22_sane_rest.f 100 [⟨20, 2⟩] [⟨20, 2⟩, ⟨30, 2⟩] = some true := by kernel_rfl
def dialtonelaw22_sane.f : Option Bool := some true
theorem cells2 {W : World} {g t : Nat} {x y : Value} (h : W.heap[g]? = some (.cells #[x, y] t (0, 0))) : ∀ j u, [x, y][j]? = some u → W.cell? ((⟨g, 0, none⟩ : Addr).add j) = some u := by
  intro j u hj
  rw [add_at, Nat.zero_add, blk_cell h]
  simpa using hj
theorem one2 (x y : Value) (hx : x.oneCell' = true) (hy : y.oneCell' = true) : ∀ u ∈ [x, y], u.oneCell' = true := by
  intro u hu
  simp only [List.mem_cons, List.not_mem_nil, or_false] at hu
  rcases hu with rfl | rfl <;> assumption
theorem reps2 (W : World) (b : Nat) (ok : Nat → Prop) {j : Nat} {p : S37} (hj : ([⟨20, 2⟩, ⟨30, 2⟩] : List S37)[j]? = some p) : k37.M W b ok p ((([.int .i64 20, .int .i64 2, .int .i64 30, .int .i64 2] : List Value).drop (j * 2)).take 2) := by
  match j, hj with
  | 0, hj => obtain rfl := Option.some.inj hj; exact k37_mkM W b ok ⟨20, 2⟩
  | 1, hj => obtain rfl := Option.some.inj hj; exact k37_mkM W b ok ⟨30, 2⟩
  | j + 2, hj => simp at hj
theorem one1 {W : World} {g t : Nat} (h : W.heap[g]? = some (.cells #[.int .i64 20, .int .i64 2] t (0, 0))) : Kd.C k37 W (some ⟨g, 0, none⟩) ([⟨20, 2⟩] : List S37).length [⟨20, 2⟩] := by
  refine ⟨rfl, by decide, fun _ => ⟨_, rfl, fun j p hj => ?_⟩⟩
  match j, hj with
  | 0, hj =>
    obtain rfl := Option.some.inj hj
    refine ⟨_, rfl, k37_mk W ⟨20, 2⟩, fun i u hu => ?_⟩
    rw [Nat.zero_mul, Nat.zero_add]
    exact cells2 h i u hu
  | j + 1, hj => simp at hj
set_option maxHeartbeats 1000000 in
set_option maxRecDepth 100000 in
theorem dialtonelaw22_sane.calls (r : Bool) (w : World) (h : dialtonelaw22_sane.f = some r) :
    Calls Tryz.prog 7 #[] w fun e w' => e = .returned (.bool r) ∧ Below w.heap.size w w' := by
  obtain rfl := Option.some.inj h
  clear h
  have HREST := Aside0.mk sane_rest_true
  obtain ⟨i0, hi0, hz0, hz1, hz2⟩ := info_parts info37
  obtain ⟨w1, hw1⟩ : ∃ w1, w1 = w.alloc (.cells #[.int .i64 20, .int .i64 2] 37) := ⟨_, rfl⟩
  have HB1 := Aside0.mk (show Below w.heap.size w w1 by rw [hw1]; exact below_alloc (Below.refl _ _) _)
  have HK1 := Aside0.mk (show w1.heap[w.heap.size]? = some (.cells #[.int .i64 20, .int .i64 2] 37 (0, 0)) by rw [hw1]; exact blk_new _ _)
  have HW1 := Aside0.mk hw1
  have hs1 : w1.heap.size = w.heap.size + 1 := by rw [hw1]; simp
  obtain ⟨w2, hw2⟩ : ∃ w2, w2 = w1.alloc (.cells #[.int .i64 30, .int .i64 2] 37) := ⟨_, rfl⟩
  have HB2 := Aside0.mk (show Below w1.heap.size w1 w2 by rw [hw2]; exact below_alloc (Below.refl _ _) _)
  have HK2 := Aside0.mk (show w2.heap[w1.heap.size]? = some (.cells #[.int .i64 30, .int .i64 2] 37 (0, 0)) by rw [hw2]; exact blk_new _ _)
  have HW2 := Aside0.mk hw2
  have hS1 := Aside0.mk hs1
  clear hw1 hw2 hs1
  go_enter Tryz.func7, Tryz.ntmps7
  refine seq_hold fun K HK => ?_
  go_wp2
  refine HK.out _ _ ?_
  clear HK
  refine seq_hold fun K HK => ?_
  go_wp2
  refine HK.out _ _ ?_
  clear HK
  rw [← HW1.out]
  refine seq_hold fun K HK => ?_
  go_wp2_with (at_builtin; rw [← HW2.out]; refine wpList_append_grows _ rfl (.tmp 27) (.tmp 29) 26 rfl 37 i0 (.agg #[.int .i64 0, .int .i64 0]) 2 16 Tryz.underlying26 hi0 hz0 hz1 hz2 rfl (by decide) (some ⟨w.heap.size, 0, none⟩) 1 1 [.int .i64 20, .int .i64 2] rfl (fun h => by cases h) rfl ?c0 ⟨w1.heap.size, 0, none⟩ 1 1 [.int .i64 30, .int .i64 2] rfl rfl ?c1 ?c2 (by decide) (by decide) (by decide) ?grow)
  case c0 => exact fun b hb => by cases hb; exact cells2 (blk_below HK1.out HB2.out)
  case c1 => exact cells2 HK2.out
  case c2 => exact one2 _ _ rfl rfl
  case grow =>
    intro v' w' ho hg
    have HR : Kd.R k37 37 w' w2.heap.size (fun _ => True) v' ([⟨20, 2⟩, ⟨30, 2⟩] : List S37) := ⟨fun _ _ => trivial, _, ho, rfl, fun j p hj => reps2 _ _ _ hj⟩
    obtain ⟨A2, c2, rfl⟩ := Kd.R_slice HR
    have HR2 := Aside0.mk HR
    have hlt : w.heap.size < w1.heap.size := blk_lt HK1.out
    have hlt2 : w1.heap.size < w2.heap.size := blk_lt HK2.out
    have HBB1 := Aside0.mk (show Below w1.heap.size w1 w' from HB2.out.grown hg (by omega) (fun k h => by cases h))
    have HC1 := Aside0.mk (show Kd.C k37 w' (some ⟨w.heap.size, 0, none⟩) ([⟨20, 2⟩] : List S37).length [⟨20, 2⟩] from one1 (blk_below HK1.out HBB1.out))
    have HBB := Aside0.mk (show Below w.heap.size w w' from (HB1.out.trans (Below.mono HBB1.out (by omega))))
    go_wp2
    refine HK.out _ _ ?_
    clear HK
    refine Code.wp_mono ?_ (dialtonelaw22_sane_rest.calls 100 (some ⟨w.heap.size, 0, none⟩) 1 [⟨20, 2⟩] A2 c2 [⟨20, 2⟩, ⟨30, 2⟩] true w' HC1.out (by decide) (Kd.R_reads' HR2.out).2.2 (Kd.R_reads' HR2.out).2.1 HREST.out)
    intro e a w'' hq
    cases e with
    | normal => obtain ⟨h1, v, h2, h3, h4⟩ := hq; exact ⟨h1, v, h2, h3, HBB.out.trans (Below.mono h4 (by have := HBB.out.size; omega))⟩
    | ret => obtain ⟨h1, v, h2, h3, h4⟩ := hq; exact ⟨h1, v, h2, h3, HBB.out.trans (Below.mono h4 (by have := HBB.out.size; omega))⟩
    | panic c => obtain ⟨h1, h3, h4⟩ := hq; exact absurd h3 (by simp)
    | outgrown => obtain ⟨h3, h4⟩ := hq; exact absurd h3 (by simp)
    | _ => exact hq.elim
end Go.Proofs.YtkfejgdeknemaaaGreatDoor.Fw
end
