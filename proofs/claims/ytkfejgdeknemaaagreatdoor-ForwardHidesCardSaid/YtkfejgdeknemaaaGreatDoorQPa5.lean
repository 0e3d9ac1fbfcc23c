/- Pa: part 6 of the proof that the law's row holds: the printed walk of the program's functions, the plain law, the row. -/
import Derived.RangeFuncNested
import Derived.RangeFuncBound
import Derived.RangeFuncCalls
import Derived.RangeFuncLeaves
import Derived.Shelf.Abstract
import Derived.Below
import Derived.OrdersIn
import Derived.TacticsIn
import Derived.OrdersHeld
import Derived.StillTail
section
namespace Go.Proofs.GRange
set_option linter.unusedVariables false
open Go Go.RowKit
variable {F : Fence} {n : Nat} {P : Program}
def Rec (B : Nat) (J : World → Prop) : Prop := ∀ (W : World) (l : Nat) (r r' : Loop), B ≤ l → J W → W.heap[l]? = some (.loop r) → J (W.putObj l (.loop r'))
def Sees (W W' : World) : Prop := W.heap.size ≤ W'.heap.size ∧ ∀ (k : Nat) (o : Obj), W.heap[k]? = some o → o.isCells = false → o.isWalk = false → W'.heap[k]? = some o
theorem Sees.refl (W : World) : Sees W W := ⟨Nat.le_refl _, fun _ _ h _ _ => h⟩
theorem Sees.trans {A B C : World} (h : Sees A B) (k : Sees B C) : Sees A C := ⟨Nat.le_trans h.1 k.1, fun i o hi ho hw => k.2 i o (h.2 i o hi ho hw) ho hw⟩
theorem Sees.below {W W' : World} (h : Below W.heap.size W W') : Sees W W' := ⟨h.size, fun k o hk _ _ => (h.block k (Array.getElem?_eq_some_iff.1 hk).1).trans hk⟩
theorem Sees.grown {W W' : World} {row : Option Nat} (h : W.grownBy W' row) (hr : ∀ (k : Nat) (o : Obj), row = some k → W.heap[k]? = some o → o.isCells = true ∨ o.isWalk = true) : Sees W W' :=
  ⟨h.size, fun k o hk hc hw => (h.block k (Array.getElem?_eq_some_iff.1 hk).1 (fun e => by rcases hr k o e.symm hk with h1 | h1 <;> simp_all)).trans hk⟩
theorem Sees.setCell (W : World) (a : Addr) (v : Value) : Sees W (W.setCell a v) := by
  refine ⟨by rw [show (W.setCell a v).heap.size = W.heap.size from by simp]; exact Nat.le_refl _, fun k o hk hc hw => ?_⟩
  exact ((KeepsOthers.setCell W a v).from 0).same k o (Nat.zero_le _) hk hc
def roundEnd (I' : World → Prop) (Ix : Code → World → Prop) (W : World) : Exit → Act → World → Prop
  | .normal, _, W' => Sees W W' ∧ I' W'
  | .ret, _, W' => Sees W W' ∧ Ix .ret W'
  | .exit id, _, W' => Sees W W' ∧ Ix (.exit id) W'
  | _, _, _ => False
def Iter {σ : Type} (F : Fence) (n : Nat) (P : Program) (gf : Nat) (lb : Array Value) (encs : σ → Array Value) (I I' : σ → World → Prop) (Start Fin : World → Prop) : Prop :=
  ∀ (l : Nat) (E Jx : World → Prop) (W1 : World), (∀ W W', E W → Sees W W' → E W') →
    (∀ s W, I s W → E W → YieldAt F (n - 1) P l (encs s) W fun e W' => (e = .returned (.bool true) ∧ I' s W' ∧ E W') ∨ (e = .returned (.bool false) ∧ Jx W')) →
    Start W1 → E W1 →
    CallsIn F n P gf (#[.func (.yield l) #[] #[]] ++ lb) W1 fun e W' => (∃ v, e = .returned v) ∧ ((Fin W' ∧ E W') ∨ Jx W')
theorem wpIn_range {σ : Type} {g : Operand} {ps : Array Tmp} {assign body : Code} {Q : Exit → Act → World → Prop} {a : Act} {w : World}
    (hro : F.round = none) (h1 : 1 ≤ n) {gf : Nat} {lb : Array Value} (hg : a.eval g = .func (.func gf) #[] lb) (hFg : F.fn gf) (eg : ∀ args w, (callFunc gf args).run P w = .ok (.enter gf args) w)
    {encs : σ → Array Value} (hps : ∀ x, (encs x).size = ps.size) {I I' : σ → World → Prop} {Start Fin : World → Prop} (hiter : Iter F (n - 1) P gf lb encs I I' Start Fin)
    (Ix : Code → World → Prop) (hI : ∀ s, Rec w.heap.size (I s)) (hI' : ∀ s, Rec w.heap.size (I' s)) (hIx : ∀ c, Rec w.heap.size (Ix c)) (hF : Rec w.heap.size Fin) (a₁ : σ → Act)
    (h0 : ∀ W1, Below w.heap.size w W1 → Start W1)
    (hassign : ∀ (l : Nat) (s : σ) (W : World) (K : Act → World → Prop), K (a₁ s) W →
      assign.wpIn (F.inRound l) (n - 1 - 1) P (Exit.then K (fun _ _ _ => False)) { tmps := (ps.zip (encs s)).foldl (fun t (p, v) => t.setIfInBounds p v) a.tmps, defers := [] } W)
    (hbody : ∀ (l : Nat) (s : σ) (W : World), I s W → w.heap.size < W.heap.size → body.wpIn (F.inRound l) (n - 1 - 1) P (roundEnd (I' s) Ix W) (a₁ s) W)
    (hdone : ∀ (D : Nat) (W : World), w.heap.size ≤ D → Fin W → W.heap[D]? = some (.deferred (some [])) → Q .normal { a with defers := { target := .collected D, args := #[] } :: a.defers } W)
    (hstop : ∀ (D : Nat) (c : Code) (W : World), w.heap.size ≤ D → Ix c W → W.heap[D]? = some (.deferred (some [])) → c.wpIn F n P Q { a with defers := { target := .collected D, args := #[] } :: a.defers } W) :
    (Code.rangeFunc g ps assign body).wpIn F n P Q a w := by
  refine wpIn_rangeFunc fun fn hfn => ?_
  rw [hro]
  obtain ⟨rec, hrec⟩ : ∃ rec : LoopState → Option Code → Loop, rec = fun st pe => { state := st, pending := pe, fn, tmps := a.tmps, params := ps, assign, body, defers := w.heap.size } := ⟨_, rfl⟩
  obtain ⟨D, hD⟩ : ∃ D, D = w.heap.size := ⟨_, rfl⟩
  obtain ⟨l, hl⟩ : ∃ l, l = w.heap.size + 1 := ⟨_, rfl⟩
  obtain ⟨W1, hW1⟩ : ∃ W1, W1 = (w.alloc (.deferred (some []))).alloc (.loop (rec .ready none)) := ⟨_, rfl⟩
  have hbW : Below w.heap.size w W1 := by rw [hW1]; exact ((Below.refl _ w).alloc (Nat.le_refl _) _).alloc (by simp) _
  have hL1 : W1.heap[l]? = some (.loop (rec .ready none)) := by
    have h := World.alloc_heap_new (w.alloc (.deferred (some []))) (.loop (rec .ready none))
    rw [World.size_alloc] at h
    rw [hW1, hl]; exact h
  have hD1 : W1.heap[D]? = some (.deferred (some [])) := by
    rw [hW1, hD]; exact (Below.heap_alloc _ _ _ (by simp)).trans (World.alloc_heap_new w _)
  have hne : D ≠ l := by omega
  have step : ∀ {W : World} {r r' : Loop}, W.heap[l]? = some (.loop r) → W.heap[D]? = some (.deferred (some [])) → (W.putObj l (.loop r')).heap[l]? = some (.loop r') ∧ (W.putObj l (.loop r')).heap[D]? = some (.deferred (some [])) :=
    fun h1 h2 => ⟨World.putObj_heap_same (Array.getElem?_eq_some_iff.1 h1).1, (World.putObj_heap_other hne).trans h2⟩
  refine ⟨l, [{ target := .collected D, args := #[] }], W1, { target := .fn (.func gf) lb, args := #[.func (.yield l) #[] #[]] }, W1, gf, #[.func (.yield l) #[] #[]] ++ lb, W1, ?_, ?_, ?_, ?_, fun _ => h1, ?_⟩
  · rw [hW1, hl, hD, hrec]; exact run_enterLoop_outer _ _ _ _ _
  · simp only [resolve, hg]
    simp [go_sem]
  · intro f' hf'
    simp [Target.leads] at hf'
    subst hf'
    exact hFg
  · simp [invoke, go_sem, eg]
  · refine (hiter l (fun W => W.heap[l]? = some (.loop (rec .ready none)) ∧ W.heap[D]? = some (.deferred (some [])))
      (fun W => ∃ c, Ix c W ∧ W.heap[l]? = some (.loop (rec .done (some c))) ∧ W.heap[D]? = some (.deferred (some []))) W1
      (fun W W' h hs => ⟨hs.2 _ _ h.1 rfl rfl, hs.2 _ _ h.2 rfl rfl⟩) ?_ (h0 W1 hbW) ⟨hL1, hD1⟩).mono ?_
    · rintro s W hi ⟨h3, h4⟩
      have hy := run_yield (P := P) (args := encs s) h3 (by rw [hrec]; exact hps s)
      rw [hrec] at hy
      refine ⟨fn, _, assign, body, hy, roundIn_of_wpIn hfn (hassign _ s W _ ⟨_, run_beginRound h3 (by rw [hrec]), ?_⟩)⟩
      obtain ⟨h5, h6⟩ := step (r' := { rec .ready none with state := .busy }) h3 h4
      refine wpIn_mono (hbody l s _ (hI s _ _ _ _ (by omega) hi h3) (by rw [World.putObj_size]; have := (Array.getElem?_eq_some_iff.1 h4).1; omega)) ?_
      have fin : ∀ (jump : Option Code) (W3 : World), Sees (W.putObj l (.loop { rec .ready none with state := .busy })) W3 →
          ∃ W4, (Instr.endRound l jump).run P W3 = .ok (.bool jump.isNone) W4 ∧ W4 = W3.putObj l (.loop (rec (if jump.isNone then .ready else .done) jump)) ∧ W3.heap[l]? = some (.loop { rec .ready none with state := .busy }) ∧
            W4.heap[l]? = some (.loop (rec (if jump.isNone then .ready else .done) jump)) ∧ W4.heap[D]? = some (.deferred (some [])) := fun jump W3 hs => by
        have h7 := hs.2 _ _ h5 rfl rfl
        have h8 := hs.2 _ _ h6 rfl rfl
        have hr := run_endRound (P := P) jump h7
        refine ⟨_, ?_, rfl, h7, step h7 h8⟩
        rw [hrec] at hr ⊢
        exact hr
      intro e a3 W3 hp
      cases e with
      | normal =>
        obtain ⟨W4, hr, rfl, h7, h8⟩ := fin none W3 hp.1
        exact ⟨_, _, hr, .inl ⟨rfl, hI' s _ _ _ _ (by omega) hp.2 h7, h8⟩⟩
      | ret =>
        obtain ⟨W4, hr, rfl, h7, h8⟩ := fin (some .ret) W3 hp.1
        exact ⟨_, _, hr, .inr ⟨rfl, .ret, hIx _ _ _ _ _ (by omega) hp.2 h7, h8⟩⟩
      | exit id =>
        obtain ⟨W4, hr, rfl, h7, h8⟩ := fin (some (.exit id)) W3 hp.1
        exact ⟨_, _, hr, .inr ⟨rfl, .exit id, hIx _ _ _ _ _ (by omega) hp.2 h7, h8⟩⟩
      | goto t => exact hp.elim
      | panic ch => exact hp.elim
      | outgrown => exact hp.elim
    · rintro e W2 ⟨⟨v, rfl⟩, (⟨hf, h3, h4⟩ | ⟨c, hc, h3, h4⟩)⟩
      · refine ⟨none, _, ?_, hdone D _ (by omega) (hF _ _ _ (rec .exhausted none) (by omega) hf h3) (step h3 h4).2⟩
        have hr := run_endLoop (P := P) h3 (by rw [hrec]; simp)
        rw [hrec] at hr ⊢
        exact hr
      · refine ⟨some c, _, ?_, hstop D c _ (by omega) (hIx c _ _ _ (rec .exhausted (some c)) (by omega) hc h3) (step h3 h4).2⟩
        have hr := run_endLoop (P := P) h3 (by rw [hrec]; simp)
        rw [hrec] at hr ⊢
        exact hr
theorem oper_round {l m : Nat} {o : Oper} {a : Act} {w : World} {K : Act → World → Prop} {Q : Exit → Act → World → Prop} (hd : ∀ c, o.op ≠ .defer c)
    (h : o.wp P a w K Q) : o.wpIn (Fence.wide.inRound l) m P a w K Q := by
  refine ⟨fun _ _ => trivial, ?_⟩
  unfold Oper.wp at h
  rw [show (Fence.wide.inRound l).round = some l from rfl, Oper.semAt_some l a.eval o hd]
  generalize (execOp a.eval o).run P w = r at *
  cases r with
  | ok x w' =>
    cases x with
    | value v => exact h
    | skip => exact h
    | defer d => exact h
    | enter f args => exact ⟨(fun h' => (by cases h')), (callsIn_wide.2 h).inRound l⟩
    | row row args => exact ⟨(fun h' => (by cases h')), fun c cs _ => let ⟨v, w1, r, s⟩ := h c cs; ⟨v, w1, r, stepsIn_wide.2 s⟩⟩
    | round l' f tmps assign body => exact h.elim
    | _ => exact h.elim
  | halt x w' =>
    cases x with
    | panic v => exact h
    | _ => exact h.elim
theorem any_round {l m : Nat} {md : Region.Mode} {ops : Array Oper} {Q : Exit → Act → World → Prop} (hQ : ¬ LetsOut Q) (hd : ∀ (j : Nat) (o : Oper), ops[j]? = some o → ∀ c, o.op ≠ .defer c) :
    ∀ (fuel : Nat) (listed : Array Bool) (a : Act) (w : World), wpAny P md ops Q fuel listed a w → wpAnyIn (Fence.wide.inRound l) m P md ops Q fuel listed a w
  | 0, _, _, _, h => h
  | fuel + 1, listed, a, w, h => ⟨h.1, fun i hi => by
    have h2 := h.2 i hi
    unfold wpOp at h2
    unfold wpOpIn
    cases ho : ops[i]? with
    | none => rw [ho] at h2; exact any_round hQ hd fuel _ _ _ h2
    | some o =>
      rw [ho] at h2
      simp only at h2 ⊢
      split
      · rename_i hw
        rw [if_pos hw] at h2
        exact Oper.wpIn_mono (fun a w h => any_round hQ hd fuel _ a w h) (oper_round (hd i o ho) (h2.resolve_right (fun h => hQ h.2)))
      · rename_i hw
        rw [if_neg hw] at h2
        exact ⟨fun _ _ => trivial, any_round hQ hd fuel _ _ _ h2⟩⟩
def noDefer (ops : Array Oper) : Bool := ops.all fun o => match o.op with
  | .defer _ => false
  | _ => true
theorem noDefer_spec {ops : Array Oper} (h : noDefer ops = true) (j : Nat) (o : Oper) (ho : ops[j]? = some o) (c : Call) : o.op ≠ .defer c := by
  have h1 := Array.all_eq_true_iff_forall_mem.1 h o (Array.mem_of_getElem? ho)
  intro e
  rw [e] at h1
  cases h1
theorem region_round {l m id : Nat} {ops : Array Oper} {Q : Exit → Act → World → Prop} {a : Act} {w : World} (hm : P.follows .mixedOrders = true) (hQ : ¬ LetsOut Q) (hd : noDefer ops = true)
    (h : wpAny P .any ops Q ops.size (Array.replicate ops.size false) a w.drew) : (Code.region id ops true).wpIn (Fence.wide.inRound l) m P Q a w :=
  wpIn_region_any hm (any_round hQ (noDefer_spec hd) _ _ _ _ h)
theorem list_round {l m : Nat} {ops : Array Oper} {Q : Exit → Act → World → Prop} (hQ : ¬ LetsOut Q) :
    ∀ (os : List Oper) (a : Act) (w : World), (∀ o ∈ os, ∀ c, o.op ≠ .defer c) → wpList P ops Q os a w → wpListIn (Fence.wide.inRound l) m P ops Q os a w
  | [], _, _, _, h => h
  | o :: os, a, w, hd, h => by
    unfold wpList at h
    unfold wpListIn
    split
    · rename_i hw
      rw [if_pos hw] at h
      exact Oper.wpIn_mono (fun a w h => list_round hQ os a w (fun o ho => hd o (List.mem_cons_of_mem _ ho)) h) (oper_round (hd o List.mem_cons_self) (h.resolve_right (fun h => hQ h.2)))
    · rename_i hw
      rw [if_neg hw] at h
      exact ⟨fun _ _ => trivial, list_round hQ os _ _ (fun o ho => hd o (List.mem_cons_of_mem _ ho)) h⟩
theorem region_round_list {l m id : Nat} {os : List Oper} {Q : Exit → Act → World → Prop} {a : Act} {w : World} (hQ : ¬ LetsOut Q) (hd : noDefer os.toArray = true)
    (h : wpList P os.toArray Q os a w) : (Code.region id os.toArray false).wpIn (Fence.wide.inRound l) m P Q a w :=
  wpIn_region_lit (list_round hQ os a w (fun o ho c => by
    obtain ⟨j, hj⟩ := List.getElem?_of_mem ho
    exact noDefer_spec hd j o (by simpa using hj) c) h)
theorem region_round_tail {lo m id : Nat} {Q : Exit → Act → World → Prop} {a : Act} {w : World} {l : List Oper} (n : Nat) (hm : P.follows .mixedOrders = true) (hQ : ¬ LetsOut Q) (hd : noDefer l.toArray = true) (hB : Region.lexTailB .any l.toArray n = true)
    (h : wpStill P l.toArray { w with drawn := w.drawn + 1 } (fun a' => wpList P l.toArray Q (l.drop n) a' { w with drawn := w.drawn + 1 }) (l.take n) a) : (Code.region id l.toArray true).wpIn (Fence.wide.inRound lo) m P Q a w := by
  simp only [Region.lexTailB, Bool.and_eq_true, decide_eq_true_eq] at hB
  obtain ⟨⟨⟨⟨hsel, hn⟩, hs⟩, hc⟩, hlex⟩ := hB
  have hn' : n < l.length := by simpa using hn
  have htl : (l.take n).length = n := by simp; omega
  have hdl : (l.drop n).length = l.toArray.size - n := by simp
  have inv0 : HeadInv .any l.toArray n (Array.replicate l.toArray.size false) :=
    ⟨by simp, fun j oj _ hl => (by rw [getD_replicate_false] at hl; cases hl), fun t _ ht => getD_in (by simpa using ht) (getD_replicate_false _ _)⟩
  have H := wpAnyL_lex (md := .any) (g := l.toArray.size - n) hsel hs hc hn (l.take n) 0 _ a (fun j hj => by
    have hj' : j < n := by rw [htl] at hj; exact hj
    simp [hj']) (by simpa using htl) inv0 (by rw [htl]; exact hlex) h
  refine region_round hm hQ hd ?_
  have := wpAny_of_head (Q' := Q) (g := l.toArray.size - n) (fun listed a' hL => by
    have := wpAny_of_seq (md := .any) (Q' := Q) (l.drop n) n listed a' { w with drawn := w.drawn + 1 } (fun j => by simp [List.getElem?_drop]) (by rw [hdl]; exact hL.1) hL.2
    rwa [hdl] at this) _ _ _ H
  rw [htl, show n + (l.toArray.size - n) = l.toArray.size by omega] at this
  exact this
end Go.Proofs.GRange
end
