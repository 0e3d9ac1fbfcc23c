/- Pa: part 2 of the proof that the law's row holds: the printed walk of the program's functions, the plain law, the row. -/
import Derived.Maps.RangeWalk
import Derived.Maps.OwnSet
import Derived.Maps.OwnOps
import Derived.Below
import Derived.Deep.Draws
section
namespace Go.Proofs.GMap
open Go Go.Maps Go.RowKit
abbrev tokR : Value → Option (DataW Value × List MemPlace) := fun v => some (.held v, [])
def Says (P : Program) (k : TypeId) (D : DataW Value) (F : Value → Option Value) : Prop :=
  IsMap D ∧ ∀ key kl, keyOf P k key = some kl → Maps.has D kl = (F key).isSome ∧ ∀ z, D.atKey kl (.held z) = .held ((F key).getD z)
def MapV (P : Program) (k : TypeId) (w : World) (b n : Nat) (F : Value → Option Value) : Prop :=
  ∃ D : DataW Value, w.ownsMap P k tokR b n D ∧ Says P k D F
open Classical in
noncomputable def upd (F : Value → Option Value) (key val : Value) : Value → Option Value := fun x => if x = key then some val else F x
theorem upd_same (F : Value → Option Value) (key val : Value) : upd F key val key = some val := by simp [upd]
theorem upd_other (F : Value → Option Value) {key x : Value} (val : Value) (h : x ≠ key) : upd F key val x = F x := by simp [upd, h]
variable {P : Program} {k : TypeId} {w : World} {b n : Nat} {F : Value → Option Value}
theorem says_empty (P : Program) (k : TypeId) : Says P k (.map []) (fun _ => none) :=
  ⟨isMap_empty, fun _ _ _ => ⟨rfl, fun _ => rfl⟩⟩
theorem Says.put {D : DataW Value} (h : Says P k D F) (K : Keyed P k) {key : Value} {kl : Lit} (hkey : keyOf P k key = some kl) (val : Value) :
    Says P k (D.put kl (.held val)) (upd F key val) := by
  obtain ⟨hM, h⟩ := h
  refine ⟨hM.put _ _, fun x xl hx => ?_⟩
  by_cases e : x = key
  · subst e
    obtain rfl : kl = xl := Option.some.inj (hkey.symm.trans hx)
    rw [upd_same]
    exact ⟨has_put_same hM (K.key hkey) _, fun z => atKey_put_same hM (K.key hkey) _ _⟩
  · have hne : xl ≠ kl := fun he => e (K.inj hx (he ▸ hkey))
    rw [upd_other _ _ e, has_put_other hne]
    refine ⟨(h x xl hx).1, fun z => ?_⟩
    rw [atKey_put_other hne]
    exact (h x xl hx).2 z
theorem Says.congr {D : DataW Value} {F' : Value → Option Value} (h : Says P k D F) (hF : ∀ key kl, keyOf P k key = some kl → F' key = F key) : Says P k D F' :=
  ⟨h.1, fun key kl hk => by rw [hF key kl hk]; exact h.2 key kl hk⟩
theorem MapV.made (P : Program) (k : TypeId) (w : World) : MapV P k (w.alloc (.map #[] 0)) w.heap.size 0 (fun _ => none) :=
  ⟨_, World.ownsMap_made w P k tokR, says_empty P k⟩
theorem MapV.mono (h : MapV P k w b n F) {n' : Nat} (hn : n ≤ n') : MapV P k w b n' F := let ⟨D, h, s⟩ := h; ⟨D, h.mono hn, s⟩
theorem MapV.lt (h : MapV P k w b n F) : b < w.heap.size := let ⟨_, h, _⟩ := h; h.lt
theorem MapV.congr {F' : Value → Option Value} (h : MapV P k w b n F) (hF : ∀ key kl, keyOf P k key = some kl → F' key = F key) : MapV P k w b n F' :=
  let ⟨D, h, s⟩ := h; ⟨D, h, s.congr hF⟩
theorem MapV.kept {w' : World} {row : Option Nat} (h : MapV P k w b n F) (hg : w.grownBy w' row) (hne : some b ≠ row) : MapV P k w' b n F :=
  let ⟨D, h, s⟩ := h; ⟨D, h.kept hg hne, s⟩
theorem MapV.alloc (h : MapV P k w b n F) (o : Obj) : MapV P k (w.alloc o) b n F := let ⟨D, h, s⟩ := h; ⟨D, h.alloc o, s⟩
theorem MapV.drew (h : MapV P k w b n F) : MapV P k w.drew b n F := let ⟨D, h, s⟩ := h; ⟨D, h.drew, s⟩
theorem MapV.drewN (h : MapV P k w b n F) (m : Nat) : MapV P k (w.drewN m) b n F := let ⟨D, h, s⟩ := h; ⟨D, h, s⟩
theorem MapV.setCell (h : MapV P k w b n F) {a : Addr} (ha : b ≠ a.block) (u : Value) : MapV P k (w.setCell a u) b n F := let ⟨D, h, s⟩ := h; ⟨D, h.setCell ha u, s⟩
theorem MapV.below {w' : World} (h : MapV P k w b n F) (hb : Below w.heap.size w w') : MapV P k w' b n F :=
  h.kept (row := none) ⟨hb.os, hb.tape, hb.output, hb.size, fun i hi _ => hb.block i hi⟩ (by simp)
theorem MapV.look {t e : TypeId} (h : MapV P k w b n F) (K : Keyed P k) (ht : P.underlying t = some (.map k e)) {z : Value} (hz : (zeroValue e).run P w = .ok z w)
    {key : Value} {kl : Lit} (hkey : keyOf P k key = some kl) : (Instr.lookup t (.map (some b)) key false).run P w = .ok ((F key).getD z) w := by
  obtain ⟨D, h, hM, s⟩ := h
  obtain ⟨v, ps, hrun, hv⟩ := h.lookup K ht hz (R := tokR) rfl hkey
  rw [(s key kl hkey).2] at hv
  cases hv
  exact hrun
theorem MapV.look_ok {t e : TypeId} (h : MapV P k w b n F) (K : Keyed P k) (ht : P.underlying t = some (.map k e)) {z : Value} (hz : (zeroValue e).run P w = .ok z w)
    {key : Value} {kl : Lit} (hkey : keyOf P k key = some kl) : (Instr.lookup t (.map (some b)) key true).run P w = .ok (.tuple #[(F key).getD z, .bool (F key).isSome]) w := by
  obtain ⟨D, h, hM, s⟩ := h
  obtain ⟨v, ps, hrun, hv⟩ := h.look_ok K ht hz (R := tokR) rfl hkey
  rw [(s key kl hkey).2] at hv
  cases hv
  rw [(s key kl hkey).1] at hrun
  exact hrun
theorem MapV.update {t e : TypeId} (h : MapV P k w b n F) (K : Keyed P k) (ht : P.underlying t = some (.map k e)) (hn : n < maxLen) {key : Value} (val : Value) {kl : Lit}
    (hkey : keyOf P k key = some kl) : ∃ w', (Instr.mapUpdate t (.map (some b)) key val).run P w = .ok () w' ∧ MapV P k w' b (n + 1) (upd F key val) ∧ w.grownBy w' (some b) := by
  obtain ⟨D, h, s⟩ := h
  obtain ⟨w', hrun, h1, h2⟩ := h.update K ht hn (val := val) (d := .held val) (ps := []) hkey rfl
  exact ⟨w', hrun, ⟨_, h1, s.put K hkey val⟩, h2⟩
section
variable {ops : Array Oper} {rest : List Oper} {o : Oper} {a : Act} {Q : Exit → Act → World → Prop}
theorem wpList_look_ok (w : World) (hg : o.guard = none) (m x : Operand) (t : TypeId) (hop : o.op = Op.lookup t m x true) (k e : TypeId) (K : Keyed P k) (ht : P.underlying t = some (.map k e))
    {z : Value} (hz : (zeroValue e).run P w = .ok z w) (b n : Nat) (F : Value → Option Value) (hm : a.eval m = .map (some b)) (h : MapV P k w b n F) (key : Value) (kl : Lit) (hx : a.eval x = key) (hkey : keyOf P k key = some kl)
    (hK : wpList P ops Q rest (a.put o.dst (.tuple #[(F key).getD z, .bool (F key).isSome])) w) : wpList P ops Q (o :: rest) a w := by
  refine wpList_plain hg fun K' hK' => ?_
  have hrun := h.look_ok K ht hz hkey
  unfold Oper.wp
  simp [execOp, hop, hm, hx, hrun, Result.andThen]
  exact hK' _ _ hK
theorem wpList_look (w : World) (hg : o.guard = none) (m x : Operand) (t : TypeId) (hop : o.op = Op.lookup t m x false) (k e : TypeId) (K : Keyed P k) (ht : P.underlying t = some (.map k e))
    {z : Value} (hz : (zeroValue e).run P w = .ok z w) (b n : Nat) (F : Value → Option Value) (hm : a.eval m = .map (some b)) (h : MapV P k w b n F) (key : Value) (kl : Lit) (hx : a.eval x = key) (hkey : keyOf P k key = some kl)
    (hK : wpList P ops Q rest (a.put o.dst ((F key).getD z)) w) : wpList P ops Q (o :: rest) a w := by
  refine wpList_plain hg fun K' hK' => ?_
  have hrun := h.look K ht hz hkey
  unfold Oper.wp
  simp [execOp, hop, hm, hx, hrun, Result.andThen]
  exact hK' _ _ hK
theorem wpList_update (w : World) (hg : o.guard = none) (m x v : Operand) (t : TypeId) (hop : o.op = Op.mapUpdate t m x v) (k e : TypeId) (K : Keyed P k) (ht : P.underlying t = some (.map k e))
    (b n : Nat) (F : Value → Option Value) (hm : a.eval m = .map (some b)) (h : MapV P k w b n F) (hn : n < maxLen) (key val : Value) (kl : Lit) (hx : a.eval x = key) (hv : a.eval v = val) (hkey : keyOf P k key = some kl)
    (hK : ∀ w', MapV P k w' b (n + 1) (upd F key val) → w.grownBy w' (some b) → wpList P ops Q rest (a.put o.dst undef) w') : wpList P ops Q (o :: rest) a w := by
  refine wpList_plain hg fun K' hK' => ?_
  obtain ⟨w', hrun, h1, h2⟩ := h.update K ht hn val hkey
  unfold Oper.wp
  simp [execOp, hop, hm, hx, hv, hrun, Result.andThen]
  exact hK' _ _ (hK w' h1 h2)
end
def RangeV (P : Program) (k : TypeId) (w : World) (b r n : Nat) (F : Value → Option Value) (L : Value → Bool) (cnt : Nat) : Prop :=
  ∃ (D : DataW Value) (left : Lit → Bool), w.ranges P k tokR b r n D left cnt ∧ Says P k D F ∧ ∀ key kl, keyOf P k key = some kl → left kl = L key
theorem RangeV.map {r cnt : Nat} {L : Value → Bool} (h : RangeV P k w b r n F L cnt) : MapV P k w b n F := let ⟨D, _, h, s, _⟩ := h; ⟨D, h.owns, s⟩
theorem RangeV.left_eq {r cnt : Nat} {L : Value → Bool} (h : RangeV P k w b r n F L cnt) : w.rangeLeft b r = cnt := let ⟨_, _, h, _, _⟩ := h; h.left_eq
theorem RangeV.lt {r cnt : Nat} {L : Value → Bool} (h : RangeV P k w b r n F L cnt) : r < w.heap.size := let ⟨_, _, h, _, _⟩ := h; h.lt
theorem RangeV.kept {w' : World} {row : Option Nat} {r cnt : Nat} {L : Value → Bool} (h : RangeV P k w b r n F L cnt) (hg : w.grownBy w' row) (hb : some b ≠ row) (hr : some r ≠ row) : RangeV P k w' b r n F L cnt :=
  let ⟨D, l, h, s, q⟩ := h; ⟨D, l, h.kept hg hb hr, s, q⟩
theorem RangeV.below {w' : World} {r cnt : Nat} {L : Value → Bool} (h : RangeV P k w b r n F L cnt) (hb : Below w.heap.size w w') : RangeV P k w' b r n F L cnt :=
  h.kept (row := none) ⟨hb.os, hb.tape, hb.output, hb.size, fun i hi _ => hb.block i hi⟩ (by simp) (by simp)
section
variable {ops : Array Oper} {rest : List Oper} {o : Oper} {a : Act} {Q : Exit → Act → World → Prop}
theorem wpList_range (w : World) (hg : o.guard = none) (m : Operand) (t : TypeId) (hop : o.op = Op.range t m) (k e : TypeId) (K : Keyed P k) (ht : P.underlying t = some (.map k e)) (b n : Nat) (F : Value → Option Value)
    (hm : a.eval m = .map (some b)) (h : MapV P k w b n F)
    (hK : ∀ w' cnt, RangeV P k w' b w.heap.size n F (fun x => (F x).isSome) cnt → w.grownBy w' none → w'.heap.size = w.heap.size + 1 → wpList P ops Q rest (a.put o.dst (.pointer (some ⟨w.heap.size, 0, none⟩))) w') :
    wpList P ops Q (o :: rest) a w := by
  obtain ⟨D, h, s⟩ := h
  exact wpList_range_own w hg m t hop k e K ht tokR b n D hm h fun w' h1 h2 h3 => hK w' _ ⟨D, _, h1, s, fun key kl hk => (s.2 key kl hk).1⟩ h2 h3
open Classical in
theorem wpList_next (w : World) (hg : o.guard = none) (it : Operand) (hop : o.op = Op.next it false) (k : TypeId) (K : Keyed P k) {α : Type} (mkK : α → Value) (invK : ∀ key kl, keyOf P k key = some kl → ∃ x, key = mkK x)
    (b r n : Nat) (F : Value → Option Value) (L : Value → Bool) (cnt : Nat) (hit : a.eval it = .pointer (some ⟨r, 0, none⟩)) (h : RangeV P k w b r n F L cnt)
    (hDone : (∀ key kl, keyOf P k key = some kl → L key = false) → wpList P ops Q rest (a.put o.dst (.tuple #[.bool false])) w)
    (hMore : ∀ (x : α) (kl : Lit) (v : Value) (w' : World) (cnt' : Nat), keyOf P k (mkK x) = some kl → L (mkK x) = true → F (mkK x) = some v → RangeV P k w' b r n F (fun z => L z && !decide (z = mkK x)) cnt' → cnt' < cnt →
      w.grownBy w' (some r) → w'.heap.size = w.heap.size → (Instr.entry (.pointer (some ⟨r, 0, none⟩))).run P w' = .ok (.tuple #[mkK x, v]) w' → wpList P ops Q rest (a.put o.dst (.tuple #[.bool true, mkK x, v])) w') :
    wpList P ops Q (o :: rest) a w := by
  obtain ⟨D, left, h, s, q⟩ := h
  refine wpList_next_ranges w hg it hop k K tokR mkK (fun v : Value => v) invK (fun v _ _ => ⟨v, rfl⟩) b r n D left cnt hit h (fun _ hl => hDone fun key kl hk => by rw [← q key kl hk]; exact hl kl) ?_
  intro x v kl y w' cnt' hkey hl hv hat hr hlt hg' hsz hen
  cases hv
  have hF : F (mkK x) = some v := by
    have h1 := (s.2 _ kl hkey).2 v
    have h2 := (s.2 _ kl hkey).1
    have h3 : Maps.has D kl = true := has_true_of_atKey hat
    rw [h3] at h2
    obtain ⟨u, hu⟩ := Option.isSome_iff_exists.1 h2.symm
    have h4 := hat (.held v)
    rw [h1, hu] at h4
    simp at h4
    rw [hu, h4]
  refine hMore x kl v w' cnt' hkey (by rw [← q _ kl hkey]; exact hl) hF ⟨D, _, hr, s, fun key kl' hk => ?_⟩ hlt hg' hsz hen
  rw [q key kl' hk]
  congr 1
  by_cases e : key = mkK x
  · subst e
    obtain rfl : kl = kl' := Option.some.inj (hkey.symm.trans hk)
    have := K.key hkey
    simp [WideAt.sameKey_self this]
  · have hne : kl' ≠ kl := fun he => e (K.inj hk (he ▸ hkey))
    simp [e, sameKey_ne hne]
end
end Go.Proofs.GMap
end
