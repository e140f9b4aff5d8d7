import Derived.Test.YtbahanlnkikpeaaGreatMapA
namespace Go.Proofs.YtbahanlnkikpeaaGreat
open Go.RowKit Go.Proofs.YtbahanlnkikpeaaGreatW.PrintWords Go.Proofs.YtbahanlnkikpeaaGreatW.PrintLast
set_option linter.unusedVariables false
set_option linter.unusedSimpArgs false
open Go.RowKit Go.Maps Go.Sort Go.Shelf
/-! What a call leaves as it was, told by the kinds of the objects. -/
structure Keep (T : Obj → Prop) (w w1 : World) : Prop where
  size : w.heap.size ≤ w1.heap.size
  obj : ∀ (b : Nat) (o : Obj), w.heap[b]? = some o → ¬ T o → w1.heap[b]? = some o
theorem Keep.refl (T : Obj → Prop) (w : World) : Keep T w w := ⟨Nat.le_refl _, fun _ _ h _ => h⟩
theorem Keep.trans {T : Obj → Prop} {w w1 w2 : World} (h : Keep T w w1) (k : Keep T w1 w2) : Keep T w w2 := ⟨Nat.le_trans h.size k.size, fun b o hb hT => k.obj b o (h.obj b o hb hT) hT⟩
theorem Keep.of_below (T : Obj → Prop) {w w1 : World} (h : Below w.heap.size w w1) : Keep T w w1 := ⟨h.size, fun b o hb _ => (h.block b (blk_lt hb)).trans hb⟩
theorem Keep.mono {T T' : Obj → Prop} {w w1 : World} (h : Keep T w w1) (hT : ∀ o, T o → T' o) : Keep T' w w1 := ⟨h.size, fun b o hb hn => h.obj b o hb (fun ht => hn (hT o ht))⟩
theorem Keep.step {T : Obj → Prop} {w w1 w2 : World} (h : Keep T w w1) (hb : Below w1.heap.size w1 w2) : Keep T w w2 := h.trans (Keep.of_below T hb)
theorem Keep.of_grown {T : Obj → Prop} {w w1 : World} {row : Option Nat} (hg : w.grownBy w1 row) (hr : ∀ k, row = some k → ∃ o, w.heap[k]? = some o ∧ T o) : Keep T w w1 := by
  refine ⟨hg.size, fun b o hb hT => (hg.block b (blk_lt hb) (fun e => ?_)).trans hb⟩
  obtain ⟨o', ho', hT'⟩ := hr b e.symm
  rw [hb] at ho'
  injection ho' with ho'
  exact hT (ho' ▸ hT')
/-- An append to a row of one's own. -/
theorem Keep.of_row {α : Type} {d : Kd α} {e : Nat} {T : Obj → Prop} {w w1 : World} {base : Nat} {ok : Nat → Prop} {v : Value} {xs : List α} (h : d.R e w base ok v xs) (hg : w.grownBy w1 v.ownBlock) (hT : ∀ cs, T (.cells cs e (0, 0))) : Keep T w w1 :=
  Keep.of_grown hg (fun k hk => by obtain ⟨cells, hc⟩ := Kd.R_typed h k hk; exact ⟨_, hc, hT _⟩)
theorem Keep.set {T : Obj → Prop} {w : World} {g t : Nat} {cs : Array Value} (h : w.heap[g]? = some (.cells cs t (0, 0))) (hT : ∀ cs, T (.cells cs t (0, 0))) (j : Nat) (u : Value) : Keep T w (w.setCell ⟨g, j, none⟩ u) := by
  refine ⟨by simp, fun b o hb hn => ?_⟩
  by_cases e : b = g
  · subst e
    rw [h] at hb
    injection hb with hb
    exact absurd (hb ▸ hT cs) hn
  · exact (Below.heap_setCell w ⟨g, j, none⟩ u b e).trans hb
theorem Keep.blk {T : Obj → Prop} {w w1 : World} (h : Keep T w w1) {b : Nat} {o : Obj} (hb : w.heap[b]? = some o) (hT : ¬ T o) : w1.heap[b]? = some o := h.obj b o hb hT
/-- A row stands where the objects of its types are kept. -/
theorem Keep.row {α : Type} {d : Kd α} {e : Nat} {T : Obj → Prop} {w w1 : World} {base : Nat} {ok : Nat → Prop} {v : Value} {xs : List α} (hk : Keep T w w1) (h : d.R e w base ok v xs) (hT : ∀ q, q ∈ e :: d.E → ∀ cs, ¬ T (.cells cs q (0, 0))) : d.R e w1 base ok v xs := by
  refine Kd.R_mono (Kd.R_move (Kd.R_bound h) (fun k hk' => ?_)) (fun _ hk => hk.1)
  obtain ⟨_, _, _, q, hq, cells, hc⟩ := hk'
  rw [hc]
  exact hk.obj k _ hc (hT q hq cells)
theorem Keep.map {T : Obj → Prop} {w w1 : World} {P : Program} {k m n : Nat} {R : Value → Option (DM × List MemPlace)} {D : DM} (hk : Keep T w w1) (h : w.ownsMap P k R m n D) (hT : ∀ es c, ¬ T (.map es c)) : w1.ownsMap P k R m n D := by
  obtain ⟨es, clock, hb, r⟩ := h
  exact ⟨es, clock, hk.obj m _ hb (hT _ _), r⟩
/-! What a table of atoms changes, what a builder of clauses changes. -/
def TabO (o : Obj) : Prop := (∃ es c, o = .map es c) ∨ ∃ cs t, o = .cells cs t (0, 0) ∧ (t = 114 ∨ t = 96)
def BldO (o : Obj) : Prop := ∃ cs t, o = .cells cs t (0, 0) ∧ (t = 109 ∨ t = 35)
theorem TabO.row (cs : Array Value) : TabO (.cells cs 96 (0, 0)) := .inr ⟨cs, _, rfl, .inr rfl⟩
theorem TabO.tab (cs : Array Value) : TabO (.cells cs 114 (0, 0)) := .inr ⟨cs, _, rfl, .inl rfl⟩
theorem TabO.map (es : Array MapEntry) (c : Nat) : TabO (.map es c) := .inl ⟨es, c, rfl⟩
theorem TabO.not {cs : Array Value} {t : Nat} (h1 : t ≠ 114) (h2 : t ≠ 96) : ¬ TabO (.cells cs t (0, 0)) := by
  rintro (⟨_, _, e⟩ | ⟨_, _, e, h⟩)
  · cases e
  · injection e with e1 e2
    subst e2
    exact h.elim h1 h2
theorem BldO.row (cs : Array Value) : BldO (.cells cs 35 (0, 0)) := ⟨cs, _, rfl, .inr rfl⟩
theorem BldO.bld (cs : Array Value) : BldO (.cells cs 109 (0, 0)) := ⟨cs, _, rfl, .inl rfl⟩
theorem BldO.not {cs : Array Value} {t : Nat} (h1 : t ≠ 109) (h2 : t ≠ 35) : ¬ BldO (.cells cs t (0, 0)) := by
  rintro ⟨_, _, e, h⟩
  injection e with e1 e2
  subst e2
  exact h.elim h1 h2
theorem BldO.notmap (es : Array MapEntry) (c : Nat) : ¬ BldO (.map es c) := by rintro ⟨_, _, e, _⟩; cases e

end Go.Proofs.YtbahanlnkikpeaaGreat
