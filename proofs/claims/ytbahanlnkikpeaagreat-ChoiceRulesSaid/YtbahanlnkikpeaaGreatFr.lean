import Derived.Test.YtbahanlnkikpeaaGreatBase
namespace Go.Proofs.YtbahanlnkikpeaaGreat
open Go.RowKit Go.Proofs.YtbahanlnkikpeaaGreatW.PrintWords Go.Proofs.YtbahanlnkikpeaaGreatW.PrintLast
set_option linter.unusedVariables false
set_option linter.unusedSimpArgs false
/-- One block of the call's own stands as it was laid; nothing elder has changed. -/
structure Fr1 (w : World) (t : Nat) (bx : Array Value) (w1 : World) : Prop where
  below : Below w.heap.size w w1
  b0 : w1.heap[w.heap.size]? = some (.cells bx t (0, 0))
structure Fr2 (w : World) (t : Nat) (bx : Array Value) (t' : Nat) (by_ : Array Value) (w1 : World) : Prop where
  below : Below w.heap.size w w1
  b0 : w1.heap[w.heap.size]? = some (.cells bx t (0, 0))
  b1 : w1.heap[w.heap.size + 1]? = some (.cells by_ t' (0, 0))
theorem blk_new1 (w : World) (o o' : Obj) : ((w.alloc o).alloc o').heap[w.heap.size + 1]? = some o' := by have := blk_new (w.alloc o) o'; rwa [World.size_alloc] at this
theorem Fr1.mk0 (w : World) (t : Nat) (bx : Array Value) : Fr1 w t bx (w.alloc (.cells bx t (0, 0))) := ⟨below_alloc (Below.refl _ _) _, blk_new _ _⟩
theorem Fr2.mk0 (w : World) (t : Nat) (bx : Array Value) (t' : Nat) (by_ : Array Value) : Fr2 w t bx t' by_ ((w.alloc (.cells bx t (0, 0))).alloc (.cells by_ t' (0, 0))) :=
  ⟨below_alloc (below_alloc (Below.refl _ _) _) _, blk_alloc (blk_new _ _) _, blk_new1 _ _ _⟩
theorem Fr1.step {w w1 w2 : World} {t : Nat} {bx : Array Value} (h : Fr1 w t bx w1) (hb : Below w1.heap.size w1 w2) : Fr1 w t bx w2 := ⟨below_step h.below hb, blk_below h.b0 hb⟩
theorem Fr2.step {w w1 w2 : World} {t t' : Nat} {bx by_ : Array Value} (h : Fr2 w t bx t' by_ w1) (hb : Below w1.heap.size w1 w2) : Fr2 w t bx t' by_ w2 := ⟨below_step h.below hb, blk_below h.b0 hb, blk_below h.b1 hb⟩
theorem Fr1.alloc {w w1 : World} {t : Nat} {bx : Array Value} (h : Fr1 w t bx w1) (o : Obj) : Fr1 w t bx (w1.alloc o) := h.step (below_alloc (Below.refl _ _) _)
theorem Fr2.alloc {w w1 : World} {t t' : Nat} {bx by_ : Array Value} (h : Fr2 w t bx t' by_ w1) (o : Obj) : Fr2 w t bx t' by_ (w1.alloc o) := h.step (below_alloc (Below.refl _ _) _)
theorem Fr1.drewN {w w1 : World} {t : Nat} {bx : Array Value} (h : Fr1 w t bx w1) (n : Nat) : Fr1 w t bx (w1.drewN n) := h.step (pw_below_drewN (Below.refl _ _) _)
theorem Fr2.drewN {w w1 : World} {t t' : Nat} {bx by_ : Array Value} (h : Fr2 w t bx t' by_ w1) (n : Nat) : Fr2 w t bx t' by_ (w1.drewN n) := h.step (pw_below_drewN (Below.refl _ _) _)
theorem cells1 {W : World} {g t : Nat} {a0 : Value} (h : W.heap[g]? = some (.cells #[a0] t (0, 0))) : W.cell? ⟨g, 0, none⟩ = some a0 := blk_cell h 0
theorem cells2 {W : World} {g t : Nat} {a0 a1 : Value} (h : W.heap[g]? = some (.cells #[a0, a1] t (0, 0))) :
    W.cell? ⟨g, 0, none⟩ = some a0 ∧ W.cell? ⟨g, 1, none⟩ = some a1 := ⟨blk_cell h 0, blk_cell h 1⟩
theorem cells3 {W : World} {g t : Nat} {a0 a1 a2 : Value} (h : W.heap[g]? = some (.cells #[a0, a1, a2] t (0, 0))) :
    W.cell? ⟨g, 0, none⟩ = some a0 ∧ W.cell? ⟨g, 1, none⟩ = some a1 ∧ W.cell? ⟨g, 2, none⟩ = some a2 := ⟨blk_cell h 0, blk_cell h 1, blk_cell h 2⟩
theorem cells7 {W : World} {g t : Nat} {a0 a1 a2 a3 a4 a5 a6 : Value} (h : W.heap[g]? = some (.cells #[a0, a1, a2, a3, a4, a5, a6] t (0, 0))) :
    W.cell? ⟨g, 0, none⟩ = some a0 ∧ W.cell? ⟨g, 1, none⟩ = some a1 ∧ W.cell? ⟨g, 2, none⟩ = some a2 ∧ W.cell? ⟨g, 3, none⟩ = some a3 ∧ W.cell? ⟨g, 4, none⟩ = some a4 ∧ W.cell? ⟨g, 5, none⟩ = some a5 ∧ W.cell? ⟨g, 6, none⟩ = some a6 :=
  ⟨blk_cell h 0, blk_cell h 1, blk_cell h 2, blk_cell h 3, blk_cell h 4, blk_cell h 5, blk_cell h 6⟩
theorem cells8 {W : World} {g t : Nat} {a0 a1 a2 a3 a4 a5 a6 a7 : Value} (h : W.heap[g]? = some (.cells #[a0, a1, a2, a3, a4, a5, a6, a7] t (0, 0))) :
    W.cell? ⟨g, 0, none⟩ = some a0 ∧ W.cell? ⟨g, 1, none⟩ = some a1 ∧ W.cell? ⟨g, 2, none⟩ = some a2 ∧ W.cell? ⟨g, 3, none⟩ = some a3 ∧ W.cell? ⟨g, 4, none⟩ = some a4 ∧ W.cell? ⟨g, 5, none⟩ = some a5 ∧ W.cell? ⟨g, 6, none⟩ = some a6 ∧ W.cell? ⟨g, 7, none⟩ = some a7 :=
  ⟨blk_cell h 0, blk_cell h 1, blk_cell h 2, blk_cell h 3, blk_cell h 4, blk_cell h 5, blk_cell h 6, blk_cell h 7⟩
def RetU8 (w : World) (p : Int → Prop) (e : Ending) (w' : World) : Prop := ∃ n : Int, p n ∧ e = .returned (.int .u8 n) ∧ Below w.heap.size w w'
theorem Fr1.lt {w w1 : World} {t : Nat} {bx : Array Value} (h : Fr1 w t bx w1) : w.heap.size < w1.heap.size := blk_lt h.b0
theorem Fr2.lt {w w1 : World} {t t' : Nat} {bx by_ : Array Value} (h : Fr2 w t bx t' by_ w1) : w.heap.size + 1 < w1.heap.size := blk_lt h.b1
structure Fr3 (w : World) (t : Nat) (bx : Array Value) (t' : Nat) (by_ : Array Value) (t'' : Nat) (bz : Array Value) (w1 : World) : Prop where
  below : Below w.heap.size w w1
  b0 : w1.heap[w.heap.size]? = some (.cells bx t (0, 0))
  b1 : w1.heap[w.heap.size + 1]? = some (.cells by_ t' (0, 0))
  b2 : w1.heap[w.heap.size + 1 + 1]? = some (.cells bz t'' (0, 0))
theorem blk_new2 (w : World) (o o' o'' : Obj) : (((w.alloc o).alloc o').alloc o'').heap[w.heap.size + 1 + 1]? = some o'' := by have := blk_new1 (w.alloc o) o' o''; rwa [World.size_alloc] at this
theorem Fr3.mk0 (w : World) (t : Nat) (bx : Array Value) (t' : Nat) (by_ : Array Value) (t'' : Nat) (bz : Array Value) : Fr3 w t bx t' by_ t'' bz (((w.alloc (.cells bx t (0, 0))).alloc (.cells by_ t' (0, 0))).alloc (.cells bz t'' (0, 0))) :=
  ⟨below_alloc (below_alloc (below_alloc (Below.refl _ _) _) _) _, blk_alloc (blk_alloc (blk_new _ _) _) _, blk_alloc (blk_new1 _ _ _) _, blk_new2 _ _ _ _⟩
theorem Fr3.step {w w1 w2 : World} {t t' t'' : Nat} {bx by_ bz : Array Value} (h : Fr3 w t bx t' by_ t'' bz w1) (hb : Below w1.heap.size w1 w2) : Fr3 w t bx t' by_ t'' bz w2 := ⟨below_step h.below hb, blk_below h.b0 hb, blk_below h.b1 hb, blk_below h.b2 hb⟩
theorem Fr3.alloc {w w1 : World} {t t' t'' : Nat} {bx by_ bz : Array Value} (h : Fr3 w t bx t' by_ t'' bz w1) (o : Obj) : Fr3 w t bx t' by_ t'' bz (w1.alloc o) := h.step (below_alloc (Below.refl _ _) _)
theorem Fr3.drewN {w w1 : World} {t t' t'' : Nat} {bx by_ bz : Array Value} (h : Fr3 w t bx t' by_ t'' bz w1) (n : Nat) : Fr3 w t bx t' by_ t'' bz (w1.drewN n) := h.step (pw_below_drewN (Below.refl _ _) _)
theorem Fr3.lt {w w1 : World} {t t' t'' : Nat} {bx by_ bz : Array Value} (h : Fr3 w t bx t' by_ t'' bz w1) : w.heap.size + 1 + 1 < w1.heap.size := blk_lt h.b2
/-- It returns a problem's code and line. -/
def RetPr (w : World) (p : Int → Prop) (e : Ending) (w' : World) : Prop := ∃ n l : Int, p n ∧ e = .returned (.agg #[.int .u8 n, .int .i64 l]) ∧ Below w.heap.size w w'
theorem Fr2.lts {w w1 : World} {t t' : Nat} {bx by_ : Array Value} (h : Fr2 w t bx t' by_ w1) : w.heap.size < w1.heap.size ∧ w.heap.size + 1 < w1.heap.size := ⟨blk_lt h.b0, blk_lt h.b1⟩
theorem Fr3.lts {w w1 : World} {t t' t'' : Nat} {bx by_ bz : Array Value} (h : Fr3 w t bx t' by_ t'' bz w1) : w.heap.size < w1.heap.size ∧ w.heap.size + 1 < w1.heap.size ∧ w.heap.size + 1 + 1 < w1.heap.size := ⟨blk_lt h.b0, blk_lt h.b1, blk_lt h.b2⟩

end Go.Proofs.YtbahanlnkikpeaaGreat
