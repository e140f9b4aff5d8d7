import Derived.Test.YtbahanlnkikpeaaGreatGroundG
namespace Go.Proofs.YtbahanlnkikpeaaGreat
open Go.RowKit Go.Proofs.YtbahanlnkikpeaaGreatW.PrintWords Go.Proofs.YtbahanlnkikpeaaGreatW.PrintLast
set_option linter.unusedVariables false
set_option linter.unusedSimpArgs false
set_option maxRecDepth 100000
set_option maxHeartbeats 2000000
/-! The table of atoms: five cells, behind a pointer: the map, the row of atoms, the limit, and its flag (the fourth cell is a flag's neighbour). -/
def TableAt (w : World) (g : Nat) (m : Nat) (A : Option Addr) (n c : Nat) (lim : Int) (u v : Value) : Prop :=
  w.heap[g]? = some (.cells #[.map (some m), .slice A n c, .int .i64 lim, u, v] 114 (0, 0))
theorem FullG_same (w : World) (g m : Nat) {A : Option Addr} {n c : Nat} {lim : Int} {u : Value} {b : Bool} (h : TableAt w g m A n c lim u (.bool b)) :
   Calls Tryz.prog 19 #[.pointer (some ⟨g, 0, none⟩)] w (fun e w' => e = .returned (.bool b) ∧ w' = w) := by
  have x4 : w.cell? ⟨g, 4, none⟩ = some (.bool b) := blk_cell h 4
  clear h
  go_enter Tryz.func19, Tryz.ntmps19
  go_wp2_with fail
  go_ret
  exact ⟨rfl, rfl⟩
theorem LenG_same (w : World) (g m : Nat) {A : Option Addr} {n c : Nat} {lim : Int} {u v : Value} (h : TableAt w g m A n c lim u v) :
   Calls Tryz.prog 21 #[.pointer (some ⟨g, 0, none⟩)] w (fun e w' => e = .returned (.int .i64 n) ∧ w' = w) := by
  have x1 : w.cell? ⟨g, 1, none⟩ = some (.slice A n c) := blk_cell h 1
  clear h
  go_enter Tryz.func21, Tryz.ntmps21
  go_wp2_with fail
  go_ret
  exact ⟨rfl, rfl⟩
theorem NewT_calls (w : World) (lim : Int) (h0 : 0 ≤ lim) (h1 : lim ≤ 65536) :
   Calls Tryz.prog 35 #[.int .i64 lim] w (fun e w' => e = .returned (.pointer (some ⟨w.heap.size + 1, 0, none⟩)) ∧ ∃ u, TableAt w' (w.heap.size + 1) w.heap.size none 0 0 lim u (.bool false) ∧ w'.heap[w.heap.size]? = some (.map #[] 0) ∧ Below w.heap.size w w') := by
  have hmk := run_makeMap (P := Tryz.prog) 111 w
  go_enter Tryz.func35, Tryz.ntmps35
  go_wp2_with fail
  go_ret
  have hm : min (max lim 0) 65536 = lim := by omega
  refine ⟨by simp, .int .i64 0, ?_, blk_alloc (blk_new _ _) _, below_alloc (below_alloc (Below.refl _ _) _) _⟩
  rw [hm]
  exact blk_new1 w (.map #[] 0) (.cells #[.map (some w.heap.size), .slice none 0 0, .int .i64 lim, .int .i64 0, .bool false] 114)

end Go.Proofs.YtbahanlnkikpeaaGreat
