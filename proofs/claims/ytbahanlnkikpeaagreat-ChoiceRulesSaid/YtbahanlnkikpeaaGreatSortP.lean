import Derived.Test.YtbahanlnkikpeaaGreatSortF
namespace Go.Proofs.YtbahanlnkikpeaaGreat
open Go.RowKit Go.Proofs.YtbahanlnkikpeaaGreatW.PrintWords Go.Proofs.YtbahanlnkikpeaaGreatW.PrintLast
set_option linter.unusedVariables false
set_option linter.unusedSimpArgs false
open Go.RowKit Go.Maps
set_option maxRecDepth 100000
set_option maxHeartbeats 2000000
/-! slices.SortFunc at few elements. -/
theorem Len_same (w : World) (x : Int) (h0 : 0 ≤ x) (h1 : x ≤ 18446744073709551615) : Calls Tryz.prog 106 #[.int .u64 x] w (fun e w' => e = .returned (.int .i64 (Lib.bitLen x.toNat)) ∧ w' = w) :=
  calls_of_every_depth (fun D => AnySM.bits_LenIn (ρ := Tryz.sortA_ren) { Tryz.sortA with } D x w h0 h1)
theorem pdq_calls (w : World) (B g c : Nat) (m : Int) (xs : List Int) (h : ORow w B g c xs) (hl : xs.length ≤ 12) (hr : ∀ x ∈ xs, -1000000 < x ∧ x < 1000000) (hB : B ≤ w.heap.size) :
    Calls Tryz.prog 131 #[.slice (some ⟨g, 0, none⟩) xs.length c, .int .i64 0, .int .i64 xs.length, .int .i64 m, .func (.func 108) #[] #[]] w (fun e w' => e = .returned (.tuple #[]) ∧ ORow w' B g c (isortI xs) ∧ Below B w w') := by
  have HI := Aside0.mk (insertion_calls w B g c xs h hl hr hB)
  clear h hr hB
  have hl2 : (xs.length : Int) ≤ 12 := by omega
  go_enter Tryz.func131, Tryz.ntmps131
  go_wp2_with fail
  refine wp_loop_rounds 1 ?_
  rw [rounds_succ]
  go_wp2_with fail
  refine HI.out.mono ?_
  rintro e w1 ⟨rfl, hO, hb⟩
  go_wp2_with fail
  (try simp only [Exit.inBlock, Exit.then]); refine bodyPost_ret (results_none rfl _ _ _) rfl ?_
  exact ⟨rfl, hO, hb⟩
theorem SortFunc_calls (w : World) (B g c : Nat) (xs : List Int) (h : ORow w B g c xs) (hl : xs.length ≤ 12) (hr : ∀ x ∈ xs, -1000000 < x ∧ x < 1000000) (hB : B ≤ w.heap.size) :
    Calls Tryz.prog 107 #[.slice (some ⟨g, 0, none⟩) xs.length c, .func (.func 108) #[] #[]] w (fun e w' => e = .returned (.tuple #[]) ∧ ORow w' B g c (isortI xs) ∧ Below B w w') := by
  have HI := Aside0.mk (fun m => pdq_calls w B g c m xs h hl hr hB)
  clear h hr hB
  have hl2 : (xs.length : Int) ≤ 12 := by omega
  go_enter Tryz.func107, Tryz.ntmps107
  go_wp2_with fail
  refine (Len_same _ _ (by omega) (by omega)).mono ?_
  rintro e w1 ⟨rfl, rfl⟩
  go_wp2_with fail
  refine (HI.out _).mono ?_
  rintro e w1 ⟨rfl, hO, hb⟩
  go_wp2_with fail
  go_end0
  exact ⟨rfl, hO, hb⟩

end Go.Proofs.YtbahanlnkikpeaaGreat
