import Derived.Test.YtbahanlnkikpeaaGreatTabW
namespace Go.Proofs.YtbahanlnkikpeaaGreat
open Go.RowKit Go.Proofs.YtbahanlnkikpeaaGreatW.PrintWords Go.Proofs.YtbahanlnkikpeaaGreatW.PrintLast
set_option linter.unusedVariables false
set_option linter.unusedSimpArgs false
section
open Go.RowKit Go.Maps
set_option maxRecDepth 100000
set_option maxHeartbeats 2000000
/-! A clause's form: the sort at few elements. -/
theorem abs_same (w : World) (x : Int) (h : -1000000 < x ∧ x < 1000000) : Calls Tryz.prog 111 #[.int .i64 x] w (fun e w' => e = .returned (.int .i64 (absI x)) ∧ w' = w) := by
  obtain ⟨h1, h2⟩ := h
  go_enter Tryz.func111, Tryz.ntmps111
  go_wp2_with fail
  go_ret
  exact ⟨ret_int (by unfold absI; omega), rfl⟩
theorem wrong_same (w : World) (x : Int) (h : x ≠ 0 ∧ -1000000 < x ∧ x < 1000000) : Calls Tryz.prog 89 #[.int .i64 x] w (fun e w' => e = .returned (.bool false) ∧ w' = w) := by
  obtain ⟨h0, h1, h2⟩ := h
  go_enter Tryz.func89, Tryz.ntmps89
  go_wp2_with fail
  go_ret
  exact ⟨ret_bool (by simp; omega), rfl⟩
theorem IndexW_same (w : World) (A : Option Addr) (c : Nat) (xs : List Int) (h : Kd.C (Kd.int .i64) w A xs.length xs) (hl : ∀ x ∈ xs, x ≠ 0 ∧ -1000000 < x ∧ x < 1000000) (hb : xs.length ≤ 12) :
   Calls Tryz.prog 113 #[.slice A xs.length c, .func (.func 89) #[] #[]] w (fun e w' => e = .returned (.int .i64 (-1)) ∧ w' = w) := by
  have H := Aside0.mk h
  have HL := Aside0.mk hl
  clear h hl
  go_enter Tryz.func113, Tryz.ntmps113
  go_wp2_with fail
  go_loop [8] (fun i => ∃ k : Nat, k ≤ xs.length ∧ i = .int .i64 k) (fun i => xs.length - (intOf i).toNat)
  case atStart => exact ⟨0, by omega, rfl⟩
  case round =>
    obtain ⟨k, hk, rfl⟩ := hrel
    by_cases hlt : k < xs.length
    · obtain ⟨ad, e, y⟩ := at_i64 H.out k hlt
      subst e
      go_wp2_with fail
      refine (wrong_same _ _ (HL.out _ (List.getElem_mem hlt))).mono ?_
      rintro e w1 ⟨rfl, rfl⟩
      go_wp2_with fail
      go_round
      case rel => exact ⟨k + 1, by omega, by go_num⟩
      case measure => simp [intOf] <;> omega
    · go_wp2_with fail
      go_ret
      exact ⟨rfl, rfl⟩
theorem ContainsW_same (w : World) (A : Option Addr) (c : Nat) (xs : List Int) (h : Kd.C (Kd.int .i64) w A xs.length xs) (hl : ∀ x ∈ xs, x ≠ 0 ∧ -1000000 < x ∧ x < 1000000) (hb : xs.length ≤ 12) :
   Calls Tryz.prog 88 #[.slice A xs.length c, .func (.func 89) #[] #[]] w (fun e w' => e = .returned (.bool false) ∧ w' = w) := by
  have HI := Aside0.mk (IndexW_same w A c xs h hl hb)
  clear h hl
  go_enter Tryz.func88, Tryz.ntmps88
  go_wp2_with fail
  refine HI.out.mono ?_
  rintro e w1 ⟨rfl, rfl⟩
  go_wp2_with fail
  go_ret
  exact ⟨rfl, rfl⟩
theorem isNaN_same (w : World) (x : Int) : Calls Tryz.prog 132 #[.int .i64 x] w (fun e w' => e = .returned (.bool false) ∧ w' = w) := by
  go_enter Tryz.func132, Tryz.ntmps132
  go_wp2_with fail
  go_ret
  exact ⟨ret_bool (by simp), rfl⟩
def cmpI (x y : Int) : Int := if x < y then -1 else if y < x then 1 else 0
theorem Compare_same (w : World) (x y : Int) : Calls Tryz.prog 110 #[.int .i64 x, .int .i64 y] w (fun e w' => e = .returned (.int .i64 (cmpI x y)) ∧ w' = w) := by
  go_enter Tryz.func110, Tryz.ntmps110
  go_wp2_with fail
  refine (isNaN_same _ _).mono ?_
  rintro e w1 ⟨rfl, rfl⟩
  go_wp2_with fail
  refine (isNaN_same _ _).mono ?_
  rintro e w1 ⟨rfl, rfl⟩
  by_cases h1 : x < y
  · go_wp2_with fail
    go_ret
    exact ⟨ret_int (by simp [cmpI, h1]), rfl⟩
  · by_cases h2 : y < x
    · have h1' : y ≤ x := by omega
      go_wp2_with fail
      go_ret
      exact ⟨ret_int (by simp [cmpI, h1, h2]), rfl⟩
    · have h1' : y ≤ x := by omega
      have h2' : x ≤ y := by omega
      go_wp2_with fail
      go_ret
      exact ⟨ret_int (by unfold cmpI; rw [if_neg (by omega), if_neg (by omega)]), rfl⟩
theorem cmpI_cases (a b : Int) : cmpI a b = -1 ∧ a < b ∨ cmpI a b = 1 ∧ b < a ∨ cmpI a b = 0 ∧ a = b := by
  unfold cmpI
  by_cases h : a < b
  · rw [if_pos h]; omega
  · rw [if_neg h]
    by_cases h' : b < a
    · rw [if_pos h']; omega
    · rw [if_neg h']; omega
def orI (x y : Int) : Int := if x ≠ 0 then x else y
theorem cmpI_or (a b x y : Int) : orI (cmpI a b) (cmpI x y) < 0 ↔ (a < b ∨ (a = b ∧ x < y)) := by
  have h1 := cmpI_cases a b
  have h2 := cmpI_cases x y
  unfold orI
  rcases h1 with ⟨h1, _⟩ | ⟨h1, _⟩ | ⟨h1, _⟩ <;> rcases h2 with ⟨h2, _⟩ | ⟨h2, _⟩ | ⟨h2, _⟩ <;> rw [h1] <;> simp [h2] <;> omega
theorem Or_same (w : World) (g : Nat) (x y : Int) (h : w.heap[g]? = some (.cells #[.int .i64 x, .int .i64 y] 3 (0, 0))) :
    Calls Tryz.prog 109 #[.slice (some ⟨g, 0, none⟩) 2 2] w (fun e w' => e = .returned (.int .i64 (orI x y)) ∧ w' = w) := by
  have H := Aside0.mk h
  have x0 : w.cell? ⟨g, 0, none⟩ = some (.int .i64 x) := blk_cell h 0
  have x1 : w.cell? ⟨g, 1, none⟩ = some (.int .i64 y) := blk_cell h 1
  clear h
  go_enter Tryz.func109, Tryz.ntmps109
  go_wp2_with fail
  go_loop [8] (fun i => ∃ k : Nat, k ≤ 2 ∧ i = .int .i64 k ∧ (1 ≤ k → x = 0) ∧ (2 ≤ k → y = 0)) (fun i => 2 - (intOf i).toNat)
  case atStart => exact ⟨0, by omega, rfl, fun h => absurd h (by decide), fun h => absurd h (by decide)⟩
  case round =>
    obtain ⟨k, hk, rfl, h1, h2⟩ := hrel
    have hc : k = 0 ∨ k = 1 ∨ k = 2 := by omega
    rcases hc with rfl | rfl | rfl
    · by_cases hx : x = 0
      · subst hx
        go_wp2_with fail
        go_round
        case rel => exact ⟨1, by omega, by go_num, by simp, by simp⟩
        case measure => simp [intOf]
      · go_wp2_with fail
        go_ret
        exact ⟨ret_int (by simp [orI, hx]), rfl⟩
    · have hx := h1 (by omega)
      subst hx
      by_cases hy : y = 0
      · subst hy
        go_wp2_with fail
        go_round
        case rel => exact ⟨2, by omega, by go_num, by simp, by simp⟩
        case measure => simp [intOf]
      · go_wp2_with fail
        go_ret
        exact ⟨ret_int (by simp [orI]), rfl⟩
    · have hx := h1 (by omega)
      have hy := h2 (by omega)
      subst hx
      subst hy
      go_wp2_with fail
      go_ret
      exact ⟨ret_int (by simp [orI]), rfl⟩
theorem Less_calls (w : World) (x y : Int) (hx : -1000000 < x ∧ x < 1000000) (hy : -1000000 < y ∧ y < 1000000) :
    Calls Tryz.prog 108 #[.int .i64 x, .int .i64 y] w (RetInt w (fun n => n < 0 ↔ litLt x y = true)) := by
  go_enter Tryz.func108, Tryz.ntmps108
  go_wp2_with fail
  refine (abs_same _ _ hx).mono ?_
  rintro e w1 ⟨rfl, rfl⟩
  go_wp2_with fail
  refine (abs_same _ _ hy).mono ?_
  rintro e w1 ⟨rfl, rfl⟩
  go_wp2_with fail
  refine (Compare_same _ _ _).mono ?_
  rintro e w1 ⟨rfl, rfl⟩
  go_wp2_with fail
  refine (Compare_same _ _ _).mono ?_
  rintro e w1 ⟨rfl, rfl⟩
  have hN := blk_new w1 (.cells #[.int .i64 (cmpI (absI x) (absI y)), .int .i64 (cmpI x y)] 3 (0, 0))
  go_wp2_with fail
  refine (Or_same _ _ _ _ hN).mono ?_
  rintro e w2 ⟨rfl, rfl⟩
  go_wp2_with fail
  go_ret
  refine ⟨_, ?_, rfl, below_alloc (Below.refl _ _) _⟩
  show orI _ _ < 0 ↔ _
  rw [cmpI_or]
  unfold litLt
  simp only [Bool.or_eq_true, Bool.and_eq_true, decide_eq_true_eq]
/-- A row of ints that the call may write. -/
def ORow (w : World) (B g c : Nat) (xs : List Int) : Prop := w.ownsRow B 3 1 (.slice (some ⟨g, 0, none⟩) xs.length c) xs.length (nums .i64 xs)
theorem ORow.below {w w1 : World} {B g c : Nat} {xs : List Int} (h : ORow w B g c xs) (hb : Below w.heap.size w w1) : ORow w1 B g c xs := pw_own_below h hb
theorem ORow.at {w : World} {B g c : Nat} {xs : List Int} (h : ORow w B g c xs) (k : Nat) (hk : k < xs.length) : w.cell? ⟨g, k, none⟩ = some (.int .i64 xs[k]) ∧ w.frozen? ⟨g, k, none⟩ = false := by
  have := own_at h k (by omega) (by omega)
  rw [show ((k : Int)).toNat = k from rfl] at this
  unfold rd at this
  rw [show ((k : Int)).toNat = k from rfl, getD_at _ _ hk] at this
  exact this
theorem ORow.store {w : World} {B g c : Nat} {xs : List Int} (h : ORow w B g c xs) (k : Nat) (x : Int) : ORow (w.setCell ⟨g, k, none⟩ (.int .i64 x)) B g c (xs.set k x) := by
  unfold ORow
  rw [List.length_set]
  exact (own_store h k x).1
theorem ORow.base {w : World} {B g c : Nat} {xs : List Int} (h : ORow w B g c xs) : B ≤ g := own_base h g rfl
theorem ORow.lt {w : World} {B g c : Nat} {xs : List Int} (h : ORow w B g c xs) : g < w.heap.size := own_lt h g rfl
theorem swapAt_len (xs : List Int) (j : Nat) : (swapAt xs j).length = xs.length := by simp [swapAt]
theorem getD_mem {xs : List Int} {k : Nat} (hk : k < xs.length) : xs.getD k 0 ∈ xs := by rw [getD_at _ _ hk]; exact List.getElem_mem hk
theorem swapAt_mem {xs : List Int} {j : Nat} (hj : j < xs.length) {x : Int} (h : x ∈ swapAt xs j) : x ∈ xs := by
  unfold swapAt at h
  rcases List.mem_or_eq_of_mem_set h with h | h
  · rcases List.mem_or_eq_of_mem_set h with h | h
    · exact h
    · rw [h]; exact getD_mem (by omega)
  · rw [h]; exact getD_mem hj
theorem sink_len : ∀ (j : Nat) (xs : List Int), (sink xs j).length = xs.length
  | 0, _ => rfl
  | j + 1, xs => by
    unfold sink
    split
    · rw [sink_len j, swapAt_len]
    · rfl
theorem isortTo_len (xs : List Int) : ∀ i, (isortTo xs i).length = xs.length
  | 0 => rfl
  | i + 1 => by unfold isortTo; rw [sink_len, isortTo_len xs i]
theorem insertion_calls (w : World) (B g c : Nat) (xs : List Int) (h : ORow w B g c xs) (hl : xs.length ≤ 12) (hr : ∀ x ∈ xs, -1000000 < x ∧ x < 1000000) (hB : B ≤ w.heap.size) :
    Calls Tryz.prog 140 #[.slice (some ⟨g, 0, none⟩) xs.length c, .int .i64 0, .int .i64 xs.length, .func (.func 108) #[] #[]] w (fun e w' => e = .returned (.tuple #[]) ∧ ORow w' B g c (isortI xs) ∧ Below B w w') := by
  have H := Aside0.mk h
  have HR := Aside0.mk hr
  have HBB := Aside0.mk hB
  clear h hr hB
  go_enter Tryz.func140, Tryz.ntmps140
  go_wp2_with fail
  go_loopw [8] (fun v W => ∃ i : Nat, v = .int .i64 ((i : Int) + 1) ∧ (i ≤ xs.length - 1) ∧ Aside0 (ORow W B g c (isortTo xs i)) ∧ Aside0 (∀ x ∈ isortTo xs i, -1000000 < x ∧ x < 1000000) ∧ Aside0 (Below B w W)) (fun v _ => xs.length - (intOf v).toNat)
  case atStart => exact ⟨0, by go_num, by omega, H, HR, ⟨Below.refl _ _⟩⟩
  case round =>
    obtain ⟨i, rfl, hi, HO, HRi, HF⟩ := hrel
    by_cases hlt : i + 1 < xs.length
    · have hsuc : Aside0 (isortTo xs (i + 1) = sink (isortTo xs i) (i + 1)) := ⟨rfl⟩
      have hlen := isortTo_len xs i
      generalize isortTo xs i = zs at *
      have hli : (i : Int) + 1 < (xs.length : Int) := by omega
      go_wp2_with fail
      go_loopw [9] (fun v W => ∃ (j : Nat) (ys : List Int), v = .int .i64 j ∧ j ≤ i + 1 ∧ ys.length = xs.length ∧ Aside0 (ORow W B g c ys) ∧ Aside0 (∀ x ∈ ys, -1000000 < x ∧ x < 1000000) ∧ Aside0 (sink ys j = isortTo xs (i + 1)) ∧ Aside0 (Below B w W)) (fun v _ => (intOf v).toNat)
      case atStart => exact ⟨i + 1, zs, by go_num, by omega, hlen, HO, HRi, ⟨hsuc.out.symm⟩, HF⟩
      case round =>
        clear HO HRi HF hsuc hlen
        obtain ⟨j, ys, rfl, hj, hyl, HO, HRj, HS, HF⟩ := hrel
        cases j with
        | zero =>
          go_wp2_with fail
          go_quiet (fail)
          go_wp2_with fail
          have hz : sink ys 0 = ys := rfl
          go_roundw
          case rel => exact ⟨i + 1, by go_num, by omega, ⟨by rw [← HS.out, hz]; exact HO.out⟩, ⟨by rw [← HS.out, hz]; exact HRj.out⟩, ⟨pw_below_drewN HF.out _⟩⟩
          case measure => simp [intOf] <;> omega
        | succ j =>
          obtain ⟨y1, y1f⟩ := HO.out.at (j + 1) (by omega)
          obtain ⟨y0, y0f⟩ := HO.out.at j (by omega)
          have hjn : (j : Int) + 1 < (xs.length : Int) := by omega
          have hj0n : (j : Int) < (xs.length : Int) := by omega
          have hr1 := HRj.out _ (List.getElem_mem (show j + 1 < ys.length by omega))
          have hr0 := HRj.out _ (List.getElem_mem (show j < ys.length by omega))
          have HG1 : Aside0 (ys.getD (j + 1) 0 = ys[j + 1]) := ⟨getD_at _ _ _⟩
          have HG0 : Aside0 (ys.getD j 0 = ys[j]) := ⟨getD_at _ _ _⟩
          have HU : Aside0 (sink ys (j + 1) = if litLt (ys.getD (j + 1) 0) (ys.getD j 0) then sink (swapAt ys (j + 1)) j else ys) := ⟨rfl⟩
          rw [HG1.out, HG0.out] at HU
          have HSW : Aside0 (swapAt ys (j + 1) = (ys.set (j + 1) ys[j]).set j ys[j + 1]) := ⟨by unfold swapAt; rw [HG1.out, Nat.add_sub_cancel, HG0.out]⟩
          have HMM : Aside0 (∀ x, x ∈ swapAt ys (j + 1) → x ∈ ys) := ⟨fun x hx => swapAt_mem (by omega) hx⟩
          go_wp2_with fail
          have hj1p : (0 : Int) ≤ (j : Int) + 1 := by omega
          have hwj : IntKind.i64.wrap (j : Int) = (j : Int) := IntWalk.i64_in _ (by omega)
          go_still_tail 14, (by kernel_rfl)
          change wpList _ _ _ _ _ wr.drew
          have HO1 := Aside0.mk (HO.out.below (below_drew (Below.refl _ _)))
          have HF1 := Aside0.mk (below_drew HF.out)
          have hLt := Aside0.mk (Less_calls wr.drew ys[j + 1] ys[j] hr1 hr0)
          clear HO HF y1 y1f y0 y0f
          generalize wr.drew = w2 at HO1 HF1 hLt ⊢
          go_wp2_with fail
          refine hLt.out.mono ?_
          rintro e w3 ⟨d, hd, rfl, hb⟩
          have HO3 := Aside0.mk (HO1.out.below hb)
          have HF3 : Aside0 (Below B w w3) := ⟨HF1.out.trans (hb.mono (Nat.le_trans HBB.out HF1.out.size))⟩
          clear hb HO1 HF1 hLt
          by_cases hlt2 : litLt ys[j + 1] ys[j] = true
          · have hd0 : d < 0 := hd.2 hlt2
            rw [if_pos hlt2] at HU
            go_wp2_with fail
            obtain ⟨y1, y1f⟩ := HO3.out.at (j + 1) (by omega)
            obtain ⟨y0, y0f⟩ := HO3.out.at j (by omega)
            have HO5 : Aside0 (ORow (((w3.setCell ⟨g, j + 1, none⟩ (.int .i64 ys[j])).setCell ⟨g, j, none⟩ (.int .i64 ys[j + 1])).drew) B g c (swapAt ys (j + 1))) := ⟨by rw [HSW.out]; exact ((HO3.out.store (j + 1) ys[j]).store j ys[j + 1])⟩
            have HF5 : Aside0 (Below B w (((w3.setCell ⟨g, j + 1, none⟩ (.int .i64 ys[j])).setCell ⟨g, j, none⟩ (.int .i64 ys[j + 1])).drew)) := ⟨below_drew ((HF3.out.setCell HO3.out.base _).setCell HO3.out.base _)⟩
            go_region
            go_wp2_with fail
            go_roundw
            case rel => exact ⟨j, swapAt ys (j + 1), by go_num, by omega, by rw [swapAt_len]; exact hyl, HO5, ⟨fun x hx => HRj.out x (HMM.out x hx)⟩, ⟨by rw [← HU.out]; exact HS.out⟩, HF5⟩
            case measure => simp [intOf] <;> omega
          · have hd0 : 0 ≤ d := by have := mt hd.1 hlt2; omega
            rw [if_neg hlt2] at HU
            go_wp2_with fail
            go_roundw
            case rel => exact ⟨i + 1, by go_num, by omega, ⟨by rw [← HS.out, HU.out]; exact HO3.out⟩, ⟨by rw [← HS.out, HU.out]; exact HRj.out⟩, HF3⟩
            case measure => simp [intOf] <;> omega
    · go_wp2_with fail
      go_end0
      have hi2 : i = xs.length - 1 := by omega
      subst hi2
      exact ⟨rfl, HO.out, HF.out⟩

end
section
open Go.RowKit Go.Maps
set_option maxRecDepth 100000
set_option maxHeartbeats 2000000
/-! slices.SortFunc at few elements. -/
theorem Len_same (w : World) (x : Int) (h0 : 0 ≤ x) (h1 : x ≤ 18446744073709551615) : Calls Tryz.prog 106 #[.int .u64 x] w (fun e w' => e = .returned (.int .i64 (Lib.bitLen x.toNat)) ∧ w' = w) :=
  calls_of_every_depth (fun D => AnySM.bits_LenIn (ρ := Tryz.sortA_ren) { Tryz.sortA with } D x w h0 h1)
theorem pdq_calls (w : World) (B g c : Nat) (m : Int) (xs : List Int) (h : ORow w B g c xs) (hl : xs.length ≤ 12) (hr : ∀ x ∈ xs, -1000000 < x ∧ x < 1000000) (hB : B ≤ w.heap.size) :
    Calls Tryz.prog 131 #[.slice (some ⟨g, 0, none⟩) xs.length c, .int .i64 0, .int .i64 xs.length, .int .i64 m, .func (.func 108) #[] #[]] w (fun e w' => e = .returned (.tuple #[]) ∧ ORow w' B g c (isortI xs) ∧ Below B w w') := by
  have HI := Aside0.mk (insertion_calls w B g c xs h hl hr hB)
  clear h hr hB
  have hl2 : (xs.length : Int) ≤ 12 := by omega
  go_enter Tryz.func131, Tryz.ntmps131
  go_wp2_with fail
  refine wp_loop_rounds 1 ?_
  rw [rounds_succ]
  go_wp2_with fail
  refine HI.out.mono ?_
  rintro e w1 ⟨rfl, hO, hb⟩
  go_wp2_with fail
  (try simp only [Exit.inBlock, Exit.then]); refine bodyPost_ret (results_none rfl _ _ _) rfl ?_
  exact ⟨rfl, hO, hb⟩
theorem SortFunc_calls (w : World) (B g c : Nat) (xs : List Int) (h : ORow w B g c xs) (hl : xs.length ≤ 12) (hr : ∀ x ∈ xs, -1000000 < x ∧ x < 1000000) (hB : B ≤ w.heap.size) :
    Calls Tryz.prog 107 #[.slice (some ⟨g, 0, none⟩) xs.length c, .func (.func 108) #[] #[]] w (fun e w' => e = .returned (.tuple #[]) ∧ ORow w' B g c (isortI xs) ∧ Below B w w') := by
  have HI := Aside0.mk (fun m => pdq_calls w B g c m xs h hl hr hB)
  clear h hr hB
  have hl2 : (xs.length : Int) ≤ 12 := by omega
  go_enter Tryz.func107, Tryz.ntmps107
  go_wp2_with fail
  refine (Len_same _ _ (by omega) (by omega)).mono ?_
  rintro e w1 ⟨rfl, rfl⟩
  go_wp2_with fail
  refine (HI.out _).mono ?_
  rintro e w1 ⟨rfl, hO, hb⟩
  go_wp2_with fail
  go_end0
  exact ⟨rfl, hO, hb⟩

end
section
open Go.RowKit Go.Maps
set_option maxRecDepth 100000
set_option maxHeartbeats 2000000
/-! cnf.Form at a row of literals of different atoms. -/
theorem swapAt_mid (l : List Int) (a b : Int) (r : List Int) : swapAt (l ++ a :: b :: r) (l.length + 1) = l ++ b :: a :: r := by
  unfold swapAt
  have h1 : (l ++ a :: b :: r).getD (l.length + 1 - 1) 0 = a := by simp [List.getD]
  have h2 : (l ++ a :: b :: r).getD (l.length + 1) 0 = b := by simp [List.getD]
  rw [h1, h2]
  simp [List.set_append]
theorem swapAt_perm {xs : List Int} {j : Nat} (hj : j + 1 < xs.length) : (swapAt xs (j + 1)).Perm xs := by
  have h1 : xs = xs.take j ++ xs[j] :: xs[j + 1] :: xs.drop (j + 2) := by
    rw [← List.drop_eq_getElem_cons hj, ← List.drop_eq_getElem_cons (by omega), List.take_append_drop]
  have hl : (xs.take j).length = j := by rw [List.length_take]; omega
  generalize xs[j] = a at h1
  generalize xs[j + 1] = b at h1
  generalize xs.drop (j + 2) = r at h1
  generalize xs.take j = l at h1 hl
  subst hl
  rw [h1, swapAt_mid]
  exact List.Perm.append_left l (List.Perm.swap a b r)
theorem sink_perm : ∀ (j : Nat) (xs : List Int), j < xs.length → (sink xs j).Perm xs
  | 0, _, _ => List.Perm.refl _
  | j + 1, xs, h => by
    unfold sink
    split
    · exact (sink_perm j _ (by rw [swapAt_len]; omega)).trans (swapAt_perm h)
    · exact List.Perm.refl _
theorem isortTo_perm (xs : List Int) : ∀ i, i ≤ xs.length - 1 → (isortTo xs i).Perm xs
  | 0, _ => List.Perm.refl _
  | i + 1, h => by
    unfold isortTo
    exact (sink_perm _ _ (by rw [isortTo_len]; omega)).trans (isortTo_perm xs i (by omega))
theorem isortI_perm (xs : List Int) : (isortI xs).Perm xs := isortTo_perm xs _ (Nat.le_refl _)
theorem isortI_len (xs : List Int) : (isortI xs).length = xs.length := isortTo_len xs _
/-- Neighbours are of different atoms. -/
theorem isortI_adj {l : List Int} (h : GoodC l) (k : Nat) (hk : k + 1 < (isortI l).length) : absI (isortI l)[k] ≠ absI (isortI l)[k + 1] := by
  have hn : ((isortI l).map absI).Nodup := ((isortI_perm l).map absI).nodup_iff.2 h.diff
  have := List.pairwise_iff_getElem.1 hn k (k + 1) (by rw [List.length_map]; omega) (by rw [List.length_map]; omega) (by omega)
  simpa using this
theorem absI_neg (x : Int) : absI (-x) = absI x := by unfold absI; omega
theorem add_succ (ad : Addr) (k : Nat) : ad.add (k + 1) = ⟨ad.block, ad.off + (k + 1), none⟩ := by unfold Addr.add; rw [if_neg (by omega)]
theorem Compact_calls (w : World) (A : Option Addr) (c n : Nat) (ys : List Int) (hn : n = ys.length) (h : Kd.C (Kd.int .i64) w A ys.length ys) (hl : ys.length ≤ 12) (ha : ∀ k, (hk : k + 1 < ys.length) → ys[k + 1] ≠ ys[k]) :
    Calls Tryz.prog 112 #[.slice A n c] w (RetB w (.slice A n c)) := by
  subst hn
  have H := Aside0.mk h
  have HA := Aside0.mk ha
  clear h ha
  go_enter Tryz.func112, Tryz.ntmps112
  by_cases h2 : (ys.length : Int) < 2
  · go_wp2_with fail
    go_ret
    exact ⟨rfl, Below.refl _ _⟩
  · have h2' : 2 ≤ (ys.length : Int) := by omega
    go_wp2_with fail
    go_loopw [3] (fun v W => ∃ k : Nat, v = .int .i64 ((k : Int) + 1) ∧ k + 1 ≤ ys.length ∧ Aside0 (Below w.heap.size w W)) (fun v _ => ys.length - (intOf v).toNat)
    case atStart => exact ⟨0, by go_num, by omega, ⟨Below.refl _ _⟩⟩
    case round =>
      obtain ⟨k, rfl, hk, HF⟩ := hrel
      by_cases hlt : k + 1 < ys.length
      · obtain ⟨ad, e, y1⟩ := at_i64 (Kd.C_below H.out HF.out) (k + 1) hlt
        obtain ⟨ad', e', y0⟩ := at_i64 (Kd.C_below H.out HF.out) k (by omega)
        subst e
        cases e'
        rw [add_succ] at y1
        have hne := HA.out k hlt
        have b1 : (k : Int) + 1 < (ys.length : Int) := by omega
        have b0 : (k : Int) < (ys.length : Int) := by omega
        have p1 : (0 : Int) ≤ (k : Int) + 1 := by omega
        have hw : IntKind.i64.wrap (k : Int) = (k : Int) := IntWalk.i64_in _ (by omega)
        have hd : decide (ys[k + 1] = ys[k]) = false := decide_eq_false hne
        go_wp2_with fail
        go_quiet (fail)
        go_wp2_with fail
        go_roundw
        case rel => exact ⟨k + 1, by go_num, by omega, ⟨pw_below_drewN HF.out _⟩⟩
        case measure => simp [intOf] <;> omega
      · go_wp2_with fail
        go_ret
        exact ⟨rfl, HF.out⟩
theorem Form_aux (w : World) (A : Option Addr) (c : Nat) (l ys : List Int) (hys : isortI l = ys) (h : Kd.C (Kd.int .i64) w A l.length l) (hg : GoodC l) :
    Calls Tryz.prog 87 #[.slice A l.length c] w (fun e w' => ∃ v, e = .returned (.tuple #[v, .bool true]) ∧ OwnI w' w.heap.size v ys ∧ Below w.heap.size w w') := by
  have H := Aside0.mk h
  have HG := Aside0.mk hg
  have hl := hg.len
  have hadj : ∀ k, (hk : k + 1 < ys.length) → absI ys[k] ≠ absI ys[k + 1] := by subst hys; exact isortI_adj hg
  have hil := isortI_len l
  rw [hys] at hil
  have HAdj := Aside0.mk hadj
  have HYS := Aside0.mk hys
  have HR0 : Aside0 (∀ y ∈ ys, -1000000 < y ∧ y < 1000000) := ⟨fun y hy => (hg.lit y (by rw [← hys] at hy; exact (isortI_perm l).mem_iff.1 hy)).2⟩
  clear h hg hadj hys
  go_enter Tryz.func87, Tryz.ntmps87
  go_wp2_with fail
  refine (ContainsW_same _ _ _ _ H.out HG.out.lit hl).mono ?_
  rintro e w1 ⟨rfl, rfl⟩
  go_wp2_with fail
  refine (CloneI_calls _ _ _ _ H.out (by omega)).mono ?_
  rintro e w2 ⟨v, rfl, hO, hb⟩
  have hpos : 0 < l.length := List.length_pos_iff.2 HG.out.ne
  obtain ⟨g, cap, rfl, hg1, hg2, -⟩ := Kd.R_form hO hpos
  have HR : Aside0 (ORow w2 w1.heap.size g cap l) := ⟨Kd.own_of_R hO⟩
  have HB := Aside0.mk hb
  clear hO hb hg1 hg2 hpos
  go_wp2_with fail
  refine (SortFunc_calls w2 w1.heap.size g cap l HR.out hl (fun x hx => (HG.out.lit x hx).2) HB.out.size).mono ?_
  rintro e w3 ⟨rfl, hO, hb⟩
  rw [HYS.out] at hO
  have HO3 : Aside0 (OwnI w3 w1.heap.size (.slice (some ⟨g, 0, none⟩) l.length cap) ys) := ⟨by rw [← hil]; exact Kd.R_of_own hO (fun _ _ => trivial)⟩
  have HB3 : Aside0 (Below w1.heap.size w1 w3) := ⟨HB.out.trans hb⟩
  clear hO hb HR HB
  go_wp2_with fail
  refine (Compact_calls w3 (some ⟨g, 0, none⟩) cap _ ys hil.symm (by exact (Kd.R_reads' HO3.out).2.2) (by omega) (fun k hk e => HAdj.out k hk (by rw [e]))).mono ?_
  rintro e w4 ⟨rfl, hb⟩
  have HO4 := Aside0.mk (HO3.out.below hb)
  have HB4 : Aside0 (Below w1.heap.size w1 w4) := ⟨below_step HB3.out hb⟩
  clear HO3 HB3 hb
  go_wp2_with fail
  go_loopw [5] (fun v W => ∃ k : Nat, v = .int .i64 ((k : Int) + 1) ∧ k + 1 ≤ l.length ∧ Aside0 (OwnI W w1.heap.size (.slice (some ⟨g, 0, none⟩) l.length cap) ys) ∧ Aside0 (Below w1.heap.size w1 W)) (fun v _ => l.length - (intOf v).toNat)
  case atStart => exact ⟨0, by go_num, by have := List.length_pos_iff.2 HG.out.ne; omega, HO4, HB4⟩
  case round =>
    clear HO4 HB4
    obtain ⟨k, rfl, hk, HO, HF⟩ := hrel
    by_cases hlt : k + 1 < l.length
    · have hC := (Kd.R_reads' HO.out).2.2
      obtain ⟨ad, e, y1⟩ := at_i64 hC (k + 1) (by omega)
      obtain ⟨ad', e', y0⟩ := at_i64 hC k (by omega)
      cases e
      cases e'
      clear hC
      rw [add_plain] at y1 y0
      have hne := HAdj.out k (by omega)
      have hr0 := HR0.out _ (List.getElem_mem (show k < ys.length by omega))
      have b1 : (k : Int) + 1 < (l.length : Int) := by omega
      have b0 : (k : Int) < (l.length : Int) := by omega
      have p1 : (0 : Int) ≤ (k : Int) + 1 := by omega
      have hw : IntKind.i64.wrap (k : Int) = (k : Int) := IntWalk.i64_in _ (by omega)
      have hwn : IntKind.i64.wrap (-ys[k]) = -ys[k] := IntWalk.i64_in _ (by omega)
      have hd : (ys[k + 1] == -ys[k]) = false := beq_eq_false_iff_ne.2 (fun e => hne (by rw [e, absI_neg]))
      go_wp2_with fail
      go_quiet (fail)
      go_wp2_with fail
      go_roundw
      case rel => exact ⟨k + 1, by go_num, by omega, ⟨HO.out.below (pw_below_drewN (Below.refl _ _) _)⟩, ⟨pw_below_drewN HF.out _⟩⟩
      case measure => simp [intOf] <;> omega
    · go_wp2_with fail
      refine bodyPost_ret (v := .tuple #[.slice (some ⟨g, 0, none⟩) l.length cap, .bool true]) (by simp [results, Tryz.results87, go_sem]) rfl ?_
      exact ⟨_, rfl, HO.out, HF.out⟩
theorem Form_calls (w : World) (A : Option Addr) (c : Nat) (l : List Int) (h : Kd.C (Kd.int .i64) w A l.length l) (hg : GoodC l) :
    Calls Tryz.prog 87 #[.slice A l.length c] w (fun e w' => ∃ v, e = .returned (.tuple #[v, .bool true]) ∧ OwnI w' w.heap.size v (isortI l) ∧ Below w.heap.size w w') := Form_aux w A c l _ rfl h hg

end
end Go.Proofs.YtbahanlnkikpeaaGreat
