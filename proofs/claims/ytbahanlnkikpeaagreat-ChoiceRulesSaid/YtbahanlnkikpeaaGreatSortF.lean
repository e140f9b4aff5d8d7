import Derived.Test.YtbahanlnkikpeaaGreatTabW
namespace Go.Proofs.YtbahanlnkikpeaaGreat
open Go.RowKit Go.Proofs.YtbahanlnkikpeaaGreatW.PrintWords Go.Proofs.YtbahanlnkikpeaaGreatW.PrintLast
set_option linter.unusedVariables false
set_option linter.unusedSimpArgs false
open Go.RowKit Go.Maps
set_option maxRecDepth 100000
set_option maxHeartbeats 2000000
/-! A clause's form: the sort at few elements. -/
theorem abs_same (w : World) (x : Int) (h : -1000000 < x ∧ x < 1000000) : Calls Tryz.prog 111 #[.int .i64 x] w (fun e w' => e = .returned (.int .i64 (absI x)) ∧ w' = w) := by
  obtain ⟨h1, h2⟩ := h
  go_enter Tryz.func111, Tryz.ntmps111
  go_wp2_with fail
  go_ret
  exact ⟨ret_int (by unfold absI; omega), rfl⟩
theorem wrong_same (w : World) (x : Int) (h : x ≠ 0 ∧ -1000000 < x ∧ x < 1000000) : Calls Tryz.prog 89 #[.int .i64 x] w (fun e w' => e = .returned (.bool false) ∧ w' = w) := by
  obtain ⟨h0, h1, h2⟩ := h
  go_enter Tryz.func89, Tryz.ntmps89
  go_wp2_with fail
  go_ret
  exact ⟨ret_bool (by simp; omega), rfl⟩
theorem IndexW_same (w : World) (A : Option Addr) (c : Nat) (xs : List Int) (h : Kd.C (Kd.int .i64) w A xs.length xs) (hl : ∀ x ∈ xs, x ≠ 0 ∧ -1000000 < x ∧ x < 1000000) (hb : xs.length ≤ 12) :
   Calls Tryz.prog 113 #[.slice A xs.length c, .func (.func 89) #[] #[]] w (fun e w' => e = .returned (.int .i64 (-1)) ∧ w' = w) := by
  have H := Aside0.mk h
  have HL := Aside0.mk hl
  clear h hl
  go_enter Tryz.func113, Tryz.ntmps113
  go_wp2_with fail
  go_loop [8] (fun i => ∃ k : Nat, k ≤ xs.length ∧ i = .int .i64 k) (fun i => xs.length - (intOf i).toNat)
  case atStart => exact ⟨0, by omega, rfl⟩
  case round =>
    obtain ⟨k, hk, rfl⟩ := hrel
    by_cases hlt : k < xs.length
    · obtain ⟨ad, e, y⟩ := at_i64 H.out k hlt
      subst e
      go_wp2_with fail
      refine (wrong_same _ _ (HL.out _ (List.getElem_mem hlt))).mono ?_
      rintro e w1 ⟨rfl, rfl⟩
      go_wp2_with fail
      go_round
      case rel => exact ⟨k + 1, by omega, by go_num⟩
      case measure => simp [intOf] <;> omega
    · go_wp2_with fail
      go_ret
      exact ⟨rfl, rfl⟩
theorem ContainsW_same (w : World) (A : Option Addr) (c : Nat) (xs : List Int) (h : Kd.C (Kd.int .i64) w A xs.length xs) (hl : ∀ x ∈ xs, x ≠ 0 ∧ -1000000 < x ∧ x < 1000000) (hb : xs.length ≤ 12) :
   Calls Tryz.prog 88 #[.slice A xs.length c, .func (.func 89) #[] #[]] w (fun e w' => e = .returned (.bool false) ∧ w' = w) := by
  have HI := Aside0.mk (IndexW_same w A c xs h hl hb)
  clear h hl
  go_enter Tryz.func88, Tryz.ntmps88
  go_wp2_with fail
  refine HI.out.mono ?_
  rintro e w1 ⟨rfl, rfl⟩
  go_wp2_with fail
  go_ret
  exact ⟨rfl, rfl⟩
theorem isNaN_same (w : World) (x : Int) : Calls Tryz.prog 132 #[.int .i64 x] w (fun e w' => e = .returned (.bool false) ∧ w' = w) := by
  go_enter Tryz.func132, Tryz.ntmps132
  go_wp2_with fail
  go_ret
  exact ⟨ret_bool (by simp), rfl⟩
def cmpI (x y : Int) : Int := if x < y then -1 else if y < x then 1 else 0
theorem Compare_same (w : World) (x y : Int) : Calls Tryz.prog 110 #[.int .i64 x, .int .i64 y] w (fun e w' => e = .returned (.int .i64 (cmpI x y)) ∧ w' = w) := by
  go_enter Tryz.func110, Tryz.ntmps110
  go_wp2_with fail
  refine (isNaN_same _ _).mono ?_
  rintro e w1 ⟨rfl, rfl⟩
  go_wp2_with fail
  refine (isNaN_same _ _).mono ?_
  rintro e w1 ⟨rfl, rfl⟩
  by_cases h1 : x < y
  · go_wp2_with fail
    go_ret
    exact ⟨ret_int (by simp [cmpI, h1]), rfl⟩
  · by_cases h2 : y < x
    · have h1' : y ≤ x := by omega
      go_wp2_with fail
      go_ret
      exact ⟨ret_int (by simp [cmpI, h1, h2]), rfl⟩
    · have h1' : y ≤ x := by omega
      have h2' : x ≤ y := by omega
      go_wp2_with fail
      go_ret
      exact ⟨ret_int (by unfold cmpI; rw [if_neg (by omega), if_neg (by omega)]), rfl⟩
theorem cmpI_cases (a b : Int) : cmpI a b = -1 ∧ a < b ∨ cmpI a b = 1 ∧ b < a ∨ cmpI a b = 0 ∧ a = b := by
  unfold cmpI
  by_cases h : a < b
  · rw [if_pos h]; omega
  · rw [if_neg h]
    by_cases h' : b < a
    · rw [if_pos h']; omega
    · rw [if_neg h']; omega
def orI (x y : Int) : Int := if x ≠ 0 then x else y
theorem cmpI_or (a b x y : Int) : orI (cmpI a b) (cmpI x y) < 0 ↔ (a < b ∨ (a = b ∧ x < y)) := by
  have h1 := cmpI_cases a b
  have h2 := cmpI_cases x y
  unfold orI
  rcases h1 with ⟨h1, _⟩ | ⟨h1, _⟩ | ⟨h1, _⟩ <;> rcases h2 with ⟨h2, _⟩ | ⟨h2, _⟩ | ⟨h2, _⟩ <;> rw [h1] <;> simp [h2] <;> omega
theorem Or_same (w : World) (g : Nat) (x y : Int) (h : w.heap[g]? = some (.cells #[.int .i64 x, .int .i64 y] 3 (0, 0))) :
    Calls Tryz.prog 109 #[.slice (some ⟨g, 0, none⟩) 2 2] w (fun e w' => e = .returned (.int .i64 (orI x y)) ∧ w' = w) := by
  have H := Aside0.mk h
  have x0 : w.cell? ⟨g, 0, none⟩ = some (.int .i64 x) := blk_cell h 0
  have x1 : w.cell? ⟨g, 1, none⟩ = some (.int .i64 y) := blk_cell h 1
  clear h
  go_enter Tryz.func109, Tryz.ntmps109
  go_wp2_with fail
  go_loop [8] (fun i => ∃ k : Nat, k ≤ 2 ∧ i = .int .i64 k ∧ (1 ≤ k → x = 0) ∧ (2 ≤ k → y = 0)) (fun i => 2 - (intOf i).toNat)
  case atStart => exact ⟨0, by omega, rfl, fun h => absurd h (by decide), fun h => absurd h (by decide)⟩
  case round =>
    obtain ⟨k, hk, rfl, h1, h2⟩ := hrel
    have hc : k = 0 ∨ k = 1 ∨ k = 2 := by omega
    rcases hc with rfl | rfl | rfl
    · by_cases hx : x = 0
      · subst hx
        go_wp2_with fail
        go_round
        case rel => exact ⟨1, by omega, by go_num, by simp, by simp⟩
        case measure => simp [intOf]
      · go_wp2_with fail
        go_ret
        exact ⟨ret_int (by simp [orI, hx]), rfl⟩
    · have hx := h1 (by omega)
      subst hx
      by_cases hy : y = 0
      · subst hy
        go_wp2_with fail
        go_round
        case rel => exact ⟨2, by omega, by go_num, by simp, by simp⟩
        case measure => simp [intOf]
      · go_wp2_with fail
        go_ret
        exact ⟨ret_int (by simp [orI]), rfl⟩
    · have hx := h1 (by omega)
      have hy := h2 (by omega)
      subst hx
      subst hy
      go_wp2_with fail
      go_ret
      exact ⟨ret_int (by simp [orI]), rfl⟩
theorem Less_calls (w : World) (x y : Int) (hx : -1000000 < x ∧ x < 1000000) (hy : -1000000 < y ∧ y < 1000000) :
    Calls Tryz.prog 108 #[.int .i64 x, .int .i64 y] w (RetInt w (fun n => n < 0 ↔ litLt x y = true)) := by
  go_enter Tryz.func108, Tryz.ntmps108
  go_wp2_with fail
  refine (abs_same _ _ hx).mono ?_
  rintro e w1 ⟨rfl, rfl⟩
  go_wp2_with fail
  refine (abs_same _ _ hy).mono ?_
  rintro e w1 ⟨rfl, rfl⟩
  go_wp2_with fail
  refine (Compare_same _ _ _).mono ?_
  rintro e w1 ⟨rfl, rfl⟩
  go_wp2_with fail
  refine (Compare_same _ _ _).mono ?_
  rintro e w1 ⟨rfl, rfl⟩
  have hN := blk_new w1 (.cells #[.int .i64 (cmpI (absI x) (absI y)), .int .i64 (cmpI x y)] 3 (0, 0))
  go_wp2_with fail
  refine (Or_same _ _ _ _ hN).mono ?_
  rintro e w2 ⟨rfl, rfl⟩
  go_wp2_with fail
  go_ret
  refine ⟨_, ?_, rfl, below_alloc (Below.refl _ _) _⟩
  show orI _ _ < 0 ↔ _
  rw [cmpI_or]
  unfold litLt
  simp only [Bool.or_eq_true, Bool.and_eq_true, decide_eq_true_eq]
/-- A row of ints that the call may write. -/
def ORow (w : World) (B g c : Nat) (xs : List Int) : Prop := w.ownsRow B 3 1 (.slice (some ⟨g, 0, none⟩) xs.length c) xs.length (nums .i64 xs)
theorem ORow.below {w w1 : World} {B g c : Nat} {xs : List Int} (h : ORow w B g c xs) (hb : Below w.heap.size w w1) : ORow w1 B g c xs := pw_own_below h hb
theorem ORow.at {w : World} {B g c : Nat} {xs : List Int} (h : ORow w B g c xs) (k : Nat) (hk : k < xs.length) : w.cell? ⟨g, k, none⟩ = some (.int .i64 xs[k]) ∧ w.frozen? ⟨g, k, none⟩ = false := by
  have := own_at h k (by omega) (by omega)
  rw [show ((k : Int)).toNat = k from rfl] at this
  unfold rd at this
  rw [show ((k : Int)).toNat = k from rfl, getD_at _ _ hk] at this
  exact this
theorem ORow.store {w : World} {B g c : Nat} {xs : List Int} (h : ORow w B g c xs) (k : Nat) (x : Int) : ORow (w.setCell ⟨g, k, none⟩ (.int .i64 x)) B g c (xs.set k x) := by
  unfold ORow
  rw [List.length_set]
  exact (own_store h k x).1
theorem ORow.base {w : World} {B g c : Nat} {xs : List Int} (h : ORow w B g c xs) : B ≤ g := own_base h g rfl
theorem ORow.lt {w : World} {B g c : Nat} {xs : List Int} (h : ORow w B g c xs) : g < w.heap.size := own_lt h g rfl
theorem swapAt_len (xs : List Int) (j : Nat) : (swapAt xs j).length = xs.length := by simp [swapAt]
theorem getD_mem {xs : List Int} {k : Nat} (hk : k < xs.length) : xs.getD k 0 ∈ xs := by rw [getD_at _ _ hk]; exact List.getElem_mem hk
theorem swapAt_mem {xs : List Int} {j : Nat} (hj : j < xs.length) {x : Int} (h : x ∈ swapAt xs j) : x ∈ xs := by
  unfold swapAt at h
  rcases List.mem_or_eq_of_mem_set h with h | h
  · rcases List.mem_or_eq_of_mem_set h with h | h
    · exact h
    · rw [h]; exact getD_mem (by omega)
  · rw [h]; exact getD_mem hj
theorem sink_len : ∀ (j : Nat) (xs : List Int), (sink xs j).length = xs.length
  | 0, _ => rfl
  | j + 1, xs => by
    unfold sink
    split
    · rw [sink_len j, swapAt_len]
    · rfl
theorem isortTo_len (xs : List Int) : ∀ i, (isortTo xs i).length = xs.length
  | 0 => rfl
  | i + 1 => by unfold isortTo; rw [sink_len, isortTo_len xs i]
theorem insertion_calls (w : World) (B g c : Nat) (xs : List Int) (h : ORow w B g c xs) (hl : xs.length ≤ 12) (hr : ∀ x ∈ xs, -1000000 < x ∧ x < 1000000) (hB : B ≤ w.heap.size) :
    Calls Tryz.prog 140 #[.slice (some ⟨g, 0, none⟩) xs.length c, .int .i64 0, .int .i64 xs.length, .func (.func 108) #[] #[]] w (fun e w' => e = .returned (.tuple #[]) ∧ ORow w' B g c (isortI xs) ∧ Below B w w') := by
  have H := Aside0.mk h
  have HR := Aside0.mk hr
  have HBB := Aside0.mk hB
  clear h hr hB
  go_enter Tryz.func140, Tryz.ntmps140
  go_wp2_with fail
  go_loopw [8] (fun v W => ∃ i : Nat, v = .int .i64 ((i : Int) + 1) ∧ (i ≤ xs.length - 1) ∧ Aside0 (ORow W B g c (isortTo xs i)) ∧ Aside0 (∀ x ∈ isortTo xs i, -1000000 < x ∧ x < 1000000) ∧ Aside0 (Below B w W)) (fun v _ => xs.length - (intOf v).toNat)
  case atStart => exact ⟨0, by go_num, by omega, H, HR, ⟨Below.refl _ _⟩⟩
  case round =>
    obtain ⟨i, rfl, hi, HO, HRi, HF⟩ := hrel
    by_cases hlt : i + 1 < xs.length
    · have hsuc : Aside0 (isortTo xs (i + 1) = sink (isortTo xs i) (i + 1)) := ⟨rfl⟩
      have hlen := isortTo_len xs i
      generalize isortTo xs i = zs at *
      have hli : (i : Int) + 1 < (xs.length : Int) := by omega
      go_wp2_with fail
      go_loopw [9] (fun v W => ∃ (j : Nat) (ys : List Int), v = .int .i64 j ∧ j ≤ i + 1 ∧ ys.length = xs.length ∧ Aside0 (ORow W B g c ys) ∧ Aside0 (∀ x ∈ ys, -1000000 < x ∧ x < 1000000) ∧ Aside0 (sink ys j = isortTo xs (i + 1)) ∧ Aside0 (Below B w W)) (fun v _ => (intOf v).toNat)
      case atStart => exact ⟨i + 1, zs, by go_num, by omega, hlen, HO, HRi, ⟨hsuc.out.symm⟩, HF⟩
      case round =>
        clear HO HRi HF hsuc hlen
        obtain ⟨j, ys, rfl, hj, hyl, HO, HRj, HS, HF⟩ := hrel
        cases j with
        | zero =>
          go_wp2_with fail
          go_quiet (fail)
          go_wp2_with fail
          have hz : sink ys 0 = ys := rfl
          go_roundw
          case rel => exact ⟨i + 1, by go_num, by omega, ⟨by rw [← HS.out, hz]; exact HO.out⟩, ⟨by rw [← HS.out, hz]; exact HRj.out⟩, ⟨pw_below_drewN HF.out _⟩⟩
          case measure => simp [intOf] <;> omega
        | succ j =>
          obtain ⟨y1, y1f⟩ := HO.out.at (j + 1) (by omega)
          obtain ⟨y0, y0f⟩ := HO.out.at j (by omega)
          have hjn : (j : Int) + 1 < (xs.length : Int) := by omega
          have hj0n : (j : Int) < (xs.length : Int) := by omega
          have hr1 := HRj.out _ (List.getElem_mem (show j + 1 < ys.length by omega))
          have hr0 := HRj.out _ (List.getElem_mem (show j < ys.length by omega))
          have HG1 : Aside0 (ys.getD (j + 1) 0 = ys[j + 1]) := ⟨getD_at _ _ _⟩
          have HG0 : Aside0 (ys.getD j 0 = ys[j]) := ⟨getD_at _ _ _⟩
          have HU : Aside0 (sink ys (j + 1) = if litLt (ys.getD (j + 1) 0) (ys.getD j 0) then sink (swapAt ys (j + 1)) j else ys) := ⟨rfl⟩
          rw [HG1.out, HG0.out] at HU
          have HSW : Aside0 (swapAt ys (j + 1) = (ys.set (j + 1) ys[j]).set j ys[j + 1]) := ⟨by unfold swapAt; rw [HG1.out, Nat.add_sub_cancel, HG0.out]⟩
          have HMM : Aside0 (∀ x, x ∈ swapAt ys (j + 1) → x ∈ ys) := ⟨fun x hx => swapAt_mem (by omega) hx⟩
          go_wp2_with fail
          have hj1p : (0 : Int) ≤ (j : Int) + 1 := by omega
          have hwj : IntKind.i64.wrap (j : Int) = (j : Int) := IntWalk.i64_in _ (by omega)
          go_still_tail 14, (by kernel_rfl)
          change wpList _ _ _ _ _ wr.drew
          have HO1 := Aside0.mk (HO.out.below (below_drew (Below.refl _ _)))
          have HF1 := Aside0.mk (below_drew HF.out)
          have hLt := Aside0.mk (Less_calls wr.drew ys[j + 1] ys[j] hr1 hr0)
          clear HO HF y1 y1f y0 y0f
          generalize wr.drew = w2 at HO1 HF1 hLt ⊢
          go_wp2_with fail
          refine hLt.out.mono ?_
          rintro e w3 ⟨d, hd, rfl, hb⟩
          have HO3 := Aside0.mk (HO1.out.below hb)
          have HF3 : Aside0 (Below B w w3) := ⟨HF1.out.trans (hb.mono (Nat.le_trans HBB.out HF1.out.size))⟩
          clear hb HO1 HF1 hLt
          by_cases hlt2 : litLt ys[j + 1] ys[j] = true
          · have hd0 : d < 0 := hd.2 hlt2
            rw [if_pos hlt2] at HU
            go_wp2_with fail
            obtain ⟨y1, y1f⟩ := HO3.out.at (j + 1) (by omega)
            obtain ⟨y0, y0f⟩ := HO3.out.at j (by omega)
            have HO5 : Aside0 (ORow (((w3.setCell ⟨g, j + 1, none⟩ (.int .i64 ys[j])).setCell ⟨g, j, none⟩ (.int .i64 ys[j + 1])).drew) B g c (swapAt ys (j + 1))) := ⟨by rw [HSW.out]; exact ((HO3.out.store (j + 1) ys[j]).store j ys[j + 1])⟩
            have HF5 : Aside0 (Below B w (((w3.setCell ⟨g, j + 1, none⟩ (.int .i64 ys[j])).setCell ⟨g, j, none⟩ (.int .i64 ys[j + 1])).drew)) := ⟨below_drew ((HF3.out.setCell HO3.out.base _).setCell HO3.out.base _)⟩
            go_region
            go_wp2_with fail
            go_roundw
            case rel => exact ⟨j, swapAt ys (j + 1), by go_num, by omega, by rw [swapAt_len]; exact hyl, HO5, ⟨fun x hx => HRj.out x (HMM.out x hx)⟩, ⟨by rw [← HU.out]; exact HS.out⟩, HF5⟩
            case measure => simp [intOf] <;> omega
          · have hd0 : 0 ≤ d := by have := mt hd.1 hlt2; omega
            rw [if_neg hlt2] at HU
            go_wp2_with fail
            go_roundw
            case rel => exact ⟨i + 1, by go_num, by omega, ⟨by rw [← HS.out, HU.out]; exact HO3.out⟩, ⟨by rw [← HS.out, HU.out]; exact HRj.out⟩, HF3⟩
            case measure => simp [intOf] <;> omega
    · go_wp2_with fail
      go_end0
      have hi2 : i = xs.length - 1 := by omega
      subst hi2
      exact ⟨rfl, HO.out, HF.out⟩

end Go.Proofs.YtbahanlnkikpeaaGreat
