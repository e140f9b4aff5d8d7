import Derived.Test.YtbahanlnkikpeaaGreatRulesG
namespace Go.Proofs.YtbahanlnkikpeaaGreat
open Go.RowKit Go.Proofs.YtbahanlnkikpeaaGreatW.PrintWords Go.Proofs.YtbahanlnkikpeaaGreatW.PrintLast
set_option linter.unusedVariables false
set_option linter.unusedSimpArgs false
set_option maxRecDepth 100000
set_option maxHeartbeats 2000000
/-! slices.Clone of numbers and of rules. -/
theorem OwnI.lit0' (w : World) (B : Nat) (hB : B ≤ w.heap.size) : OwnI (w.alloc (.cells #[] 3)) B (.slice (some ⟨w.heap.size, 0, none⟩) 0 0) [] :=
  Kd.R_of_own (own_lit_of (enc := Value.int .i64) w B 3 [] hB (by simp)) (fun _ _ => trivial)
theorem CloneI_calls (w : World) (A : Option Addr) (c : Nat) (xs : List Int) (h : Kd.C (Kd.int .i64) w A xs.length xs) (hl : xs.length < 1000000000000) :
   Calls Tryz.prog 45 #[.slice A xs.length c] w (RetI w xs) := by
  have H := Aside0.mk h
  clear h
  cases A with
  | none =>
    have hx : xs = [] := by
      cases xs with
      | nil => rfl
      | cons x xs => obtain ⟨ad, e, -⟩ := at_i64 H.out 0 (by simp); cases e
    subst hx
    have hnil : Sem.run Tryz.prog (binOp BinOp.eql 35 (.slice none 0 c) (.slice none 0 0)) w = .ok (.bool true) w := by kernel_rfl
    simp only [List.length_nil]
    go_enter Tryz.func45, Tryz.ntmps45
    go_wp2_with fail
    go_ret
    exact ⟨_, rfl, OwnI.nil _ _, Below.refl _ _⟩
  | some ad =>
    have HO := Aside0.mk (OwnI.lit0' w w.heap.size (Nat.le_refl _))
    have HB := Aside0.mk (below_alloc (Below.refl w.heap.size w) (.cells #[] 3))
    have hnil : Sem.run Tryz.prog (binOp BinOp.eql 35 (.slice (some ad) xs.length c) (.slice none 0 0)) w = .ok (.bool false) w := by kernel_rfl
    go_enter Tryz.func45, Tryz.ntmps45
    go_wp2_with (first | (at_builtin; refine Kd.R_append_row (w0 := w) (Value.int .i64) 0 w.heap.size rfl (.tmp 5) (.tmp 6) 35 3 (.int .i64 0) 8 rfl Tryz.underlying35 info_int rfl (by omega) _ [] xs (some ad) xs.length c (fun _ => True) rfl rfl (fun _ _ => trivial) HO.out (Kd.C_below H.out HB.out) HB.out HB.out.size (by simp only [List.length_nil]; omega) ?_; intro v1 w2 hO hB hg hat))
    go_ret
    rw [List.nil_append] at hO
    exact ⟨_, rfl, hO, hB⟩
theorem CloneRl_calls (w : World) (A : Option Addr) (c : Nat) (xs : List DRule) (h : Kd.C kRule w A xs.length xs) (hl : xs.length < 1000000000000) :
   Calls Tryz.prog 37 #[.slice A xs.length c] w (fun e w' => ∃ v, e = .returned v ∧ OwnRl w' w.heap.size v xs ∧ Below w.heap.size w w') := by
  have H := Aside0.mk h
  cases A with
  | none =>
    have hx : xs = [] := by
      cases xs with
      | nil => rfl
      | cons x xs => obtain ⟨ad, e, -⟩ := h.2.2 (by simp); cases e
    clear h
    subst hx
    have hnil : Sem.run Tryz.prog (binOp BinOp.eql 31 (.slice none 0 c) (.slice none 0 0)) w = .ok (.bool true) w := by kernel_rfl
    simp only [List.length_nil]
    go_enter Tryz.func37, Tryz.ntmps37
    go_wp2_with fail
    go_ret
    exact ⟨_, rfl, OwnRl.nil _ _, Below.refl _ _⟩
  | some ad =>
    clear h
    have HO := Aside0.mk (OwnRl.lit0 w w.heap.size (Nat.le_refl _))
    have HB := Aside0.mk (below_alloc (Below.refl w.heap.size w) (.cells #[] 45))
    have hnil : Sem.run Tryz.prog (binOp BinOp.eql 31 (.slice (some ad) xs.length c) (.slice none 0 0)) w = .ok (.bool false) w := by kernel_rfl
    go_enter Tryz.func37, Tryz.ntmps37
    go_wp2_with (first | (at_builtin; refine Kd.R_append_rows kRule (w0 := w) (Rr := kRule.K (w.alloc (.cells #[] 45))) w.heap.size rfl (.tmp 5) (.tmp 6) 31 45 (.agg #[(.int .u8 0), (.int .i64 0), (.int .i64 0), (.int .i64 0)]) 32 rfl Tryz.underlying31 info_rule rfl (by decide) (by omega) _ [] xs (some ad) xs.length c (fun _ => True) (fun _ => False) rfl rfl HO.out (Kd.C_below H.out HB.out) (fun x cs hk => by rw [kRule_open hk]; exact kRule_mkM _ _ _ _) (fun _ hk => hk.elim) (fun _ _ => trivial) HB.out HB.out.size (by simp only [List.length_nil]; omega) ?_; intro v1 w2 hO hB hg hat))
    go_ret
    rw [List.nil_append] at hO
    exact ⟨_, rfl, hO, hB⟩

end Go.Proofs.YtbahanlnkikpeaaGreat
