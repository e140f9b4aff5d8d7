import Derived.Test.YtbahanlnkikpeaaGreatRulesG
import Derived.Test.YtbahanlnkikpeaaGreatCloG
import Derived.DeepKeys4
namespace Go.Proofs.YtbahanlnkikpeaaGreat
open Go.RowKit Go.Proofs.YtbahanlnkikpeaaGreatW.PrintWords Go.Proofs.YtbahanlnkikpeaaGreatW.PrintLast
set_option linter.unusedVariables false
set_option linter.unusedSimpArgs false
section
set_option maxRecDepth 100000
set_option maxHeartbeats 2000000
/-! slices.Clone of numbers and of rules. -/
theorem OwnI.lit0' (w : World) (B : Nat) (hB : B ≤ w.heap.size) : OwnI (w.alloc (.cells #[] 3)) B (.slice (some ⟨w.heap.size, 0, none⟩) 0 0) [] :=
  Kd.R_of_own (own_lit_of (enc := Value.int .i64) w B 3 [] hB (by simp)) (fun _ _ => trivial)
theorem CloneI_calls (w : World) (A : Option Addr) (c : Nat) (xs : List Int) (h : Kd.C (Kd.int .i64) w A xs.length xs) (hl : xs.length < 1000000000000) :
   Calls Tryz.prog 45 #[.slice A xs.length c] w (RetI w xs) := by
  have H := Aside0.mk h
  clear h
  cases A with
  | none =>
    have hx : xs = [] := by
      cases xs with
      | nil => rfl
      | cons x xs => obtain ⟨ad, e, -⟩ := at_i64 H.out 0 (by simp); cases e
    subst hx
    have hnil : Sem.run Tryz.prog (binOp BinOp.eql 35 (.slice none 0 c) (.slice none 0 0)) w = .ok (.bool true) w := by kernel_rfl
    simp only [List.length_nil]
    go_enter Tryz.func45, Tryz.ntmps45
    go_wp2_with fail
    go_ret
    exact ⟨_, rfl, OwnI.nil _ _, Below.refl _ _⟩
  | some ad =>
    have HO := Aside0.mk (OwnI.lit0' w w.heap.size (Nat.le_refl _))
    have HB := Aside0.mk (below_alloc (Below.refl w.heap.size w) (.cells #[] 3))
    have hnil : Sem.run Tryz.prog (binOp BinOp.eql 35 (.slice (some ad) xs.length c) (.slice none 0 0)) w = .ok (.bool false) w := by kernel_rfl
    go_enter Tryz.func45, Tryz.ntmps45
    go_wp2_with (first | (at_builtin; refine Kd.R_append_row (w0 := w) (Value.int .i64) 0 w.heap.size rfl (.tmp 5) (.tmp 6) 35 3 (.int .i64 0) 8 rfl Tryz.underlying35 info_int rfl (by omega) _ [] xs (some ad) xs.length c (fun _ => True) rfl rfl (fun _ _ => trivial) HO.out (Kd.C_below H.out HB.out) HB.out HB.out.size (by simp only [List.length_nil]; omega) ?_; intro v1 w2 hO hB hg hat))
    go_ret
    rw [List.nil_append] at hO
    exact ⟨_, rfl, hO, hB⟩
theorem CloneRl_calls (w : World) (A : Option Addr) (c : Nat) (xs : List DRule) (h : Kd.C kRule w A xs.length xs) (hl : xs.length < 1000000000000) :
   Calls Tryz.prog 37 #[.slice A xs.length c] w (fun e w' => ∃ v, e = .returned v ∧ OwnRl w' w.heap.size v xs ∧ Below w.heap.size w w') := by
  have H := Aside0.mk h
  cases A with
  | none =>
    have hx : xs = [] := by
      cases xs with
      | nil => rfl
      | cons x xs => obtain ⟨ad, e, -⟩ := h.2.2 (by simp); cases e
    clear h
    subst hx
    have hnil : Sem.run Tryz.prog (binOp BinOp.eql 31 (.slice none 0 c) (.slice none 0 0)) w = .ok (.bool true) w := by kernel_rfl
    simp only [List.length_nil]
    go_enter Tryz.func37, Tryz.ntmps37
    go_wp2_with fail
    go_ret
    exact ⟨_, rfl, OwnRl.nil _ _, Below.refl _ _⟩
  | some ad =>
    clear h
    have HO := Aside0.mk (OwnRl.lit0 w w.heap.size (Nat.le_refl _))
    have HB := Aside0.mk (below_alloc (Below.refl w.heap.size w) (.cells #[] 45))
    have hnil : Sem.run Tryz.prog (binOp BinOp.eql 31 (.slice (some ad) xs.length c) (.slice none 0 0)) w = .ok (.bool false) w := by kernel_rfl
    go_enter Tryz.func37, Tryz.ntmps37
    go_wp2_with (first | (at_builtin; refine Kd.R_append_rows kRule (w0 := w) (Rr := kRule.K (w.alloc (.cells #[] 45))) w.heap.size rfl (.tmp 5) (.tmp 6) 31 45 (.agg #[(.int .u8 0), (.int .i64 0), (.int .i64 0), (.int .i64 0)]) 32 rfl Tryz.underlying31 info_rule rfl (by decide) (by omega) _ [] xs (some ad) xs.length c (fun _ => True) (fun _ => False) rfl rfl HO.out (Kd.C_below H.out HB.out) (fun x cs hk => by rw [kRule_open hk]; exact kRule_mkM _ _ _ _) (fun _ hk => hk.elim) (fun _ _ => trivial) HB.out HB.out.size (by simp only [List.length_nil]; omega) ?_; intro v1 w2 hO hB hg hat))
    go_ret
    rw [List.nil_append] at hO
    exact ⟨_, rfl, hO, hB⟩

end
section
set_option maxRecDepth 100000
set_option maxHeartbeats 2000000
/-! The ground: seven cells, behind a pointer. -/
def GroundAt (w : World) (g : Nat) (A : Option Addr) (n c : Nat) (A2 : Option Addr) (n2 c2 : Nat) (B : Option Addr) (nB d : Nat) (Ai : Option Addr) (nI cI : Nat) (Ar : Option Addr) (nR cR : Nat) (tb bb : Value) : Prop :=
  w.heap[g]? = some (.cells #[.slice A n c, .slice A2 n2 c2, .slice B nB d, .slice Ai nI cI, .slice Ar nR cR, tb, bb] 91 (0, 0))
theorem Places_calls (w : World) (g : Nat) {A : Option Addr} {n c : Nat} {A2 : Option Addr} {n2 c2 : Nat} {B : Option Addr} {nB d : Nat} {Ai : Option Addr} {cI : Nat} {Ar : Option Addr} {nR cR : Nat} {tb bb : Value} (xs : List Int)
    (h : GroundAt w g A n c A2 n2 c2 B nB d Ai xs.length cI Ar nR cR tb bb) (hx : Kd.C (Kd.int .i64) w Ai xs.length xs) (hl : xs.length < 1000000000000) :
   Calls Tryz.prog 26 #[.pointer (some ⟨g, 0, none⟩)] w (RetI w xs) := by
  have H := Aside0.mk hx
  clear hx
  obtain ⟨x0, x1, x2, x3, x4, x5, x6⟩ := cells7 h
  clear h
  go_enter Tryz.func26, Tryz.ntmps26
  go_wp2_with fail
  refine (CloneI_calls _ _ _ _ H.out hl).mono ?_
  rintro e w1 ⟨v, rfl, hO, hb⟩
  go_wp2_with fail
  go_ret
  exact ⟨_, rfl, hO, hb⟩
theorem RulesOf_calls (w : World) (g : Nat) {A : Option Addr} {n c : Nat} {A2 : Option Addr} {n2 c2 : Nat} {B : Option Addr} {nB d : Nat} {Ai : Option Addr} {nI cI : Nat} {Ar : Option Addr} {cR : Nat} {tb bb : Value} (xs : List DRule)
    (h : GroundAt w g A n c A2 n2 c2 B nB d Ai nI cI Ar xs.length cR tb bb) (hx : Kd.C kRule w Ar xs.length xs) (hl : xs.length < 1000000000000) :
   Calls Tryz.prog 10 #[.pointer (some ⟨g, 0, none⟩)] w (fun e w' => ∃ v, e = .returned v ∧ OwnRl w' w.heap.size v xs ∧ Below w.heap.size w w') := by
  have H := Aside0.mk hx
  clear hx
  obtain ⟨x0, x1, x2, x3, x4, x5, x6⟩ := cells7 h
  clear h
  go_enter Tryz.func10, Tryz.ntmps10
  go_wp2_with fail
  refine (CloneRl_calls _ _ _ _ H.out hl).mono ?_
  rintro e w1 ⟨v, rfl, hO, hb⟩
  go_wp2_with fail
  go_ret
  exact ⟨_, rfl, hO, hb⟩
theorem HasG_same (w : World) (g : Nat) {A : Option Addr} {n c : Nat} {A2 : Option Addr} {n2 c2 : Nat} {B : Option Addr} {nB d : Nat} {Ai : Option Addr} {cI : Nat} {Ar : Option Addr} {nR cR : Nat} {tb bb : Value} (xs : List Int) (p : Int)
    (h : GroundAt w g A n c A2 n2 c2 B nB d Ai xs.length cI Ar nR cR tb bb) (hx : Kd.C (Kd.int .i64) w Ai xs.length xs) :
   Calls Tryz.prog 23 #[.pointer (some ⟨g, 0, none⟩), .int .i64 p] w (fun e w' => e = .returned (.bool (hasI xs p)) ∧ w' = w) := by
  have H := Aside0.mk hx
  clear hx
  obtain ⟨x0, x1, x2, x3, x4, x5, x6⟩ := cells7 h
  clear h
  go_enter Tryz.func23, Tryz.ntmps23
  go_wp2_with fail
  refine (ContainsI_same _ _ _ _ _ H.out).mono ?_
  rintro e w1 ⟨rfl, rfl⟩
  go_wp2_with fail
  go_ret
  exact ⟨rfl, rfl⟩
theorem TableG_same (w : World) (g : Nat) {A : Option Addr} {n c : Nat} {A2 : Option Addr} {n2 c2 : Nat} {B : Option Addr} {nB d : Nat} {Ai : Option Addr} {nI cI : Nat} {Ar : Option Addr} {nR cR : Nat} {tb bb : Value}
    (h : GroundAt w g A n c A2 n2 c2 B nB d Ai nI cI Ar nR cR tb bb) :
   Calls Tryz.prog 18 #[.pointer (some ⟨g, 0, none⟩)] w (fun e w' => e = .returned tb ∧ w' = w) := by
  obtain ⟨x0, x1, x2, x3, x4, x5, x6⟩ := cells7 h
  clear h
  go_enter Tryz.func18, Tryz.ntmps18
  go_wp2_with fail
  go_ret
  exact ⟨rfl, rfl⟩
theorem BuilderG_same (w : World) (g : Nat) {A : Option Addr} {n c : Nat} {A2 : Option Addr} {n2 c2 : Nat} {B : Option Addr} {nB d : Nat} {Ai : Option Addr} {nI cI : Nat} {Ar : Option Addr} {nR cR : Nat} {tb bb : Value}
    (h : GroundAt w g A n c A2 n2 c2 B nB d Ai nI cI Ar nR cR tb bb) :
   Calls Tryz.prog 15 #[.pointer (some ⟨g, 0, none⟩)] w (fun e w' => e = .returned bb ∧ w' = w) := by
  obtain ⟨x0, x1, x2, x3, x4, x5, x6⟩ := cells7 h
  clear h
  go_enter Tryz.func15, Tryz.ntmps15
  go_wp2_with fail
  go_ret
  exact ⟨rfl, rfl⟩
theorem RecipeG_calls (w : World) (g : Nat) {A : Option Addr} {n c : Nat} {A2 : Option Addr} {n2 c2 : Nat} {B : Option Addr} {nB d : Nat} {Ai : Option Addr} {nI cI : Nat} {Ar : Option Addr} {nR cR : Nat} {tb bb : Value}
    (h : GroundAt w g A n c A2 n2 c2 B nB d Ai nI cI Ar nR cR tb bb) :
   Calls Tryz.prog 28 #[.pointer (some ⟨g, 0, none⟩)] w (RetB w (.agg #[.slice A n c, .slice A2 n2 c2])) := by
  obtain ⟨x0, x1, x2, x3, x4, x5, x6⟩ := cells7 h
  have hlt : g < w.heap.size := blk_lt h
  clear h
  go_enter Tryz.func28, Tryz.ntmps28
  go_wp2_with fail
  refine bodyPost_ret (v := .agg #[.slice A n c, .slice A2 n2 c2]) (by simp [results, Tryz.results28, go_sem]) rfl ?_
  exact ⟨rfl, below_alloc (Below.refl _ _) _⟩
theorem RequestG_calls (w : World) (g : Nat) {A : Option Addr} {n c : Nat} {A2 : Option Addr} {n2 c2 : Nat} {B : Option Addr} {nB d : Nat} {Ai : Option Addr} {nI cI : Nat} {Ar : Option Addr} {nR cR : Nat} {tb bb : Value}
    (h : GroundAt w g A n c A2 n2 c2 B nB d Ai nI cI Ar nR cR tb bb) :
   Calls Tryz.prog 27 #[.pointer (some ⟨g, 0, none⟩)] w (RetB w (.agg #[.slice B nB d])) := by
  obtain ⟨x0, x1, x2, x3, x4, x5, x6⟩ := cells7 h
  have hlt : g < w.heap.size := blk_lt h
  clear h
  go_enter Tryz.func27, Tryz.ntmps27
  go_wp2_with fail
  refine bodyPost_ret (v := .agg #[.slice B nB d]) (by simp [results, Tryz.results27, go_sem]) rfl ?_
  exact ⟨rfl, below_alloc (Below.refl _ _) _⟩

end
section
set_option maxRecDepth 100000
set_option maxHeartbeats 2000000
/-! The table of atoms: five cells, behind a pointer: the map, the row of atoms, the limit, and its flag (the fourth cell is a flag's neighbour). -/
def TableAt (w : World) (g : Nat) (m : Nat) (A : Option Addr) (n c : Nat) (lim : Int) (u v : Value) : Prop :=
  w.heap[g]? = some (.cells #[.map (some m), .slice A n c, .int .i64 lim, u, v] 114 (0, 0))
theorem FullG_same (w : World) (g m : Nat) {A : Option Addr} {n c : Nat} {lim : Int} {u : Value} {b : Bool} (h : TableAt w g m A n c lim u (.bool b)) :
   Calls Tryz.prog 19 #[.pointer (some ⟨g, 0, none⟩)] w (fun e w' => e = .returned (.bool b) ∧ w' = w) := by
  have x4 : w.cell? ⟨g, 4, none⟩ = some (.bool b) := blk_cell h 4
  clear h
  go_enter Tryz.func19, Tryz.ntmps19
  go_wp2_with fail
  go_ret
  exact ⟨rfl, rfl⟩
theorem LenG_same (w : World) (g m : Nat) {A : Option Addr} {n c : Nat} {lim : Int} {u v : Value} (h : TableAt w g m A n c lim u v) :
   Calls Tryz.prog 21 #[.pointer (some ⟨g, 0, none⟩)] w (fun e w' => e = .returned (.int .i64 n) ∧ w' = w) := by
  have x1 : w.cell? ⟨g, 1, none⟩ = some (.slice A n c) := blk_cell h 1
  clear h
  go_enter Tryz.func21, Tryz.ntmps21
  go_wp2_with fail
  go_ret
  exact ⟨rfl, rfl⟩
theorem NewT_calls (w : World) (lim : Int) (h0 : 0 ≤ lim) (h1 : lim ≤ 65536) :
   Calls Tryz.prog 35 #[.int .i64 lim] w (fun e w' => e = .returned (.pointer (some ⟨w.heap.size + 1, 0, none⟩)) ∧ ∃ u, TableAt w' (w.heap.size + 1) w.heap.size none 0 0 lim u (.bool false) ∧ w'.heap[w.heap.size]? = some (.map #[] 0) ∧ Below w.heap.size w w') := by
  have hmk := run_makeMap (P := Tryz.prog) 111 w
  go_enter Tryz.func35, Tryz.ntmps35
  go_wp2_with fail
  go_ret
  have hm : min (max lim 0) 65536 = lim := by omega
  refine ⟨by simp, .int .i64 0, ?_, blk_alloc (blk_new _ _) _, below_alloc (below_alloc (Below.refl _ _) _) _⟩
  rw [hm]
  exact blk_new1 w (.map #[] 0) (.cells #[.map (some w.heap.size), .slice none 0 0, .int .i64 lim, .int .i64 0, .bool false] 114)

end
section
open Go.RowKit Go.Maps Go.Sort Go.Shelf
/-! A map keyed by atoms. -/
theorem keyedA : Keyed Tryz.prog 96 := Keyed.of_law (deep_law_laid (m := 20) (by kernel_rfl) (by decide) (of_decide_eq_true (by kernel_rfl)) (by kernel_rfl) (by kernel_rfl))
def atomV (x : DAtom) : Value := .agg #[.int .u8 x.kind, .int .i64 x.a, .int .i64 x.b, .int .i64 x.c]
/-- An atom that fits its cells. -/
def AtOK (x : DAtom) : Prop := (Lit.int .u8 x.kind).wf = true ∧ (Lit.int .i64 x.a).wf = true ∧ (Lit.int .i64 x.b).wf = true ∧ (Lit.int .i64 x.c).wf = true
def keyA (x : DAtom) : Lit := .string (keyBytes [.int .u8 x.kind, .int .i64 x.a, .int .i64 x.b, .int .i64 x.c])
theorem ntypes : ∃ m, (Tryz.prog).types.size = m + 1 := ⟨(Tryz.prog).types.size - 1, by kernel_rfl⟩
theorem lits_int {n : Nat} {x : Int} (h : (Lit.int .i64 x).wf = true) : (Tryz.prog).keyLits (n + 1) 3 [.int .i64 x] = some [.int .i64 x] := by
  unfold Program.keyLits
  simp [Tryz.underlying3, h]
theorem lits_u8 {n : Nat} {x : Int} (h : (Lit.int .u8 x).wf = true) : (Tryz.prog).keyLits (n + 1) 5 [.int .u8 x] = some [.int .u8 x] := by
  unfold Program.keyLits
  simp [Tryz.underlying5, h]
theorem keyOf_atom {x : DAtom} (h : AtOK x) : keyOf Tryz.prog 96 (atomV x) = some (keyA x) := by
  obtain ⟨h0, h1, h2, h3⟩ := h
  unfold keyOf atomV keyA
  simp [Tryz.underlying96]
  refine ⟨⟨by kernel_rfl, by kernel_rfl⟩, [.int .u8 x.kind, .int .i64 x.a, .int .i64 x.b, .int .i64 x.c], ?_, rfl⟩
  unfold Program.keyLits
  simp only [Tryz.underlying96, Value.cells]
  have c0 : (Tryz.prog).cellsOf 96 = 4 := by kernel_rfl
  have c1 : (Tryz.prog).cellsOf 3 = 1 := by kernel_rfl
  have c2 : (Tryz.prog).cellsOf 5 = 1 := by kernel_rfl
  rw [if_pos ⟨by rw [c0]; rfl, by kernel_rfl⟩]
  simp [List.mapM_cons, c1, c2, lits_int h1, lits_int h2, lits_int h3, lits_u8 h0]

end
section
open Go.RowKit Go.Maps Go.Sort Go.Shelf
/-! What a call leaves as it was, told by the kinds of the objects. -/
structure Keep (T : Obj → Prop) (w w1 : World) : Prop where
  size : w.heap.size ≤ w1.heap.size
  obj : ∀ (b : Nat) (o : Obj), w.heap[b]? = some o → ¬ T o → w1.heap[b]? = some o
theorem Keep.refl (T : Obj → Prop) (w : World) : Keep T w w := ⟨Nat.le_refl _, fun _ _ h _ => h⟩
theorem Keep.trans {T : Obj → Prop} {w w1 w2 : World} (h : Keep T w w1) (k : Keep T w1 w2) : Keep T w w2 := ⟨Nat.le_trans h.size k.size, fun b o hb hT => k.obj b o (h.obj b o hb hT) hT⟩
theorem Keep.of_below (T : Obj → Prop) {w w1 : World} (h : Below w.heap.size w w1) : Keep T w w1 := ⟨h.size, fun b o hb _ => (h.block b (blk_lt hb)).trans hb⟩
theorem Keep.mono {T T' : Obj → Prop} {w w1 : World} (h : Keep T w w1) (hT : ∀ o, T o → T' o) : Keep T' w w1 := ⟨h.size, fun b o hb hn => h.obj b o hb (fun ht => hn (hT o ht))⟩
theorem Keep.step {T : Obj → Prop} {w w1 w2 : World} (h : Keep T w w1) (hb : Below w1.heap.size w1 w2) : Keep T w w2 := h.trans (Keep.of_below T hb)
theorem Keep.of_grown {T : Obj → Prop} {w w1 : World} {row : Option Nat} (hg : w.grownBy w1 row) (hr : ∀ k, row = some k → ∃ o, w.heap[k]? = some o ∧ T o) : Keep T w w1 := by
  refine ⟨hg.size, fun b o hb hT => (hg.block b (blk_lt hb) (fun e => ?_)).trans hb⟩
  obtain ⟨o', ho', hT'⟩ := hr b e.symm
  rw [hb] at ho'
  injection ho' with ho'
  exact hT (ho' ▸ hT')
/-- An append to a row of one's own. -/
theorem Keep.of_row {α : Type} {d : Kd α} {e : Nat} {T : Obj → Prop} {w w1 : World} {base : Nat} {ok : Nat → Prop} {v : Value} {xs : List α} (h : d.R e w base ok v xs) (hg : w.grownBy w1 v.ownBlock) (hT : ∀ cs, T (.cells cs e (0, 0))) : Keep T w w1 :=
  Keep.of_grown hg (fun k hk => by obtain ⟨cells, hc⟩ := Kd.R_typed h k hk; exact ⟨_, hc, hT _⟩)
theorem Keep.set {T : Obj → Prop} {w : World} {g t : Nat} {cs : Array Value} (h : w.heap[g]? = some (.cells cs t (0, 0))) (hT : ∀ cs, T (.cells cs t (0, 0))) (j : Nat) (u : Value) : Keep T w (w.setCell ⟨g, j, none⟩ u) := by
  refine ⟨by simp, fun b o hb hn => ?_⟩
  by_cases e : b = g
  · subst e
    rw [h] at hb
    injection hb with hb
    exact absurd (hb ▸ hT cs) hn
  · exact (Below.heap_setCell w ⟨g, j, none⟩ u b e).trans hb
theorem Keep.blk {T : Obj → Prop} {w w1 : World} (h : Keep T w w1) {b : Nat} {o : Obj} (hb : w.heap[b]? = some o) (hT : ¬ T o) : w1.heap[b]? = some o := h.obj b o hb hT
/-- A row stands where the objects of its types are kept. -/
theorem Keep.row {α : Type} {d : Kd α} {e : Nat} {T : Obj → Prop} {w w1 : World} {base : Nat} {ok : Nat → Prop} {v : Value} {xs : List α} (hk : Keep T w w1) (h : d.R e w base ok v xs) (hT : ∀ q, q ∈ e :: d.E → ∀ cs, ¬ T (.cells cs q (0, 0))) : d.R e w1 base ok v xs := by
  refine Kd.R_mono (Kd.R_move (Kd.R_bound h) (fun k hk' => ?_)) (fun _ hk => hk.1)
  obtain ⟨_, _, _, q, hq, cells, hc⟩ := hk'
  rw [hc]
  exact hk.obj k _ hc (hT q hq cells)
theorem Keep.map {T : Obj → Prop} {w w1 : World} {P : Program} {k m n : Nat} {R : Value → Option (DM × List MemPlace)} {D : DM} (hk : Keep T w w1) (h : w.ownsMap P k R m n D) (hT : ∀ es c, ¬ T (.map es c)) : w1.ownsMap P k R m n D := by
  obtain ⟨es, clock, hb, r⟩ := h
  exact ⟨es, clock, hk.obj m _ hb (hT _ _), r⟩
/-! What a table of atoms changes, what a builder of clauses changes. -/
def TabO (o : Obj) : Prop := (∃ es c, o = .map es c) ∨ ∃ cs t, o = .cells cs t (0, 0) ∧ (t = 114 ∨ t = 96)
def BldO (o : Obj) : Prop := ∃ cs t, o = .cells cs t (0, 0) ∧ (t = 109 ∨ t = 35)
theorem TabO.row (cs : Array Value) : TabO (.cells cs 96 (0, 0)) := .inr ⟨cs, _, rfl, .inr rfl⟩
theorem TabO.tab (cs : Array Value) : TabO (.cells cs 114 (0, 0)) := .inr ⟨cs, _, rfl, .inl rfl⟩
theorem TabO.map (es : Array MapEntry) (c : Nat) : TabO (.map es c) := .inl ⟨es, c, rfl⟩
theorem TabO.not {cs : Array Value} {t : Nat} (h1 : t ≠ 114) (h2 : t ≠ 96) : ¬ TabO (.cells cs t (0, 0)) := by
  rintro (⟨_, _, e⟩ | ⟨_, _, e, h⟩)
  · cases e
  · injection e with e1 e2
    subst e2
    exact h.elim h1 h2
theorem BldO.row (cs : Array Value) : BldO (.cells cs 35 (0, 0)) := ⟨cs, _, rfl, .inr rfl⟩
theorem BldO.bld (cs : Array Value) : BldO (.cells cs 109 (0, 0)) := ⟨cs, _, rfl, .inl rfl⟩
theorem BldO.not {cs : Array Value} {t : Nat} (h1 : t ≠ 109) (h2 : t ≠ 35) : ¬ BldO (.cells cs t (0, 0)) := by
  rintro ⟨_, _, e, h⟩
  injection e with e1 e2
  subst e2
  exact h.elim h1 h2
theorem BldO.notmap (es : Array MapEntry) (c : Nat) : ¬ BldO (.map es c) := by rintro ⟨_, _, e, _⟩; cases e

end
section
/-! What the ground builds, in plain Lean: the table of atoms, the clauses. -/
instance : DecidableEq DAtom := fun a b =>
  if h : a.kind = b.kind ∧ a.a = b.a ∧ a.b = b.b ∧ a.c = b.c then .isTrue (by cases a; cases b; simp at h; simp [h]) else .isFalse (by rintro rfl; exact h ⟨rfl, rfl, rfl, rfl⟩)
/-- The place of an atom in a row, from k on; 0: none. -/
def numTo (a : DAtom) : List DAtom → Nat → Nat
  | [], _ => 0
  | x :: l, k => if x = a then k + 1 else numTo a l (k + 1)
def numOf (l : List DAtom) (a : DAtom) : Nat := numTo a l 0
structure TS where
  l : List DAtom
  full : Bool
def TS.num (lim : Nat) (t : TS) (a : DAtom) : Nat := if numOf t.l a ≠ 0 then numOf t.l a else if lim ≤ t.l.length then 0 else t.l.length + 1
def TS.put (lim : Nat) (t : TS) (a : DAtom) : TS := if numOf t.l a ≠ 0 then t else if lim ≤ t.l.length then ⟨t.l, true⟩ else ⟨t.l ++ [a], t.full⟩
theorem numTo_snoc (a b : DAtom) : ∀ (l : List DAtom) (k : Nat), numTo a (l ++ [b]) k = if numTo a l k ≠ 0 then numTo a l k else if b = a then k + l.length + 1 else 0
  | [], k => by simp [numTo]
  | x :: l, k => by
    simp only [List.cons_append, numTo]
    by_cases h : x = a
    · simp [h]
    · simp only [h, if_false]
      rw [numTo_snoc a b l (k + 1)]
      simp only [List.length_cons]
      have : k + 1 + l.length + 1 = k + (l.length + 1) + 1 := by omega
      rw [this]
theorem numOf_snoc (a b : DAtom) (l : List DAtom) : numOf (l ++ [b]) a = if numOf l a ≠ 0 then numOf l a else if b = a then l.length + 1 else 0 := by
  unfold numOf
  rw [numTo_snoc]
  simp
theorem numTo_le (a : DAtom) : ∀ (l : List DAtom) (k : Nat), numTo a l k ≤ k + l.length
  | [], k => by simp [numTo]
  | x :: l, k => by
    unfold numTo
    split
    · simp
    · have := numTo_le a l (k + 1); rw [List.length_cons]; omega
theorem numOf_le (a : DAtom) (l : List DAtom) : numOf l a ≤ l.length := by have := numTo_le a l 0; unfold numOf; omega
/-! Clauses. -/
def absI (x : Int) : Int := max x (-x)
/-- Before: by the atom's number, then by the literal. -/
def litLt (x y : Int) : Bool := decide (absI x < absI y) || (decide (absI x = absI y) && decide (x < y))
/-- One element is brought to its place: from place j downward. -/
def swapAt (xs : List Int) (j : Nat) : List Int := (xs.set j (xs.getD (j - 1) 0)).set (j - 1) (xs.getD j 0)
def sink (xs : List Int) : Nat → List Int
  | 0 => xs
  | j + 1 => if litLt (xs.getD (j + 1) 0) (xs.getD j 0) then sink (swapAt xs (j + 1)) j else xs
/-- The first i + 1 places are in order. -/
def isortTo (xs : List Int) : Nat → List Int
  | 0 => xs
  | i + 1 => sink (isortTo xs i) (i + 1)
def isortI (xs : List Int) : List Int := isortTo xs (xs.length - 1)
/-- A row of literals of different atoms, few. -/
structure GoodC (l : List Int) : Prop where
  ne : l ≠ []
  len : l.length ≤ 12
  lit : ∀ x ∈ l, x ≠ 0 ∧ -1000000 < x ∧ x < 1000000
  diff : (l.map absI).Nodup
/-- A builder: its clauses; were there too many? -/
structure BS where
  l : List (List Int)
  full : Bool
def BS.add (b : BS) (l : List Int) : BS := if 262144 ≤ b.l.length then ⟨b.l, true⟩ else ⟨b.l ++ [isortI l], b.full⟩
def BS.most (b : BS) : List Int → BS
  | [] => b
  | x :: l => BS.most (l.foldl (fun b y => b.add [-x, -y]) b) l
def BS.one (b : BS) (node : Int) (row : List Int) : BS :=
  if node = 0 ∨ (0 : Int) ∈ row then b else row.foldl (fun b n => b.add [-n, node]) ((b.add (-node :: row)).most row)
/-- A row of atoms gets numbers. -/
def TS.nums (lim : Nat) (t : TS) : List DAtom → List Int
  | [] => []
  | a :: l => (t.num lim a : Int) :: TS.nums lim (t.put lim a) l
def TS.puts (lim : Nat) (t : TS) (l : List DAtom) : TS := l.foldl (TS.put lim) t
structure GS where
  t : TS
  b : BS
def nodeA (p : Nat) : DAtom := ⟨1, p, 0, 0⟩
def relA (p i : Nat) : DAtom := ⟨2, p, i, 0⟩
def valA (p j k : Nat) : DAtom := ⟨3, p, j, k⟩
def GS.rowOne (lim : Nat) (node : Int) (g : GS) (l : List DAtom) : GS := ⟨g.t.puts lim l, g.b.one node (g.t.nums lim l)⟩
def relAs (p n : Nat) : List DAtom := (List.range n).map (relA p)
def valAs (p j n : Nat) : List DAtom := (List.range n).map (valA p j)
def GS.vars (lim : Nat) (node : Int) (p : Nat) (g : GS) (vs : List DVariant) (n : Nat) : GS := (List.range n).foldl (fun g j => g.rowOne lim node (valAs p j (vs.getD j zVariant).values.length)) g
def GS.pkg (lim : Nat) (ps : List DPackage) (g : GS) (p : Nat) : GS :=
  let k := ps.getD p zPackage
  let node : Int := g.t.num lim (nodeA p)
  GS.vars lim node p ((⟨g.t.put lim (nodeA p), g.b⟩ : GS).rowOne lim node (relAs p k.releases.length)) k.variants k.variants.length
def GS.start : GS := ⟨⟨[], false⟩, ⟨[], false⟩⟩
def GS.choices (lim : Nat) (ps : List DPackage) (g : GS) (places : List Nat) : GS := places.foldl (GS.pkg lim ps) g

end
end Go.Proofs.YtbahanlnkikpeaaGreat
