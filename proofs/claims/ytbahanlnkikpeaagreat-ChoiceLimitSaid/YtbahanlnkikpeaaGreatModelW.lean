import Derived.Carry
import Derived.Deep.RegionLaw
import Derived.StillTailTactics
import Derived.Test.YtbahanlnkikpeaaGreatReach
namespace Go.Proofs.YtbahanlnkikpeaaGreat
open Go.RowKit Go.Proofs.YtbahanlnkikpeaaGreatW.PrintWords Go.Proofs.YtbahanlnkikpeaaGreatW.PrintLast
set_option linter.unusedVariables false
set_option linter.unusedSimpArgs false
section
open Go.RowKit Go.Maps
set_option maxRecDepth 100000
set_option maxHeartbeats 4000000
/-! What raw numbers choose. -/
theorem at_u8 {w : World} {A : Option Addr} {xs : List Int} (h : Kd.C (Kd.int .u8) w A xs.length xs) (k : Nat) (hk : k < xs.length) : ∃ ad, A = some ad ∧ w.cell? (ad.add k) = some (.int .u8 xs[k]) := by
  obtain ⟨ad, e, hc⟩ := Kd.at_int h k (by omega) (by omega)
  replace hc : w.cell? (ad.add k) = some (.int .u8 (xs.getD k 0)) := hc
  rw [getD_at _ _ hk] at hc
  exact ⟨ad, e, hc⟩
def SomeN (m : Nat) (w : World) (e : Ending) (w' : World) : Prop := ∃ n : Nat, (n = 0 ∨ n < m) ∧ e = .returned (.int .i64 n) ∧ w' = w
def Bytes (xs : List Int) : Prop := ∀ x ∈ xs, 0 ≤ x ∧ x ≤ 255
theorem pick_same (w : World) (A : Option Addr) (c : Nat) (xs : List Int) (h : Kd.C (Kd.int .u8) w A xs.length xs) (hr : Bytes xs) (p m : Nat) (hp : p < 1000000) (hm : m < 1000000) :
    Calls Tryz.prog 44 #[.slice A xs.length c, .int .i64 p, .int .i64 m] w (SomeN m w) := by
  have hmx := Kd.C_max h
  by_cases hpl : xs.length ≤ p
  · have h1 : (xs.length : Int) ≤ (p : Int) := by omega
    clear h hr hpl
    go_enter Tryz.func44, Tryz.ntmps44
    go_wp2_with fail
    go_ret
    exact ⟨0, .inl rfl, rfl, rfl⟩
  · have hlt : p < xs.length := by omega
    have h1 : (p : Int) < (xs.length : Int) := by omega
    obtain ⟨ad, e, y⟩ := at_u8 h p hlt
    obtain ⟨r0, r1⟩ := hr _ (List.getElem_mem hlt)
    subst e
    generalize xs[p] = x at *
    clear h hr hpl hlt
    by_cases hm0 : m < 1
    · have hm1 : (m : Int) < 1 := by omega
      go_enter Tryz.func44, Tryz.ntmps44
      go_wp2_with fail
      go_ret
      exact ⟨0, .inl rfl, rfl, rfl⟩
    · have hm1 : (1 : Int) ≤ (m : Int) := by omega
      go_enter Tryz.func44, Tryz.ntmps44
      go_wp2_with fail
      go_ret
      have h2 := Int.emod_nonneg x (show (m : Int) ≠ 0 by omega)
      have h3 := Int.emod_lt_of_pos x (show (0 : Int) < (m : Int) by omega)
      refine ⟨(x % (m : Int)).toNat, .inr (by omega), ?_, rfl⟩
      rw [Int.toNat_of_nonneg h2]
      rfl
theorem pick_same' (w : World) (A : Option Addr) (c : Nat) (xs : List Int) (h : Kd.C (Kd.int .u8) w A xs.length xs) (hr : Bytes xs) (p m : Nat) (hp : p < 1000000) (hm : m < 1000000) (q : Int) (hq : q = (m : Int)) :
    Calls Tryz.prog 44 #[.slice A xs.length c, .int .i64 p, .int .i64 q] w (SomeN m w) := by
  subst hq
  exact pick_same w A c xs h hr p m hp hm
def OwnCh (w : World) (B : Nat) (v : Value) (xs : List DCh) : Prop := Kd.R kCh 106 w B (fun _ => True) v xs
/-- A row of choices of one's own, none of its rows being the row u, nor the block g. -/
def OwnChx (w : World) (B g : Nat) (u v : Value) (xs : List DCh) : Prop := Kd.R kCh 106 w B (fun k => k ≠ g ∧ some k ≠ u.ownBlock) v xs
theorem kCh_E {q : Nat} (hq : q ∈ 106 :: kCh.E) : q = 106 ∨ q = 3 := by
  simp [kCh, Kd.iso, Kd.pair, Kd.slice, Kd.int, Kd.scalar] at hq
  exact hq
theorem info_ch : (Tryz.prog.info? 106).map (fun i => (i.zero, i.size, i.bytes)) = some (some (.agg #[.int .i64 0, .slice none 0 0]), 2, 32) := by kernel_rfl
theorem OwnCh.below {w w1 : World} {B : Nat} {v : Value} {xs : List DCh} (h : OwnCh w B v xs) (hb : Below w.heap.size w w1) : OwnCh w1 B v xs := Kd.R_below h hb
theorem OwnChx.below {w w1 : World} {B g : Nat} {u v : Value} {xs : List DCh} (h : OwnChx w B g u v xs) (hb : Below w.heap.size w w1) : OwnChx w1 B g u v xs := Kd.R_below h hb
theorem OwnCh.fresh {w : World} {B : Nat} {v : Value} {xs : List DCh} (h : OwnCh w B v xs) {w1 : World} (hb : Below w.heap.size w w1) (g : Nat) (hg : w.heap.size ≤ g) : OwnChx w1 B g (.slice none 0 0) v xs :=
  Kd.R_mono (Kd.R_below (Kd.R_bound h) hb) (fun k hk => ⟨by have := hk.2.2.1; omega, by simp [Value.ownBlock]⟩)
theorem OwnChx.drop {w : World} {B g : Nat} {u v : Value} {xs : List DCh} (h : OwnChx w B g u v xs) : OwnCh w B v xs := Kd.R_mono h (fun _ _ => trivial)
/-- A graph is made: what stands (w1: where the packages that may be needed are known). -/
structure OfSt (w w1 : World) (a : Args) (v : Value) (W : World) : Prop where
  below : Below w.heap.size w W
  hw : w.heap.size + 1 + 1 + 1 < w1.heap.size
  size : w1.heap.size ≤ W.heap.size
  low : ∀ k, k < w1.heap.size → k ≠ w.heap.size + 1 + 1 + 1 → W.heap[k]? = w1.heap[k]?
  b0 : W.heap[w.heap.size]? = some (.cells #[.slice a.A a.ps.length a.c, .slice a.A2 a.n2 a.c2] 25 (0, 0))
  b1 : W.heap[w.heap.size + 1]? = some (.cells #[.slice a.B a.rs.length a.d] 28 (0, 0))
  b2 : W.heap[w.heap.size + 1 + 1]? = some (.cells #[.slice none 0 0, .slice none 0 0, .slice none 0 0, .slice none 0 0, .slice none 0 0] 62 (0, 0))
  b3 : W.heap[w.heap.size + 1 + 1 + 1]? = some (.cells #[.slice a.A a.ps.length a.c, .slice a.A2 a.n2 a.c2, .slice a.B a.rs.length a.d, v, .slice none 0 0] 62 (0, 0))
theorem OfSt.step {w w1 W W1 : World} {a : Args} {v : Value} (h : OfSt w w1 a v W) (hb : Below W.heap.size W W1) : OfSt w w1 a v W1 :=
  ⟨below_step h.below hb, h.hw, Nat.le_trans h.size hb.size, fun k hk hn => (hb.block k (Nat.lt_of_lt_of_le hk h.size)).trans (h.low k hk hn), blk_below h.b0 hb, blk_below h.b1 hb, blk_below h.b2 hb, blk_below h.b3 hb⟩
/-- A row has been written that was made later. -/
theorem OfSt.grown {w w1 W W1 : World} {a : Args} {v u : Value} (h : OfSt w w1 a v W) {α : Type} {d : Kd α} {e : Nat} {ok : Nat → Prop} {xs : List α} (hR : d.R e W w1.heap.size ok u xs) (hb : Below w1.heap.size W W1) (hg : W.grownBy W1 u.ownBlock) : OfSt w w1 a v W1 := by
  have hw := h.hw
  have hne : ∀ k, k < w1.heap.size → some k ≠ u.ownBlock := fun k hk e => by have := Kd.R_base hR k e.symm; omega
  exact ⟨h.below.trans (hb.mono (by omega)), hw, Nat.le_trans h.size hg.size, fun k hk hn => (hg.block k (Nat.lt_of_lt_of_le hk h.size) (hne k hk)).trans (h.low k hk hn),
    blk_grown h.b0 hg (hne _ (by omega)), blk_grown h.b1 hg (hne _ (by omega)), blk_grown h.b2 hg (hne _ (by omega)), blk_grown h.b3 hg (hne _ (by omega))⟩
theorem OfSt.far {w w1 W : World} {a : Args} {v : Value} (h : OfSt w w1 a v W) {g j : Nat} (hg : w1.heap.size ≤ g) (u : Value) : OfSt w w1 a v (W.setCell ⟨g, j, none⟩ u) := by
  have hw := h.hw
  exact ⟨h.below.setCell (show w.heap.size ≤ g by omega) _, hw, by rw [World.size_setCell]; exact h.size, fun k hk hn => (Below.heap_setCell W ⟨g, j, none⟩ u k (show k ≠ g by omega)).trans (h.low k hk hn),
    blk_far h.b0 (show _ ≠ g by omega) _, blk_far h.b1 (show _ ≠ g by omega) _, blk_far h.b2 (show _ ≠ g by omega) _, blk_far h.b3 (show _ ≠ g by omega) _⟩
/-- A row that was known then is read as then. -/
theorem OfSt.reads {w w1 W : World} {a : Args} {v v0 : Value} {A : Option Addr} {n c : Nat} {xs : List Int} (h : OfSt w w1 a v W) (h1 : OfSt w w1 a v0 w1) (hO : OwnI w1 w.heap.size (.slice A n c) xs) : Kd.C (Kd.int .i64) W A xs.length xs :=
  (Kd.R_reads' (Kd.R_move (Kd.R_bound hO) (fun k hk => by
    obtain ⟨_, _, hlt, q, hq, cells, hc⟩ := hk
    refine h.low k hlt ?_
    rintro rfl
    rw [h1.b3] at hc
    injection hc with hc
    injection hc with _ hc
    simp [Kd.int, Kd.scalar] at hq
    subst hq
    exact absurd hc (by decide)))).2.2
/-- What is chosen of a package is right. -/
def COK (ps : List DPackage) (rs : List DRoot) (i : Nat) (c : DCh) : Prop := (-1 ≤ c.release ∧ c.release < ((ps.getD i zPackage).releases.length : Int)) ∧
  (0 ≤ c.release → hasI (clo ps rs) i = true ∧ c.values.length = (ps.getD i zPackage).variants.length ∧ ∀ k, (hk : k < c.values.length) → 0 ≤ c.values[k] ∧ c.values[k] < (((ps.getD i zPackage).variants.getD k zVariant).values.length : Int))
def AllC (ps : List DPackage) (rs : List DRoot) (cs : List DCh) : Prop := ∀ i, (hi : i < cs.length) → COK ps rs i cs[i]
theorem AllC.snoc {ps : List DPackage} {rs : List DRoot} {cs : List DCh} (h : AllC ps rs cs) {c : DCh} (hc : COK ps rs cs.length c) : AllC ps rs (cs ++ [c]) := by
  intro i hi
  rw [List.length_append, List.length_singleton] at hi
  by_cases e : i < cs.length
  · rw [List.getElem_append_left e]; exact h i e
  · obtain rfl : i = cs.length := by omega
    rw [List.getElem_append_right (by omega)]
    simpa using hc
theorem AllC.ok {ps : List DPackage} {rs : List DRoot} {cs : List DCh} (h : AllC ps rs cs) (hl : cs.length = ps.length) : ChOK ps cs :=
  ⟨hl, fun i hi => (h i hi).1, fun i hi h0 => ((h i hi).2 h0).2⟩
/-- One choice in the making: its row is u, in its cell lies uc. -/
structure OfIn (w w1 : World) (a : Args) (v : Value) (cs : List DCh) (g : Nat) (pkc : Array Value) (rel : Int) (uc u : Value) (xs : List Int) (W : World) : Prop where
  st : OfSt w w1 a v W
  hg : w1.heap.size ≤ g
  pb : W.heap[g]? = some (.cells pkc 43 (0, 0))
  cb : W.heap[g + 1]? = some (.cells #[.int .i64 rel, uc] 106 (0, 0))
  row : OwnI W w1.heap.size u xs
  own : OwnChx W w1.heap.size (g + 1) u v cs
section
variable {w w1 W W1 : World} {a : Args} {v uc u : Value} {cs : List DCh} {g : Nat} {pkc : Array Value} {rel : Int} {xs : List Int}
theorem OfIn.step (h : OfIn w w1 a v cs g pkc rel uc u xs W) (hb : Below W.heap.size W W1) : OfIn w w1 a v cs g pkc rel uc u xs W1 :=
  ⟨h.st.step hb, h.hg, blk_below h.pb hb, blk_below h.cb hb, h.row.below hb, h.own.below hb⟩
theorem OfIn.setRel (h : OfIn w w1 a v cs g pkc rel uc u xs W) (r : Int) : OfIn w w1 a v cs g pkc r uc u xs (W.setCell ⟨g + 1, 0, none⟩ (.int .i64 r)) :=
  ⟨h.st.far (by have := h.hg; omega) _, h.hg, blk_far h.pb (show g ≠ g + 1 by omega) _, blk_set h.cb 0 _,
    Kd.R_set h.row h.cb (by intro q hq; simp [Kd.int, Kd.scalar] at hq; subst hq; decide) 0 _, Kd.R_far (p := ⟨g + 1, 0, none⟩) h.own (fun k hk => hk.1) _⟩
theorem OfIn.put (h : OfIn w w1 a v cs g pkc rel uc u xs W) : OfIn w w1 a v cs g pkc rel u u xs (W.setCell ⟨g + 1, 1, none⟩ u) :=
  ⟨h.st.far (by have := h.hg; omega) _, h.hg, blk_far h.pb (show g ≠ g + 1 by omega) _, blk_set h.cb 1 _,
    Kd.R_set h.row h.cb (by intro q hq; simp [Kd.int, Kd.scalar] at hq; subst hq; decide) 1 _, Kd.R_far (p := ⟨g + 1, 1, none⟩) h.own (fun k hk => hk.1) _⟩
theorem OfIn.mk0 (hst : OfSt w w1 a v W) (ho : OwnCh W w1.heap.size v cs) (pkc : Array Value) (rel : Int) : OfIn w w1 a v cs W.heap.size pkc rel (.slice none 0 0) (.slice none 0 0) [] ((W.alloc (.cells pkc 43)).alloc (.cells #[.int .i64 rel, .slice none 0 0] 106)) := by
  have hb := below_alloc (below_alloc (Below.refl W.heap.size W) (.cells pkc 43)) (.cells #[.int .i64 rel, .slice none 0 0] 106)
  exact ⟨hst.step hb, hst.size, blk_alloc (blk_new _ _) _, blk_new1 _ _ _, OwnI.nil _ _, ho.fresh hb _ (by omega)⟩
end
section
variable {ops : Array Oper} {o : Oper} {act : Act} {Q : Exit → Act → World → Prop}
theorem app_val_step {Kc : Act → World → Prop} {w w1 W : World} {a : Args} {v uc u : Value} {cs : List DCh} {g : Nat} {pkc : Array Value} {rel : Int} {xs : List Int} (hw : Region.wanted o (yielded ops act.tmps) = true) (s x : Operand) (ho : o.op = .call { callee := .builtin .append, args := #[s, x], argTypes := #[35, 35] })
    (p : Int) (hs : act.eval s = u) (hx : act.eval x = .slice (some ⟨W.heap.size, 0, none⟩) 1 1) (H : OfIn w w1 a v cs g pkc rel uc u xs W) (hl : xs.length < 1000000000000)
    (h : ∀ u1 w2, OfIn w w1 a v cs g pkc rel uc u1 (xs ++ [p]) w2 → Kc (act.put o.dst u1) w2) :
    if Region.wanted o (yielded ops act.tmps) = true then Oper.wp Tryz.prog o act (W.alloc (.cells #[.int .i64 p] 3)) Kc Q else Kc (act.put o.dst undef) (W.alloc (.cells #[.int .i64 p] 3)) := by
  refine Kd.R_append_step (Kd.int .i64) (w0 := W) w1.heap.size hw s x 35 3 (.int .i64 0) 8 ho Tryz.underlying35 info_int rfl (by decide) (by omega) u xs p [.int .i64 p] (fun _ => True) (fun _ => False) hs hx rfl (fun _ hk => hk.elim) (fun _ _ => trivial) H.row (Below.refl _ _) H.st.size (by omega) ?_
  intro v1 w2 h1 h2 h3 h4
  refine h v1 w2 ⟨H.st.grown H.row h2 h3, H.hg, blk_grown H.pb h3 (Kd.R_ne H.row H.pb (by decide)), blk_grown H.cb h3 (Kd.R_ne H.row H.cb (by decide)), h1, Kd.R_after H.own h3 h4⟩
end
section
variable {ops : Array Oper} {rest : List Oper} {o : Oper} {act : Act} {Q : Exit → Act → World → Prop}
theorem app_ch {w w1 W : World} {a : Args} {v u : Value} {cs : List DCh} {g : Nat} {pkc : Array Value} {rel : Int} {xs : List Int} (hgd : o.guard = none) (s x : Operand) (ho : o.op = .call { callee := .builtin .append, args := #[s, x], argTypes := #[60, 60] })
    (hs : act.eval s = v) (hx : act.eval x = .slice (some ⟨W.heap.size, 0, none⟩) 1 1) (H : OfIn w w1 a v cs g pkc rel u u xs W) (hl : cs.length < 1000000000)
    (h : ∀ v1 w2, OfSt w w1 a v w2 → OwnCh w2 w1.heap.size v1 (cs ++ [⟨rel, xs⟩]) → wpList Tryz.prog ops Q rest (act.put o.dst v1) w2) :
    wpList Tryz.prog ops Q (o :: rest) act (W.alloc (.cells #[.int .i64 rel, u] 106)) := by
  have HO : OwnCh W w1.heap.size v cs := H.own.drop
  refine Kd.R_append kCh (w0 := W) w1.heap.size hgd s x 60 106 (.agg #[.int .i64 0, .slice none 0 0]) 32 ho Tryz.underlying60 info_ch rfl (by decide) (by omega) v cs ⟨rel, xs⟩ [.int .i64 rel, u] (fun _ => True) (fun k => ∃ cells, W.heap[k]? = some (.cells cells 3 (0, 0))) hs hx ⟨[.int .i64 rel], [u], rfl, rfl, u, rfl, ?_⟩ ?_ (fun _ _ => trivial) HO (Below.refl _ _) H.st.size (by omega) ?_
  · refine Kd.R_mono (Kd.R_bound H.row) (fun k hk => ?_)
    obtain ⟨_, _, _, q, hq, cells, hc⟩ := hk
    simp [Kd.int, Kd.scalar] at hq
    subst hq
    exact ⟨cells, hc⟩
  · rintro k ⟨cells, hc⟩
    exact ⟨trivial, Kd.R_ne HO hc (by decide)⟩
  · intro v1 w2 h1 h2 h3 _
    exact h v1 w2 (H.st.grown HO h2 h3) h1
end
theorem OfSt.put {w w1 W : World} {a : Args} {v v1 : Value} {cs : List DCh} (h : OfSt w w1 a v W) (ho : OwnCh W w1.heap.size v1 cs) : OfSt w w1 a v1 (W.setCell ⟨w.heap.size + 1 + 1 + 1, 3, none⟩ v1) ∧ OwnCh (W.setCell ⟨w.heap.size + 1 + 1 + 1, 3, none⟩ v1) w1.heap.size v1 cs :=
  ⟨⟨h.below.setCell (show w.heap.size ≤ w.heap.size + 1 + 1 + 1 by omega) _, h.hw, by rw [World.size_setCell]; exact h.size, fun k hk hn => (Below.heap_setCell W ⟨w.heap.size + 1 + 1 + 1, 3, none⟩ v1 k hn).trans (h.low k hk hn),
    blk_far h.b0 (show w.heap.size ≠ w.heap.size + 1 + 1 + 1 by omega) _, blk_far h.b1 (show w.heap.size + 1 ≠ w.heap.size + 1 + 1 + 1 by omega) _, blk_far h.b2 (show w.heap.size + 1 + 1 ≠ w.heap.size + 1 + 1 + 1 by omega) _, blk_set h.b3 3 _⟩,
    Kd.R_set ho h.b3 (fun q hq => by rcases kCh_E hq with rfl | rfl <;> decide) 3 _⟩
theorem snoc_ok {ys : List Int} {x : Int} {P : Nat → Int → Prop} (h : ∀ q, (hq : q < ys.length) → P q ys[q]) (h1 : P ys.length x) : ∀ q, (hq : q < (ys ++ [x]).length) → P q (ys ++ [x])[q] := by
  intro q hq
  rw [List.length_append, List.length_singleton] at hq
  by_cases e : q < ys.length
  · rw [List.getElem_append_left e]; exact h q e
  · have e2 : q = ys.length := by omega
    subst e2
    simpa using h1
def RetG (w : World) (a : Args) (e : Ending) (w' : World) : Prop := ∃ Ac cc cs, e = .returned (.agg (gcells a Ac cc cs none 0 [])) ∧ Kd.C kCh w' Ac cs.length cs ∧ cs.length = a.ps.length ∧ AllC a.ps a.rs cs ∧ Below w.heap.size w w'
theorem Of_calls (w : World) (a : Args) (hk : Kd.C kPackage w a.A a.ps.length a.ps) (hr : Kd.C kRoot w a.B a.rs.length a.rs) (hs : Small a.ps a.rs) (A : Option Addr) (c : Nat) (xs : List Int) (hx : Kd.C (Kd.int .u8) w A xs.length xs) (hby : Bytes xs) :
    Calls Tryz.prog 14 #[.agg #[.slice a.A a.ps.length a.c, .slice a.A2 a.n2 a.c2], .agg #[.slice a.B a.rs.length a.d], .slice A xs.length c] w (RetG w a) := by
  have HK := Aside0.mk hk
  have HR := Aside0.mk hr
  have HS := Aside0.mk hs
  have HX := Aside0.mk hx
  have HBy := Aside0.mk hby
  have hps := hs.n
  have HF := Aside0.mk (Fr3.mk0 w 25 #[.slice a.A a.ps.length a.c, .slice a.A2 a.n2 a.c2] 28 #[.slice a.B a.rs.length a.d] 62 #[.slice none 0 0, .slice none 0 0, .slice none 0 0, .slice none 0 0, .slice none 0 0])
  clear hk hr hs hx hby
  obtain ⟨x0, x1⟩ := cells2 HF.out.b0
  have x2 := cells1 HF.out.b1
  have HB4 : Aside0 (Below w.heap.size w ((((w.alloc (.cells #[.slice a.A a.ps.length a.c, .slice a.A2 a.n2 a.c2] 25)).alloc (.cells #[.slice a.B a.rs.length a.d] 28)).alloc (.cells #[.slice none 0 0, .slice none 0 0, .slice none 0 0, .slice none 0 0, .slice none 0 0] 62)).alloc (.cells #[.slice a.A a.ps.length a.c, .slice a.A2 a.n2 a.c2, .slice a.B a.rs.length a.d, .slice none 0 0, .slice none 0 0] 62))) := ⟨(HF.out.alloc _).below⟩
  have HT4 : Aside0 (((((w.alloc (.cells #[.slice a.A a.ps.length a.c, .slice a.A2 a.n2 a.c2] 25)).alloc (.cells #[.slice a.B a.rs.length a.d] 28)).alloc (.cells #[.slice none 0 0, .slice none 0 0, .slice none 0 0, .slice none 0 0, .slice none 0 0] 62)).alloc (.cells #[.slice a.A a.ps.length a.c, .slice a.A2 a.n2 a.c2, .slice a.B a.rs.length a.d, .slice none 0 0, .slice none 0 0] 62)).heap[w.heap.size + 1 + 1 + 1]? = some (.cells #[.slice a.A a.ps.length a.c, .slice a.A2 a.n2 a.c2, .slice a.B a.rs.length a.d, .slice none 0 0, .slice none 0 0] 62 (0, 0))) := ⟨by
    have := blk_new (((w.alloc (.cells #[.slice a.A a.ps.length a.c, .slice a.A2 a.n2 a.c2] 25)).alloc (.cells #[.slice a.B a.rs.length a.d] 28)).alloc (.cells #[.slice none 0 0, .slice none 0 0, .slice none 0 0, .slice none 0 0, .slice none 0 0] 62)) (.cells #[.slice a.A a.ps.length a.c, .slice a.A2 a.n2 a.c2, .slice a.B a.rs.length a.d, .slice none 0 0, .slice none 0 0] 62)
    rwa [World.size_alloc, World.size_alloc, World.size_alloc] at this⟩
  have HF4 := Aside0.mk (HF.out.alloc (.cells #[.slice a.A a.ps.length a.c, .slice a.A2 a.n2 a.c2, .slice a.B a.rs.length a.d, .slice none 0 0, .slice none 0 0] 62))
  go_enter Tryz.func14, Tryz.ntmps14
  go_wp2_with fail
  refine (Closure10_calls _ _ _ _ _ _ _ _ _ _ (Kd.C_below HK.out HB4.out) (by omega) (Kd.C_below HR.out HB4.out)).mono ?_
  rintro e w1 ⟨vl, rfl, hO, hb⟩
  obtain ⟨Al, cl, rfl, -, -⟩ := OwnI.reads hO
  have HSt1 : Aside0 (OfSt w w1 a (.slice none 0 0) w1) := ⟨by
    have h := HF4.out.step hb
    have h3 := blk_below HT4.out hb
    exact ⟨h.below, blk_lt h3, Nat.le_refl _, fun _ _ _ => rfl, h.b0, h.b1, h.b2, h3⟩⟩
  have HAl : Aside0 (∀ W v, OfSt w w1 a v W → Kd.C (Kd.int .i64) W Al (clo a.ps a.rs).length (clo a.ps a.rs)) := ⟨fun W v h => h.reads HSt1.out (Kd.R_lower hO HB4.out.size)⟩
  clear hO hb HF HF4 HB4 HT4 x0 x1 x2
  obtain ⟨x0, x1⟩ := cells2 HSt1.out.b0
  go_wp2_with fail
  clear x0 x1
  go_loopw [9, 23] (fun nv i W => ∃ (k n : Nat) (v : Value) (cs : List DCh), k ≤ a.ps.length ∧ n ≤ 5 * k ∧ nv = .int .i64 n ∧ i = .int .i64 k ∧ Aside0 (cs.length = k ∧ AllC a.ps a.rs cs) ∧ Aside0 (OfSt w w1 a v W) ∧ Aside0 (OwnCh W w1.heap.size v cs)) (fun _ i _ => a.ps.length - (intOf i).toNat)
  case atStart => exact ⟨0, 0, _, [], by omega, by omega, rfl, rfl, ⟨rfl, fun i hi => absurd hi (by simp)⟩, HSt1, ⟨Kd.R_nil _ _ _ _ _⟩⟩
  case round =>
    clear HSt1
    obtain ⟨k, n, v, cs, hk, hn, rfl, rfl, HA, HSt, HO⟩ := hrel
    have hcs : cs.length < 1000000000 := by have := HA.out.1; omega
    by_cases hlt : k < a.ps.length
    · obtain ⟨adp, E2, f2, E3, f3, E4, f4, E5, f5, E6, f6, E7, f7, e, p0, p1, p2, p3, p4, p5, p6, p7, l2, g2, l3, g3, -⟩ := at_Package HK.out k hlt
      have HVr := Aside0.mk g3
      replace p0 := pw_cell_below HSt.out.below p0
      replace p1 := pw_cell_below HSt.out.below p1
      replace p2 := pw_cell_below HSt.out.below p2
      replace p3 := pw_cell_below HSt.out.below p3
      replace p4 := pw_cell_below HSt.out.below p4
      replace p5 := pw_cell_below HSt.out.below p5
      replace p6 := pw_cell_below HSt.out.below p6
      replace p7 := pw_cell_below HSt.out.below p7
      have hok := HS.out.pk _ (List.getElem_mem hlt)
      have hr10 := hok.1
      have hv4 := hok.2.2.2.1
      have HV4 := Aside0.mk hok.2.2.2.2
      have HGD : Aside0 (a.ps.getD k zPackage = a.ps[k]) := ⟨getD_at _ _ hlt⟩
      clear l2 g2 l3 g3 hok
      have HCOK : Aside0 (∀ c : DCh, COK a.ps a.rs k c → AllC a.ps a.rs (cs ++ [c])) := ⟨fun c hc => HA.out.2.snoc (by rw [HA.out.1]; exact hc)⟩
      have HLen : Aside0 (∀ c : DCh, (cs ++ [c]).length = k + 1) := ⟨fun c => by rw [List.length_append, HA.out.1]; rfl⟩
      unfold COK at HCOK
      rw [HGD.out] at HCOK
      clear HGD HA
      generalize a.ps[k] = pk at *
      have b1 : (k : Int) < (a.ps.length : Int) := by omega
      obtain ⟨x0, x1⟩ := cells2 HSt.out.b0
      obtain ⟨y0, y1, y2, y3, y4⟩ := cells5 HSt.out.b3
      have y3f := blk_frozen HSt.out.b3 3
      rw [e] at x0
      have HE := Aside0.mk e
      clear e
      obtain ⟨Av, cv, rfl, -, -⟩ := Kd.R_reads HO.out
      have HIn := Aside0.mk (OfIn.mk0 HSt.out HO.out #[.string pk.name, .int .i64 pk.line, .slice E2 pk.releases.length f2, .slice E3 pk.variants.length f3, .slice E4 pk.provides.length f4, .slice E5 pk.depends.length f5, .slice E6 pk.conflicts.length f6, .slice E7 pk.files.length f7] (-1))
      have hba := Aside0.mk (below_alloc (below_alloc (Below.refl wr.heap.size wr) (.cells #[.string pk.name, .int .i64 pk.line, .slice E2 pk.releases.length f2, .slice E3 pk.variants.length f3, .slice E4 pk.provides.length f4, .slice E5 pk.depends.length f5, .slice E6 pk.conflicts.length f6, .slice E7 pk.files.length f7] 43)) (.cells #[.int .i64 (-1), .slice none 0 0] 106))
      have HC1 := Aside0.mk (HAl.out _ _ HIn.out.st)
      obtain ⟨wS, hwS⟩ : ∃ wS, wS = ((wr.alloc (.cells #[.string pk.name, .int .i64 pk.line, .slice E2 pk.releases.length f2, .slice E3 pk.variants.length f3, .slice E4 pk.provides.length f4, .slice E5 pk.depends.length f5, .slice E6 pk.conflicts.length f6, .slice E7 pk.files.length f7] 43)).alloc (.cells #[.int .i64 (-1), .slice none 0 0] 106)) := ⟨_, rfl⟩
      obtain ⟨g, hg⟩ : ∃ g, g = wr.heap.size := ⟨_, rfl⟩
      go_wp2_with fail
      clear x0 x1 p0 p1 p2 p3 p4 p5 p6 p7 y0 y1 y2 y3 y4 y3f
      clear HSt HO
      rw [← hwS] at HIn HC1 hba ⊢
      rw [← hg] at HIn ⊢
      clear hwS hba hg
      refine (Has10_same _ _ _ _ (k : Int) HC1.out).mono ?_
      rintro e1 w2 ⟨rfl, rfl⟩
      obtain ⟨hb, hbe⟩ : ∃ b, hasI (clo a.ps a.rs) (k : Int) = b := ⟨_, rfl⟩
      rw [hbe]
      have HBE := Aside0.mk hbe
      clear hbe
      cases hb with
      | false =>
        have y3 := blk_cell HIn.out.st.b3 3
        obtain ⟨c0, c1⟩ := cells2 HIn.out.cb
        go_wp2_with (first | (at_builtin; refine app_ch (w := w) (w1 := w1) (a := a) (cs := cs) (g := g) (xs := []) rfl (.tmp 71) (.tmp 73) rfl rfl rfl HIn.out hcs ?_; intro v1 w3 hS3 hO3; obtain ⟨Av1, cv1, rfl, -, -⟩ := Kd.R_reads hO3; have y3' := blk_cell hS3.b3 3; have y3f := blk_frozen hS3.b3 3; have HS3 := Aside0.mk hS3; have HO3 := Aside0.mk hO3; clear hS3 hO3))
        obtain ⟨hS4, hO4⟩ := HS3.out.put HO3.out
        rw [List.length_append, List.length_singleton] at hS4 hO4
        go_roundw
        case rel => exact ⟨k + 1, n, _, _, by omega, by omega, rfl, by go_num, ⟨HLen.out _, HCOK.out _ ⟨⟨by show (-1 : Int) ≤ -1; omega, by show (-1 : Int) < _; omega⟩, fun h => absurd h (by decide)⟩⟩, ⟨hS4⟩, ⟨hO4⟩⟩
        case measure => simp [intOf] <;> omega
      | true =>
        obtain ⟨p2, p3⟩ : w2.cell? ⟨g, 2, none⟩ = some (.slice E2 pk.releases.length f2) ∧ w2.cell? ⟨g, 3, none⟩ = some (.slice E3 pk.variants.length f3) := by
          obtain ⟨p0, p1, p2, p3, -⟩ := cells8 HIn.out.pb
          exact ⟨p2, p3⟩
        obtain ⟨c0, c1⟩ := cells2 HIn.out.cb
        have c0f := blk_frozen HIn.out.cb 0
        have hrl : (pk.releases.length : Int) + 1 = ((pk.releases.length + 1 : Nat) : Int) := by omega
        have HPk := Aside0.mk (pick_same' w2 A c xs (Kd.C_below HX.out HIn.out.st.below) HBy.out n (pk.releases.length + 1) (by omega) (by omega) ((pk.releases.length : Int) + 1) hrl)
        clear hrl
        go_wp2_with fail
        refine HPk.out.mono ?_
        rintro e1 w3 ⟨m, hm, rfl, rfl⟩
        have hm2 : m ≤ pk.releases.length := by omega
        clear hm HPk
        have HI1 := Aside0.mk (HIn.out.setRel ((m : Int) - 1))
        have HP3 : Aside0 (∀ W : World, W.heap[g]? = some (.cells #[.string pk.name, .int .i64 pk.line, .slice E2 pk.releases.length f2, .slice E3 pk.variants.length f3, .slice E4 pk.provides.length f4, .slice E5 pk.depends.length f5, .slice E6 pk.conflicts.length f6, .slice E7 pk.files.length f7] 43 (0, 0)) → W.cell? ⟨g, 3, none⟩ = some (.slice E3 pk.variants.length f3)) := ⟨fun W h => (cells8 h).2.2.2.1⟩
        go_wp2_with fail
        clear p2 p3 c0 c1 c0f HIn HC1
        generalize #[Value.string pk.name, .int .i64 pk.line, .slice E2 pk.releases.length f2, .slice E3 pk.variants.length f3, .slice E4 pk.provides.length f4, .slice E5 pk.depends.length f5, .slice E6 pk.conflicts.length f6, .slice E7 pk.files.length f7] = pkc at *
        go_loopw [9, 49] (fun nv i W => ∃ (j n2 : Nat) (u : Value) (ys : List Int), j ≤ pk.variants.length ∧ n2 ≤ 5 * k + 1 + j ∧ nv = .int .i64 n2 ∧ i = .int .i64 j ∧ Aside0 (ys.length = j ∧ ∀ q, (hq : q < ys.length) → 0 ≤ ys[q] ∧ ys[q] < ((pk.variants.getD q zVariant).values.length : Int)) ∧ Aside0 (OfIn w w1 a (.slice Av cs.length cv) cs g pkc ((m : Int) - 1) u u ys W)) (fun _ i _ => pk.variants.length - (intOf i).toNat)
        case atStart => exact ⟨0, n + 1, _, [], by omega, by omega, by go_num, rfl, ⟨rfl, fun q hq => absurd hq (by simp)⟩, HI1⟩
        case round =>
          clear HI1
          obtain ⟨j, n2, u, ys, hj, hn2, rfl, rfl, HY, HI⟩ := hrel
          by_cases hjt : j < pk.variants.length
          · obtain ⟨Au, cu, rfl, -, -⟩ := Kd.R_reads HI.out.row
            obtain ⟨adv, Avv, cvv, e4, v0, v1, -, -⟩ := at_Variant (Kd.C_below HVr.out HI.out.st.below) j hjt
            subst e4
            have hvv := HV4.out _ (List.getElem_mem hjt)
            have hvl0 := hvv.1
            have hvl1 := hvv.2
            have HGV : Aside0 ((pk.variants.getD j zVariant).values.length = pk.variants[j].values.length) := ⟨by rw [getD_at _ _ hjt]⟩
            clear hvv v0
            generalize pk.variants[j].values.length = vl at *
            obtain ⟨c0, c1⟩ := cells2 HI.out.cb
            have c1f := blk_frozen HI.out.cb 1
            have p3 := HP3.out _ HI.out.pb
            have HId := Aside0.mk (HI.out.step (below_drew (Below.refl wr.heap.size wr)))
            have HPk := Aside0.mk (pick_same wr.drew A c xs (Kd.C_below HX.out HId.out.st.below) HBy.out n2 vl (by omega) (by omega))
            have hyl : ys.length < 1000000000000 := by have := HY.out.1; omega
            have bj : (j : Int) < (pk.variants.length : Int) := by omega
            go_wp2_with fail
            go_region_law (first
              | (go_simp; go_at_call 44; refine HPk.out.mono ?_; rintro e1 w4 ⟨mm, hmm, rfl, rfl⟩; have c1a : (wr.alloc (.cells #[.int .i64 (mm : Int)] 3)).cell? ⟨g + 1, 1, none⟩ = some (.slice Au ys.length cu) := (by apply Lib.cell?_alloc_some; exact c1))
              | (refine app_val_step (w := w) (w1 := w1) (a := a) (by rfl) (.tmp 53) (.tmp 64) (by rfl) (mm : Int) (by rfl) (by rfl) HId.out hyl ?_; intro u1 w5 hI5; obtain ⟨Au1, cu1, rfl, -, -⟩ := Kd.R_reads hI5.row; have c1' := (cells2 hI5.cb).2; have c1f' := blk_frozen hI5.cb 1; have HI5 := Aside0.mk hI5; clear hI5))
            all_goals
              have hI6 := HI5.out.put
              rw [List.length_append, List.length_singleton] at hI6
              have HI6 := Aside0.mk hI6
              clear hI6 HI5 c1' c1f'
              have HY6 : Aside0 ((ys ++ [(mm : Int)]).length = j + 1 ∧ ∀ q, (hq : q < (ys ++ [(mm : Int)]).length) → 0 ≤ (ys ++ [(mm : Int)])[q] ∧ (ys ++ [(mm : Int)])[q] < ((pk.variants.getD q zVariant).values.length : Int)) := ⟨by rw [List.length_append, HY.out.1]; rfl, snoc_ok (P := fun q x => 0 ≤ x ∧ x < ((pk.variants.getD q zVariant).values.length : Int)) HY.out.2 (by show 0 ≤ (mm : Int) ∧ (mm : Int) < _; rw [HY.out.1, HGV.out]; omega)⟩
              go_wp2_with fail
              go_roundw
              case rel => exact ⟨j + 1, n2 + 1, _, _, by omega, by omega, by go_num, by go_num, HY6, HI6⟩
              case measure => simp [intOf] <;> omega
          · have hjl : pk.variants.length = j := by omega
            have HJ := Aside0.mk hjl
            clear hjl
            obtain ⟨Au, cu, rfl, -, -⟩ := Kd.R_reads HI.out.row
            have y3 := blk_cell HI.out.st.b3 3
            obtain ⟨c0, c1⟩ := cells2 HI.out.cb
            go_wp2_with (first | (at_builtin; refine app_ch (w := w) (w1 := w1) (a := a) (cs := cs) (g := g) (xs := ys) rfl (.tmp 71) (.tmp 73) rfl rfl rfl HI.out hcs ?_; intro v1 w4 hS3 hO3; obtain ⟨Av1, cv1, rfl, -, -⟩ := Kd.R_reads hO3; have y3' := blk_cell hS3.b3 3; have y3f := blk_frozen hS3.b3 3; have HS3 := Aside0.mk hS3; have HO3 := Aside0.mk hO3; clear hS3 hO3))
            obtain ⟨hS4, hO4⟩ := HS3.out.put HO3.out
            rw [List.length_append, List.length_singleton] at hS4 hO4
            go_roundw
            case rel => exact ⟨k + 1, n2, _, _, by omega, by omega, rfl, by go_num, ⟨HLen.out _, HCOK.out _ ⟨⟨by show (-1 : Int) ≤ (m : Int) - 1; omega, by show (m : Int) - 1 < _; omega⟩, fun _ => ⟨HBE.out, by show ys.length = _; rw [HY.out.1, HJ.out], HY.out.2⟩⟩⟩, ⟨hS4⟩, ⟨hO4⟩⟩
            case measure => simp [intOf] <;> omega
    · obtain ⟨Av, cv, rfl, -, hCv⟩ := Kd.R_reads HO.out
      have HCv := Aside0.mk hCv
      obtain ⟨y0, y1, y2, y3, y4⟩ := cells5 HSt.out.b3
      obtain ⟨z0, z1, z2, z3, z4⟩ := cells5 HSt.out.b2
      have f0 := blk_frozen HSt.out.b2 0
      have f1 := blk_frozen HSt.out.b2 1
      have f2 := blk_frozen HSt.out.b2 2
      have f3 := blk_frozen HSt.out.b2 3
      have f4 := blk_frozen HSt.out.b2 4
      clear hCv
      go_wp2_with fail
      have hB5 := blk_set (blk_set (blk_set (blk_set (blk_set HSt.out.b2 0 (.slice a.A a.ps.length a.c)) 1 (.slice a.A2 a.n2 a.c2)) 2 (.slice a.B a.rs.length a.d)) 3 (.slice Av cs.length cv)) 4 (.slice none 0 0)
      have hlo : ∀ j, w.heap.size ≤ (⟨w.heap.size + 1 + 1, j, none⟩ : Addr).block := fun j => by show w.heap.size ≤ w.heap.size + 1 + 1; omega
      have HBe := Aside0.mk (((((HSt.out.below.setCell (hlo 0) (.slice a.A a.ps.length a.c)).setCell (hlo 1) (.slice a.A2 a.n2 a.c2)).setCell (hlo 2) (.slice a.B a.rs.length a.d)).setCell (hlo 3) (.slice Av cs.length cv)).setCell (hlo 4) (.slice none 0 0))
      have hCe : Kd.C kCh _ Av cs.length cs := (Kd.R_reads' (Kd.R_set (Kd.R_set (Kd.R_set (Kd.R_set (Kd.R_set HO.out HSt.out.b2 (fun q hq => by rcases kCh_E hq with rfl | rfl <;> decide) 0 (.slice a.A a.ps.length a.c)) (blk_set HSt.out.b2 0 _) (fun q hq => by rcases kCh_E hq with rfl | rfl <;> decide) 1 (.slice a.A2 a.n2 a.c2)) (blk_set (blk_set HSt.out.b2 0 _) 1 _) (fun q hq => by rcases kCh_E hq with rfl | rfl <;> decide) 2 (.slice a.B a.rs.length a.d)) (blk_set (blk_set (blk_set HSt.out.b2 0 _) 1 _) 2 _) (fun q hq => by rcases kCh_E hq with rfl | rfl <;> decide) 3 (.slice Av cs.length cv)) (blk_set (blk_set (blk_set (blk_set HSt.out.b2 0 _) 1 _) 2 _) 3 _) (fun q hq => by rcases kCh_E hq with rfl | rfl <;> decide) 4 (.slice none 0 0))).2.2
      have HCe := Aside0.mk hCe
      clear hCe hlo y0 y1 y2 y3 y4 z0 z1 z2 z3 z4 f0 f1 f2 f3 f4
      generalize ((((wr.setCell ⟨w.heap.size + 1 + 1, 0, none⟩ (.slice a.A a.ps.length a.c)).setCell ⟨w.heap.size + 1 + 1, 1, none⟩ (.slice a.A2 a.n2 a.c2)).setCell ⟨w.heap.size + 1 + 1, 2, none⟩ (.slice a.B a.rs.length a.d)).setCell ⟨w.heap.size + 1 + 1, 3, none⟩ (.slice Av cs.length cv)).setCell ⟨w.heap.size + 1 + 1, 4, none⟩ (.slice none 0 0) = wF at *
      obtain ⟨z0, z1, z2, z3, z4⟩ := cells5 (show wF.heap[w.heap.size + 1 + 1]? = some (.cells #[.slice a.A a.ps.length a.c, .slice a.A2 a.n2 a.c2, .slice a.B a.rs.length a.d, .slice Av cs.length cv, .slice none 0 0] 62 (0, 0)) from hB5)
      clear hB5
      refine bodyPost_ret (v := .agg #[.slice a.A a.ps.length a.c, .slice a.A2 a.n2 a.c2, .slice a.B a.rs.length a.d, .slice Av cs.length cv, .slice none 0 0]) (by simp [results, Tryz.results14, go_sem, z0, z1, z2, z3, z4]) rfl ⟨Av, cv, cs, rfl, HCe.out, by have := HA.out.1; omega, HA.out.2, HBe.out⟩

end
section
open Go.RowKit Go.Maps
set_option maxRecDepth 100000
set_option maxHeartbeats 4000000
/-! The atoms of a table, and which are so. -/
theorem At_calls (w : World) (B g lim : Nat) (t : TS) (h : Tab w B g lim t) (i : Nat) (hi : i < t.l.length) :
    Calls Tryz.prog 42 #[.pointer (some ⟨g, 0, none⟩), .int .i64 ((i : Int) + 1)] w (fun e w' => e = .returned (.tuple #[atomV t.l[i], .bool true]) ∧ Below w.heap.size w w') := by
  have hba := Aside0.mk (below_alloc (Below.refl w.heap.size w) (.cells #[.int .u8 0, .int .i64 0, .int .i64 0, .int .i64 0] 96))
  have hnew := Aside0.mk (blk_new w (.cells #[.int .u8 0, .int .i64 0, .int .i64 0, .int .i64 0] 96))
  obtain ⟨m, A, c, D, u, hT, a1, a2, hM, hN, hO, a3, a4⟩ := h
  have HT := Aside0.mk (blk_below hT hba.out)
  have hC := Kd.C_below (Kd.R_reads' hO).2.2 hba.out
  obtain ⟨ad, e, y0, y1, y2, y3⟩ := at_Atom hC i hi
  subst e
  have x1 : (w.alloc (.cells #[.int .u8 0, .int .i64 0, .int .i64 0, .int .i64 0] 96)).cell? ⟨g, 1, none⟩ = some (.slice (some ad) t.l.length c) := blk_cell HT.out 1
  have hlen : t.l.length ≤ 65536 := by omega
  have bi : (i : Int) < (t.l.length : Int) := by omega
  have hgt : decide (t.l.length < i + 1) = false := decide_eq_false (by omega)
  have hgi : decide ((t.l.length : Int) < (i : Int) + 1) = false := decide_eq_false (by omega)
  unfold atomV
  generalize t.l[i] = x at *
  generalize t.l.length = n at *
  clear hT hM hN hO hC a1 a2 a3 a4
  go_enter Tryz.func42, Tryz.ntmps42
  go_wp2_with fail
  have hf0 := blk_frozen hnew.out 0
  have hf1 := blk_frozen hnew.out 1
  have hf2 := blk_frozen hnew.out 2
  have hf3 := blk_frozen hnew.out 3
  obtain ⟨z0, z1, z2, z3⟩ := cells4 hnew.out
  refine (LenG_same _ g m HT.out).mono ?_
  rintro e w1 ⟨rfl, rfl⟩
  go_wp2_with fail
  have hn := blk_new w (.cells #[.int .u8 x.kind, .int .i64 x.a, .int .i64 x.b, .int .i64 x.c] 96)
  clear z0 z1 z2 z3
  obtain ⟨z0, z1, z2, z3⟩ := cells4 hn
  clear hn
  refine bodyPost_ret (v := .tuple #[.agg #[.int .u8 x.kind, .int .i64 x.a, .int .i64 x.b, .int .i64 x.c], .bool true]) (by simp [results, Tryz.results42, go_sem, z0, z1, z2, z3]) rfl ⟨rfl, below_alloc (Below.refl _ _) _⟩
theorem eqI (x y : Int) : (x == y) = decide (x = y) := by by_cases h : x = y <;> simp [h]
/-- Is an atom of the first part so? -/
def soC (cs : List DCh) (x : DAtom) : Bool := thereN cs x.a.toNat && (decide (x.kind = 1) || (decide (x.kind = 2) && decide ((cs.getD x.a.toNat zCh).release = x.b)) || (decide (x.kind = 3) && (decide (x.b < ((cs.getD x.a.toNat zCh).values.length : Int)) && decide ((cs.getD x.a.toNat zCh).values.getD x.b.toNat 0 = x.c))))
/-- An atom of the first part. -/
structure FirstA (n : Nat) (x : DAtom) : Prop where
  kind : x.kind = 1 ∨ x.kind = 2 ∨ x.kind = 3
  a : 0 ≤ x.a ∧ x.a < n
  b : 0 ≤ x.b
  c : 0 ≤ x.c
def Gx (x : DAtom) : Array Value := #[.int .u8 x.kind, .int .i64 x.a, .int .i64 x.b, .int .i64 x.c]
theorem So_calls (w : World) (a : Args) (Ac : Option Addr) (cc : Nat) (cs : List DCh) (Ao : Option Addr) (co : Nat) (off : List Bool) (h : GOK w a Ac cs Ao off) (x : DAtom) (hx : FirstA a.ps.length x) (Ar : Option Addr) (cr : Nat) :
    Calls Tryz.prog 43 #[.agg (gcells a Ac cc cs Ao co off), atomV x, .slice Ar a.ps.length cr] w (RetB w (.bool (soC cs x))) := by
  obtain ⟨K, xa, xb, xc⟩ := x
  obtain ⟨hkind, ⟨ha0, ha1⟩, hb0, hc0⟩ := hx
  simp only at hkind ha0 ha1 hb0 hc0
  obtain ⟨p, rfl⟩ := Int.eq_ofNat_of_zero_le ha0
  have hps := h.sm.n
  have H := Aside0.mk h
  have HF := Aside0.mk (Fr2.mk0 w 62 (gcells a Ac cc cs Ao co off) 96 #[.int .u8 K, .int .i64 (p : Int), .int .i64 xb, .int .i64 xc])
  have HTh := Aside0.mk (There_calls _ a Ac cc cs Ao co off (h.below HF.out.below) p)
  have hpl : p < a.ps.length := by omega
  have hpc : p < cs.length := by have := h.ok.len; omega
  have HGD : Aside0 (cs.getD p zCh = cs[p]) := ⟨getD_at _ _ hpc⟩
  have hna : decide ((p : Int) < 0) = false := decide_eq_false (by omega)
  have hnb : decide (xb < 0) = false := decide_eq_false (by omega)
  have hnc : decide (xc < 0) = false := decide_eq_false (by omega)
  have hge : decide (a.ps.length ≤ p) = false := decide_eq_false (by omega)
  have hsc : Aside0 (soC cs ⟨K, p, xb, xc⟩ = (thereN cs p && (decide (K = 1) || (decide (K = 2) && decide (cs[p].release = xb)) || (decide (K = 3) && (decide (xb < (cs[p].values.length : Int)) && decide (cs[p].values.getD xb.toNat 0 = xc)))))) := ⟨by
    unfold soC
    simp only [Int.toNat_natCast, HGD.out]⟩
  obtain ⟨adc, C1, d1, e', q0, q1, m1, k1⟩ := at_Ch h.ch p hpc
  have HK1 := Aside0.mk k1
  have HE := Aside0.mk e'
  have bpc : (p : Int) < (cs.length : Int) := by omega
  generalize cs[p] = ch at *
  clear h ha0 ha1 HGD m1 k1 e'
  obtain ⟨r, hr⟩ : ∃ r, soC cs ⟨K, p, xb, xc⟩ = r := ⟨_, rfl⟩
  rw [hr]
  rw [hr] at hsc
  clear hr
  unfold gcells at HF HTh ⊢
  unfold atomV
  simp only
  rcases hkind with rfl | rfl | rfl
  · go_enter Tryz.func43, Tryz.ntmps43
    go_wp2_with fail
    refine HTh.out.mono ?_
    rintro e1 w1 ⟨rfl, hb⟩
    have HF1 := Aside0.mk (HF.out.step hb)
    clear hb HTh
    obtain ⟨s0, s1, s2, s3⟩ := cells4 HF1.out.b1
    obtain ⟨th, hT⟩ : ∃ th, thereN cs p = th := ⟨_, rfl⟩
    rw [hT] at hsc ⊢
    clear hT
    cases th with
    | false =>
      go_wp2_with fail
      go_ret
      exact ⟨ret_bool (by rw [hsc.out]; rfl), HF1.out.below⟩
    | true =>
      go_wp2_with fail
      go_ret
      exact ⟨ret_bool (by rw [hsc.out]; simp), HF1.out.below⟩
  · go_enter Tryz.func43, Tryz.ntmps43
    go_wp2_with fail
    refine HTh.out.mono ?_
    rintro e1 w1 ⟨rfl, hb⟩
    have HF1 := Aside0.mk (HF.out.step hb)
    clear hb HTh
    obtain ⟨s0, s1, s2, s3⟩ := cells4 HF1.out.b1
    obtain ⟨th, hT⟩ : ∃ th, thereN cs p = th := ⟨_, rfl⟩
    rw [hT] at hsc ⊢
    clear hT
    cases th with
    | false =>
      go_wp2_with fail
      go_ret
      exact ⟨ret_bool (by rw [hsc.out]; rfl), HF1.out.below⟩
    | true =>
      obtain ⟨y0, y1, y2, y3, y4⟩ := cells5 HF1.out.b0
      rw [HE.out] at y3
      replace q0 := pw_cell_below HF1.out.below q0
      go_wp2_with fail
      go_quiet (fail)
      go_wp2_with fail
      go_ret
      exact ⟨ret_bool (by rw [hsc.out]; simp [eqI]), pw_below_drewN HF1.out.below _⟩
  · go_enter Tryz.func43, Tryz.ntmps43
    go_wp2_with fail
    refine HTh.out.mono ?_
    rintro e1 w1 ⟨rfl, hb⟩
    have HF1 := Aside0.mk (HF.out.step hb)
    clear hb HTh
    obtain ⟨s0, s1, s2, s3⟩ := cells4 HF1.out.b1
    obtain ⟨th, hT⟩ : ∃ th, thereN cs p = th := ⟨_, rfl⟩
    rw [hT] at hsc ⊢
    clear hT
    cases th with
    | false =>
      go_wp2_with fail
      go_ret
      exact ⟨ret_bool (by rw [hsc.out]; rfl), HF1.out.below⟩
    | true =>
      obtain ⟨y0, y1, y2, y3, y4⟩ := cells5 HF1.out.b0
      rw [HE.out] at y3
      replace q1 := pw_cell_below HF1.out.below q1
      by_cases hlt : xb < (ch.values.length : Int)
      · have hdl : decide (xb < (ch.values.length : Int)) = true := decide_eq_true hlt
        obtain ⟨j, rfl⟩ := Int.eq_ofNat_of_zero_le hb0
        have hj : j < ch.values.length := by omega
        obtain ⟨adi, e6, u0⟩ := at_i64 (Kd.C_below HK1.out HF1.out.below) j hj
        have hgd : Aside0 (ch.values.getD (j : Int).toNat 0 = ch.values[j]) := ⟨getD_at _ _ hj⟩
        rw [e6] at q1
        rw [hgd.out] at hsc
        have hjd : decide (j < ch.values.length) = true := decide_eq_true hj
        clear hgd e6
        generalize ch.values[j] = vj at *
        go_wp2_with fail
        go_quiet (fail)
        go_wp2_with fail
        go_ret
        exact ⟨ret_bool (by rw [hsc.out]; simp [eqI, hj]), pw_below_drewN HF1.out.below _⟩
      · have hdl : decide (xb < (ch.values.length : Int)) = false := decide_eq_false hlt
        go_wp2_with fail
        go_quiet (fail)
        go_wp2_with fail
        go_ret
        exact ⟨ret_bool (by rw [hsc.out]; simp; intro h; omega), pw_below_drewN HF1.out.below _⟩

end
section
open Go.RowKit Go.Maps
set_option maxRecDepth 100000
set_option maxHeartbeats 4000000
/-! Which atoms of a ground's table are so. -/
/-- Each of a row of bools is as said of the atom at its place, ahead of place k. -/
def Fill (V : DAtom → Bool → Prop) (l : List DAtom) (k : Nat) (ms : List Bool) : Prop := ms.length = l.length ∧ ∀ j, j < k → ∀ (h1 : j < l.length) (h2 : j < ms.length), V l[j] ms[j]
theorem Fill.set {V : DAtom → Bool → Prop} {l : List DAtom} {k : Nat} {ms : List Bool} (h : Fill V l k ms) {b : Bool} (hk : k < l.length) (hb : V l[k] b) : Fill V l (k + 1) (ms.set k b) := by
  refine ⟨by rw [List.length_set]; exact h.1, fun j hj h1 h2 => ?_⟩
  rw [List.getElem_set]
  by_cases e : k = j
  · subst e
    rw [if_pos rfl]; exact hb
  · rw [if_neg e]
    exact h.2 j (by omega) h1 (by simpa using h2)
theorem Fill.map {f : DAtom → Bool} {l : List DAtom} {ms : List Bool} (h : Fill (fun x b => b = f x) l l.length ms) : ms = l.map f := by
  refine List.ext_getElem (by rw [List.length_map]; exact h.1) (fun i h1 h2 => ?_)
  rw [List.getElem_map]
  exact h.2 i (by rw [← h.1]; exact h1) (by rw [← h.1]; exact h1) h1
/-- The law of an atom of a graph: what 'So' gives of it. -/
def SoLaw (w : World) (a : Args) (G : Array Value) (V : DAtom → Bool → Prop) (l : List DAtom) : Prop :=
  ∀ W : World, Below w.heap.size w W → ∀ x ∈ l, ∀ (Ar : Option Addr) (cr : Nat), Calls Tryz.prog 43 #[.agg G, atomV x, .slice Ar a.ps.length cr] W (RetBool W (V x))
def RetMod (w : World) (V : DAtom → Bool → Prop) (l : List DAtom) (e : Ending) (w' : World) : Prop := ∃ v ms, e = .returned v ∧ OwnB w' w.heap.size v ms ∧ Fill V l l.length ms ∧ Below w.heap.size w w'
theorem Model_calls (w0 w : World) (g : Nat) (a : Args) (gs : GS) (HG : Gnd w0 g a gs w) (Ac : Option Addr) (cc : Nat) (cs : List DCh) (Ao : Option Addr) (co : Nat) (off : List Bool) (h : GOK w a Ac cs Ao off) (V : DAtom → Bool → Prop) (hlim : a.lim ≤ 65536)
    (hV : SoLaw w a (gcells a Ac cc cs Ao co off) V gs.t.l) :
    Calls Tryz.prog 13 #[.pointer (some ⟨g, 0, none⟩), .agg (gcells a Ac cc cs Ao co off)] w (RetMod w V gs.t.l) := by
  have HGn := Aside0.mk HG
  have H := Aside0.mk h
  have HF := Aside0.mk (Fr1.mk0 w 62 (gcells a Ac cc cs Ao co off))
  have HR := Aside0.mk (Reach_calls _ a Ac cc cs Ao co off (h.below HF.out.below))
  have HSo : Aside0 (∀ W : World, Below w.heap.size w W → ∀ x ∈ gs.t.l, ∀ (Ar : Option Addr) (cr : Nat), Calls Tryz.prog 43 #[.agg (gcells a Ac cc cs Ao co off), atomV x, .slice Ar a.ps.length cr] W (RetBool W (V x))) := ⟨hV⟩
  obtain ⟨hle, HTb⟩ : gs.t.l.length ≤ 65536 ∧ Aside0 (∀ W : World, Below w.heap.size w W → ∃ tg, Calls Tryz.prog 18 #[.pointer (some ⟨g, 0, none⟩)] W (fun e w' => e = .returned (.pointer (some ⟨tg, 0, none⟩)) ∧ w' = W) ∧ Tab W w0.heap.size tg a.lim gs.t) := by
    obtain ⟨h1, h2, tg, bg, Ai, cI, Ar, cR, hG, hT, hB, hI, hR⟩ := HG
    refine ⟨by obtain ⟨m, A, c, D, u, -, -, -, -, -, -, a3, a4⟩ := hT; omega, ⟨fun W hW => ⟨tg, ?_, hT.below hW⟩⟩⟩
    exact TableG_same W g (blk_below hG hW)
  clear h HG hV
  unfold gcells at HF HR HSo ⊢
  go_enter Tryz.func13, Tryz.ntmps13
  go_wp2_with fail
  refine HR.out.mono ?_
  rintro e w1 ⟨v, rows, rfl, hO, hS, hb⟩
  obtain ⟨Ar, cr, rfl, -, -⟩ := Kd.R_reads hO
  rw [hS.1]
  have HF1 := Aside0.mk (HF.out.step hb)
  clear hO hS hb HR HF
  obtain ⟨tg, hTb, hTab⟩ := HTb.out w1 HF1.out.below
  go_wp2_with fail
  refine hTb.mono ?_
  rintro e w2 ⟨rfl, rfl⟩
  obtain ⟨m, A, c, D, u, hT, -⟩ := hTab
  have HLn := Aside0.mk (LenG_same w2 tg m hT)
  clear hT hTb
  go_wp2_with fail
  refine HLn.out.mono ?_
  rintro e w3 ⟨rfl, rfl⟩
  clear HLn
  go_wp2_with (refine make_bools (w0 := w) w.heap.size rfl (N := 15) rfl (.tmp 14) (.tmp 14) rfl gs.t.l.length rfl rfl (by omega) (by exact HF1.out.below) (by exact HF1.out.below.size) ?_; intro v1 w4 hO hb; obtain ⟨A', c', rfl, hlc, -⟩ := hO.reads; rw [List.length_replicate] at hO hlc ⊢; have HO := Aside0.mk hO; clear hO)
  have HF4 := Aside0.mk (HF1.out.step hb)
  clear hb HF1
  go_loopw [18] (fun i W => ∃ (k : Nat) (ms : List Bool), k ≤ gs.t.l.length ∧ i = .int .i64 k ∧ Aside0 (Fill V gs.t.l k ms) ∧ Aside0 (OwnB W w.heap.size (.slice A' gs.t.l.length c') ms) ∧ Aside0 (Fr1 w 62 #[.slice a.A a.ps.length a.c, .slice a.A2 a.n2 a.c2, .slice a.B a.rs.length a.d, .slice Ac cs.length cc, .slice Ao off.length co] W)) (fun i _ => gs.t.l.length - (intOf i).toNat)
  case atStart => exact ⟨0, _, by omega, rfl, ⟨by rw [List.length_replicate], fun j hj => by omega⟩, HO, HF4⟩
  case round =>
    clear HO HF4
    obtain ⟨k, ms, hk, rfl, HM, HO, HF⟩ := hrel
    have hml := HM.out.1
    by_cases hlt : k < gs.t.l.length
    · have bk : (k : Int) < (gs.t.l.length : Int) := by omega
      obtain ⟨tg2, hTb, hTab⟩ := HTb.out wr HF.out.below
      have HAt := Aside0.mk (At_calls wr w0.heap.size tg2 a.lim gs.t hTab k hlt)
      have HMem := Aside0.mk (List.getElem_mem hlt)
      have HSet : Aside0 (∀ b, V gs.t.l[k] b → Fill V gs.t.l (k + 1) (ms.set k b)) := ⟨fun b hb => HM.out.set hlt hb⟩
      obtain ⟨gb, cap, e, -, -, -⟩ := Kd.R_form HO.out (by omega)
      injection e with e1 e2 e3
      subst e1
      clear e2 e3 hml
      unfold atomV at HAt
      generalize gs.t.l[k] = x at *
      go_wp2_with fail
      refine hTb.mono ?_
      rintro e w5 ⟨rfl, rfl⟩
      go_wp2_with fail
      refine HAt.out.mono ?_
      rintro e w6 ⟨rfl, hb⟩
      have HF6 := Aside0.mk (HF.out.step hb)
      have HO6 := Aside0.mk (HO.out.below hb)
      clear hb hTb hTab HAt HO HF
      have hba := Aside0.mk (below_alloc (Below.refl w6.heap.size w6) (.cells #[.int .u8 x.kind, .int .i64 x.a, .int .i64 x.b, .int .i64 x.c] 96))
      have HSx := Aside0.mk (HSo.out _ (below_step HF6.out.below hba.out) x HMem.out Ar cr)
      have HF7 := Aside0.mk (HF6.out.step hba.out)
      have HO7 := Aside0.mk (HO6.out.below hba.out)
      obtain ⟨y0, y1, y2, y3, y4⟩ := cells5 HF7.out.b0
      obtain ⟨z0, z1, z2, z3⟩ := cells4 (blk_new w6 (.cells #[.int .u8 x.kind, .int .i64 x.a, .int .i64 x.b, .int .i64 x.c] 96))
      unfold atomV at HSx
      clear hba HF6 HO6
      go_wp2_with fail
      refine HSx.out.mono ?_
      rintro e w8 ⟨b, hvb, rfl, hb⟩
      have HS8 := Aside0.mk (HSet.out b hvb)
      have HF8 := Aside0.mk (HF7.out.step hb)
      have HO8 := Aside0.mk (HO7.out.below hb)
      clear hvb hb HSet HSx HF7 HO7 y0 y1 y2 y3 y4 z0 z1 z2 z3
      obtain ⟨q0, q1⟩ := Kd.R_celln (enc := Value.bool) (h1 := fun _ => rfl) false HO8.out k (by omega) (by omega)
      replace q0 : w8.cell? ⟨gb, k, none⟩ = some _ := q0
      replace q1 : w8.frozen? ⟨gb, k, none⟩ = false := q1
      go_wp2_with fail
      obtain ⟨hO9, hg9⟩ := Kd.R_putg (enc := Value.bool) (h1 := fun _ => rfl) HO8.out k b
      have hbase := Kd.R_base HO8.out gb rfl
      go_roundw
      case rel => exact ⟨k + 1, _, by omega, by go_num, HS8, ⟨hO9⟩, ⟨below_set HF8.out.below hbase, OwnB.other HO8.out hg9 HF8.out.b0 (by decide)⟩⟩
      case measure => simp [intOf] <;> omega
    · have e : k = gs.t.l.length := by omega
      subst e
      go_wp2_with fail
      go_ret
      exact ⟨_, ms, rfl, HO.out, HM.out, HF.out.below⟩

end
end Go.Proofs.YtbahanlnkikpeaaGreat
