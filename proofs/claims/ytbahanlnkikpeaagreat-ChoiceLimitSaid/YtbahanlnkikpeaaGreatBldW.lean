import Derived.Test.YtbahanlnkikpeaaGreatFormC
namespace Go.Proofs.YtbahanlnkikpeaaGreat
open Go.RowKit Go.Proofs.YtbahanlnkikpeaaGreatW.PrintWords Go.Proofs.YtbahanlnkikpeaaGreatW.PrintLast
set_option linter.unusedVariables false
set_option linter.unusedSimpArgs false
open Go.RowKit Go.Maps
set_option maxRecDepth 100000
set_option maxHeartbeats 2000000
/-! The builder of clauses, walked. -/
def kInts : Kd (List Int) := Kd.slice 3 (Kd.int .i64)
/-- A row of rows of ints of one's own. -/
def OwnLL (w : World) (B : Nat) (v : Value) (xs : List (List Int)) : Prop := Kd.R kInts 35 w B (fun _ => True) v xs
theorem info_ints : (Tryz.prog.info? 35).map (fun i => (i.zero, i.size, i.bytes)) = some (some (.slice none 0 0), 1, 24) := by kernel_rfl
theorem OwnLL.nil (w : World) (B : Nat) : OwnLL w B (.slice none 0 0) [] := Kd.R_nil _ _ _ _ _
theorem OwnLL.below {w w1 : World} {B : Nat} {v : Value} {xs : List (List Int)} (h : OwnLL w B v xs) (hb : Below w.heap.size w w1) : OwnLL w1 B v xs := Kd.R_below h hb
theorem OwnLL.other {w w1 : World} {B : Nat} {v : Value} {xs : List (List Int)} (h : OwnLL w B v xs) (hg : w.grownBy w1 v.ownBlock) {g t : Nat} {cs : Array Value} (hb : w.heap[g]? = some (.cells cs t (0, 0))) (ht : 35 ≠ t) : w1.heap[g]? = some (.cells cs t (0, 0)) :=
  blk_grown hb hg (Kd.R_ne h hb ht)
theorem kInts_E {q : Nat} (hq : q ∈ 35 :: kInts.E) : q = 35 ∨ q = 3 := by
  simp [kInts, Kd.slice, Kd.int, Kd.scalar] at hq
  exact hq
section
variable {ops : Array Oper} {rest : List Oper} {o : Oper} {a : Act} {Q : Exit → Act → World → Prop}
theorem app_ints {w0 W : World} (base : Nat) (hgd : o.guard = none) (s x : Operand) (ho : o.op = .call { callee := .builtin .append, args := #[s, x], argTypes := #[64, 64] })
    (n : Nat) (v u : Value) (xs : List (List Int)) (p : List Int) (hs : a.eval s = v) (hx : a.eval x = .slice (some ⟨n, 0, none⟩) 1 1) (hn : n = W.heap.size) (HO : OwnLL W base v xs) (HU : OwnI W base u p) (HB : Below base w0 W) (hbase : base ≤ W.heap.size) (hl : xs.length < 1000000000000)
    (h : ∀ v1 w1, OwnLL w1 base v1 (xs ++ [p]) → Below base w0 w1 → W.grownBy w1 v.ownBlock → wpList Tryz.prog ops Q rest (a.put o.dst v1) w1) :
    wpList Tryz.prog ops Q (o :: rest) a (W.alloc (.cells #[u] 35)) := by
  subst hn
  refine Kd.R_append kInts (w0 := w0) base hgd s x 64 35 (.slice none 0 0) 24 ho Tryz.underlying64 info_ints rfl (by decide) (by omega) v xs p [u] (fun _ => True) (fun k => ∃ cells, W.heap[k]? = some (.cells cells 3 (0, 0))) hs hx ⟨u, rfl, ?_⟩ ?_ (fun _ _ => trivial) HO HB hbase (by omega) (fun v1 w1 h1 h2 h3 _ => h v1 w1 h1 h2 h3)
  · refine Kd.R_mono (Kd.R_bound HU) (fun k hk => ?_)
    obtain ⟨_, _, _, q, hq, cells, hc⟩ := hk
    simp [Kd.int, Kd.scalar] at hq
    subst hq
    exact ⟨cells, hc⟩
  · rintro k ⟨cells, hc⟩
    exact ⟨trivial, Kd.R_ne HO hc (by decide)⟩
end
/-- The builder, whole. -/
def Bld (w : World) (B g : Nat) (b : BS) : Prop :=
  ∃ (A : Option Addr) (c : Nat), w.heap[g]? = some (.cells #[.slice A b.l.length c, .bool false, .bool b.full] 109 (0, 0)) ∧ B ≤ g ∧ OwnLL w B (.slice A b.l.length c) b.l ∧ b.l.length ≤ 262144
theorem Bld.keep {T : Obj → Prop} {w w1 : World} {B g : Nat} {b : BS} (h : Bld w B g b) (hk : Keep T w w1) (h1 : ∀ cs, ¬ T (.cells cs 109 (0, 0))) (h2 : ∀ cs, ¬ T (.cells cs 35 (0, 0))) (h3 : ∀ cs, ¬ T (.cells cs 3 (0, 0))) : Bld w1 B g b := by
  obtain ⟨A, c, hb, a1, hO, a2⟩ := h
  exact ⟨A, c, hk.blk hb (h1 _), a1, hk.row hO (fun q hq cs => (kInts_E hq).elim (fun e => e ▸ h2 cs) (fun e => e ▸ h3 cs)), a2⟩
theorem Bld.below {w w1 : World} {B g : Nat} {b : BS} (h : Bld w B g b) (hb : Below w.heap.size w w1) : Bld w1 B g b :=
  h.keep (Keep.of_below (fun _ => False) hb) (fun _ h => h) (fun _ h => h) (fun _ h => h)
theorem Add_calls (w : World) (B g : Nat) (b : BS) (A : Option Addr) (c : Nat) (l : List Int) (h : Bld w B g b) (hl : Kd.C (Kd.int .i64) w A l.length l) (hg : GoodC l) :
    Calls Tryz.prog 59 #[.pointer (some ⟨g, 0, none⟩), .slice A l.length c] w (fun e w' => e = .returned (.tuple #[]) ∧ Bld w' B g (b.add l) ∧ Below B w w' ∧ Keep BldO w w') := by
  have H := Aside0.mk h
  have HL := Aside0.mk hl
  have HG := Aside0.mk hg
  have HBg : Aside0 (B ≤ w.heap.size) := ⟨by obtain ⟨A, c, hb, a1, -⟩ := h; have := blk_lt hb; omega⟩
  clear h hl hg
  by_cases hf : 262144 ≤ b.l.length
  · have hadd : b.add l = ⟨b.l, true⟩ := by unfold BS.add; rw [if_pos hf]
    rw [hadd]
    go_enter Tryz.func59, Tryz.ntmps59
    go_wp2_with fail
    refine (Form_calls w A c l HL.out HG.out).mono ?_
    rintro e w1 ⟨v, rfl, hO, hb⟩
    obtain ⟨Af, cf, rfl, -, -⟩ := Kd.R_reads hO
    have HF := Aside0.mk hb
    have HO := Aside0.mk hO
    have HB1 := Aside0.mk (H.out.below hb)
    clear hO hb
    go_wp2_with fail
    refine (ContainsW_same w1 A c l (Kd.C_below HL.out HF.out) HG.out.lit HG.out.len).mono ?_
    rintro e w2 ⟨rfl, rfl⟩
    obtain ⟨Ab, cb, hb, a1, hOL, a2⟩ := HB1.out
    obtain ⟨x0, x1, x2⟩ := cells3 hb
    have x2f := blk_frozen hb 2
    have HBB := Aside0.mk hb
    have HOL := Aside0.mk hOL
    clear hb hOL
    have hfi : (262144 : Int) ≤ (b.l.length : Int) := by omega
    have HA2 := Aside0.mk a2
    clear hf a2
    go_wp2_with fail
    go_end0
    refine ⟨rfl, ⟨Ab, cb, blk_set HBB.out 2 (.bool true), a1, Kd.R_set HOL.out HBB.out (fun q hq => by rcases kInts_E hq with rfl | rfl <;> decide) 2 _, HA2.out⟩, ?_, ?_⟩
    · exact (HF.out.mono HBg.out).setCell a1 _
    · exact (Keep.of_below BldO HF.out).trans (Keep.set HBB.out BldO.bld 2 _)
  · have hadd : b.add l = ⟨b.l ++ [isortI l], b.full⟩ := by unfold BS.add; rw [if_neg hf]
    rw [hadd]
    go_enter Tryz.func59, Tryz.ntmps59
    go_wp2_with fail
    refine (Form_calls w A c l HL.out HG.out).mono ?_
    rintro e w1 ⟨v, rfl, hO, hb⟩
    obtain ⟨Af, cf, rfl, -, -⟩ := Kd.R_reads hO
    have HF := Aside0.mk hb
    have HO := Aside0.mk (hO.lower HBg.out)
    have HB1 := Aside0.mk (H.out.below hb)
    clear hO hb
    go_wp2_with fail
    refine (ContainsW_same w1 A c l (Kd.C_below HL.out HF.out) HG.out.lit HG.out.len).mono ?_
    rintro e w2 ⟨rfl, rfl⟩
    obtain ⟨Ab, cb, hb, a1, hOL, a2⟩ := HB1.out
    obtain ⟨x0, x1, x2⟩ := cells3 hb
    have x0f := blk_frozen hb 0
    have HBB := Aside0.mk hb
    have HOL := Aside0.mk hOL
    clear hb hOL
    have hfi : decide ((262144 : Int) ≤ (b.l.length : Int)) = false := decide_eq_false (by omega)
    have hlen : Aside0 (b.l.length < 1000000000000) := ⟨by omega⟩
    have HA2 : Aside0 ((b.l ++ [isortI l]).length ≤ 262144) := ⟨by rw [List.length_append, List.length_singleton]; omega⟩
    clear hf a2
    have HFB : Aside0 (Below B w w2) := ⟨HF.out.mono HBg.out⟩
    go_wp2_with (first | (at_builtin; refine app_ints (w0 := w) B rfl (.tmp 38) (.tmp 40) rfl _ _ _ b.l (isortI l) rfl rfl rfl HOL.out HO.out HFB.out (Nat.le_trans HBg.out HF.out.size) hlen.out ?_; intro v1 w3 hO3 hB3 hg3; obtain ⟨A1, c1, rfl, hc1, -⟩ := Kd.R_reads hO3; have hT3 := OwnLL.other HOL.out hg3 HBB.out (by decide); have z0 := blk_cell hT3 0; have zf := blk_frozen hT3 0))
    go_end0
    rw [List.length_append, List.length_singleton] at hO3
    refine ⟨rfl, ⟨A1, c1, ?_, a1, ?_, HA2.out⟩, ?_, ?_⟩
    · rw [List.length_append, List.length_singleton]
      exact blk_set hT3 0 _
    · rw [List.length_append, List.length_singleton]
      exact Kd.R_set hO3 hT3 (fun q hq => by rcases kInts_E hq with rfl | rfl <;> decide) 0 _
    · exact hB3.setCell a1 _
    · exact (Keep.of_below BldO HF.out).trans ((Keep.of_row HOL.out hg3 BldO.row).trans (Keep.set hT3 BldO.bld 0 _))
/-- A row of numbers of different atoms, all there. -/
structure GoodR (l : List Int) : Prop where
  len : l.length ≤ 11
  pos : ∀ x ∈ l, 0 < x ∧ x < 1000000
  nd : l.Nodup
theorem absI_pos {x : Int} (h : 0 < x) : absI x = x := by unfold absI; omega
theorem GoodR.two {l : List Int} (h : GoodR l) {i j : Nat} (hi : i < j) (hj : j < l.length) : GoodC [-l[i], -l[j]] := by
  have h1 := h.pos _ (List.getElem_mem (show i < l.length by omega))
  have h2 := h.pos _ (List.getElem_mem hj)
  have hne := List.pairwise_iff_getElem.1 h.nd i j (by omega) hj hi
  refine ⟨by simp, by simp, ?_, ?_⟩
  · intro x hx
    simp at hx
    rcases hx with rfl | rfl <;> omega
  · simp [absI_neg, absI_pos h1.1, absI_pos h2.1]
    exact hne
theorem lit_C (W : World) (xs : List Int) (h : xs.length ≤ 100) : Kd.C (Kd.int .i64) (W.alloc (.cells (nums .i64 xs).toArray 3)) (some ⟨W.heap.size, 0, none⟩) xs.length xs :=
  (Kd.R_reads' (Kd.R_of_own (h1 := fun _ => rfl) (ok := fun _ => True) (own_lit W 0 3 .i64 xs (by omega) (by omega)) (fun _ _ => trivial))).2.2
theorem most_cons (b : BS) (x : Int) (r : List Int) : b.most (x :: r) = (r.foldl (fun b y => b.add [-x, -y]) b).most r := rfl
theorem OwnI.keepB {w w1 : World} {B : Nat} {v : Value} {xs : List Int} (h : OwnI w B v xs) (hk : Keep BldO w w1) : OwnI w1 B v xs :=
  hk.row h (by intro q hq cs; simp [Kd.int, Kd.scalar] at hq; subst hq; exact BldO.not (by decide) (by decide))
theorem Most_calls (w : World) (B Bl g : Nat) (b : BS) (A : Option Addr) (c : Nat) (l : List Int) (h : Bld w B g b) (hl : OwnI w Bl (.slice A l.length c) l) (hg : GoodR l) :
    Calls Tryz.prog 60 #[.pointer (some ⟨g, 0, none⟩), .slice A l.length c] w (fun e w' => e = .returned (.tuple #[]) ∧ Bld w' B g (b.most l) ∧ Below B w w' ∧ Keep BldO w w') := by
  have HL := Aside0.mk hl
  have HG := Aside0.mk hg
  have H := Aside0.mk h
  have HBg : Aside0 (B ≤ w.heap.size) := ⟨by obtain ⟨A, c, hb, a1, -⟩ := h; have := blk_lt hb; omega⟩
  have hlen := hg.len
  have hc : l.length ≤ c := (Kd.R_reads' hl).2.1
  clear hl hg h
  go_enter Tryz.func60, Tryz.ntmps60
  go_wp2_with fail
  go_loopw [10] (fun i W => ∃ (k : Nat) (b' : BS), k ≤ l.length ∧ i = .int .i64 k ∧ Aside0 (Bld W B g b') ∧ Aside0 (b'.most (l.drop k) = b.most l) ∧ Aside0 (Below B w W) ∧ Aside0 (Keep BldO w W) ∧ Aside0 (OwnI W Bl (.slice A l.length c) l)) (fun i _ => l.length - (intOf i).toNat)
  case atStart => exact ⟨0, b, by omega, rfl, H, ⟨by rw [List.drop_zero]⟩, ⟨Below.refl _ _⟩, ⟨Keep.refl _ _⟩, HL⟩
  case round =>
    clear H HL
    obtain ⟨k, b', hk, rfl, HB, HM, HF, HK, HL⟩ := hrel
    by_cases hlt : k < l.length
    · obtain ⟨ad, e, y⟩ := at_i64 (Kd.R_reads' HL.out).2.2 k hlt
      subst e
      have hx := HG.out.pos _ (List.getElem_mem hlt)
      obtain ⟨A', hcut, HR⟩ : ∃ A', (∀ W : World, (Instr.slice 35 (.slice (some ad) l.length c) (some (.int .i64 ((k : Int) + 1))) none none).run Tryz.prog W = .ok (.slice A' (l.length - (k + 1)) (c - (k + 1))) W) ∧ Aside0 (∀ W : World, OwnI W Bl (.slice (some ad) l.length c) l → Kd.C (Kd.int .i64) W A' (l.drop (k + 1)).length (l.drop (k + 1))) := by
        obtain ⟨i0, hi0, _, hsz, _⟩ := info_parts info_int
        exact ⟨_, cut_from 35 3 .i64 Tryz.underlying35 hi0 1 hsz (some ad) l.length c ((k : Int) + 1) (by omega) (by omega), ⟨fun W h => Kd.C_drop (m := k + 1) (Kd.R_reads' h).2.2 (by omega) hc⟩⟩
      have HM1 : Aside0 ((((l.drop (k + 1)).foldl (fun b y => b.add [-l[k], -y]) b').most (l.drop (k + 1))) = b.most l) := ⟨by rw [← HM.out, List.drop_eq_getElem_cons hlt]; rfl⟩
      have hrl : Aside0 ((l.drop (k + 1)).length = l.length - (k + 1)) := ⟨List.length_drop⟩
      obtain ⟨r, hr⟩ : ∃ r, l.drop (k + 1) = r := ⟨_, rfl⟩
      have HGG : Aside0 (∀ j, (hj : j < r.length) → GoodC [-l[k], -r[j]] ∧ 0 < r[j] ∧ r[j] < 1000000) := ⟨by
        subst hr
        intro j hj
        have hj' := hj
        rw [List.length_drop] at hj'
        have e : (l.drop (k + 1))[j] = l[k + 1 + j] := by rw [List.getElem_drop]
        rw [e]
        exact ⟨HG.out.two (by omega) (by omega), HG.out.pos _ (List.getElem_mem (by omega))⟩⟩
      rw [hr] at HR HM1 hrl
      have HRD := Aside0.mk hr
      clear hr
      generalize l[k] = x at *
      obtain ⟨rl, hrl2⟩ : ∃ rl, rl = l.length - (k + 1) := ⟨_, rfl⟩
      rw [← hrl2] at hcut hrl
      have hrl3 : rl ≤ 11 := by omega
      go_wp2_with fail
      go_loopw [20] (fun i W => ∃ (j : Nat) (b2 : BS), j ≤ rl ∧ i = .int .i64 j ∧ Aside0 (Bld W B g b2) ∧ Aside0 ((r.drop j).foldl (fun b y => b.add [-x, -y]) b2 = r.foldl (fun b y => b.add [-x, -y]) b') ∧ Aside0 (Below B w W) ∧ Aside0 (Keep BldO w W) ∧ Aside0 (OwnI W Bl (.slice (some ad) l.length c) l)) (fun i _ => rl - (intOf i).toNat)
      case atStart => exact ⟨0, b', by omega, rfl, HB, ⟨by rw [List.drop_zero]⟩, HF, HK, HL⟩
      case round =>
        clear HB HM HF HK HL
        obtain ⟨j, b2, hj, rfl, HB, HM2, HF, HK, HL⟩ := hrel
        by_cases hjt : j < rl
        · obtain ⟨ad', e, y'⟩ := at_i64 (HR.out _ HL.out) j (by have := hrl.out; omega)
          subst e
          obtain ⟨hgc, hy1, hy2⟩ := HGG.out j (by have := hrl.out; omega)
          have HGC := Aside0.mk hgc
          have HD : Aside0 (r.drop j = r[j]'(by have := hrl.out; omega) :: r.drop (j + 1)) := ⟨List.drop_eq_getElem_cons _⟩
          generalize r[j]'(by have := hrl.out; omega) = y0 at *
          clear hgc
          rw [HD.out] at HM2
          have hba := Aside0.mk (below_alloc (Below.refl wr.heap.size wr) (.cells #[.int .i64 (-x), .int .i64 (-y0)] 3))
          have HB1 := Aside0.mk (HB.out.below hba.out)
          have HC1 : Aside0 (Kd.C (Kd.int .i64) (wr.alloc (.cells #[.int .i64 (-x), .int .i64 (-y0)] 3)) (some ⟨wr.heap.size, 0, none⟩) 2 [-x, -y0]) := ⟨lit_C wr [-x, -y0] (by simp)⟩
          go_wp2_with fail
          refine (Add_calls _ B g b2 _ _ [-x, -y0] HB1.out HC1.out HGC.out).mono ?_
          rintro e w1 ⟨rfl, hB1, hb1, hk1⟩
          have HK1 : Aside0 (Keep BldO wr w1) := ⟨(Keep.of_below _ hba.out).trans hk1⟩
          have HBB1 : Aside0 (Below B w w1) := ⟨HF.out.trans ((hba.out.mono (Nat.le_trans HBg.out HF.out.size)).trans hb1)⟩
          have HB3 := Aside0.mk hB1
          clear hB1 hb1 hk1
          go_wp2_with fail
          go_roundw
          case rel => exact ⟨j + 1, _, by omega, by go_num, HB3, HM2, HBB1, ⟨HK.out.trans HK1.out⟩, ⟨HL.out.keepB HK1.out⟩⟩
          case measure => simp [intOf] <;> omega
        · have hd : Aside0 (r.drop j = []) := ⟨List.drop_of_length_le (by have := hrl.out; omega)⟩
          rw [hd.out] at HM2
          go_wp2_with fail
          go_roundw
          case rel => exact ⟨k + 1, b2, by omega, by go_num, HB, ⟨by rw [← HM1.out, ← HM2.out, HRD.out]; rfl⟩, HF, HK, HL⟩
          case measure => simp [intOf] <;> omega
    · have hd : Aside0 (b'.most (l.drop k) = b') := ⟨by rw [List.drop_of_length_le (by omega)]; rfl⟩
      rw [hd.out] at HM
      go_wp2_with fail
      go_end0
      exact ⟨rfl, by rw [← HM.out]; exact HB.out, HF.out, HK.out⟩
theorem Clauses_calls (w : World) (B g : Nat) (b : BS) (h : Bld w B g b) (hl : ∀ x ∈ b.l, x.length ≤ 12) :
    Calls Tryz.prog 16 #[.pointer (some ⟨g, 0, none⟩)] w (fun e w' => ∃ v, e = .returned v ∧ OwnLL w' w.heap.size v b.l ∧ Below w.heap.size w w') := by
  have HL := Aside0.mk hl
  clear hl
  obtain ⟨Ab, cb, hb, a1, hOL, a2⟩ := h
  obtain ⟨x0, x1, x2⟩ := cells3 hb
  have hC := (Kd.R_reads' hOL).2.2
  have HC : Aside0 (Kd.C kInts w Ab b.l.length b.l) := ⟨hC⟩
  have HA2 := Aside0.mk a2
  generalize b.l = L at *
  clear hb hOL hC a1 a2 x1 x2
  go_enter Tryz.func16, Tryz.ntmps16
  go_wp2_with fail
  go_loopw [3, 13] (fun v i W => ∃ k : Nat, k ≤ L.length ∧ i = .int .i64 k ∧ Aside0 (OwnLL W w.heap.size v (L.take k)) ∧ Aside0 (Below w.heap.size w W)) (fun _ i _ => L.length - (intOf i).toNat)
  case atStart => exact ⟨0, by omega, rfl, ⟨OwnLL.nil _ _⟩, ⟨Below.refl _ _⟩⟩
  case round =>
    obtain ⟨k, hk, rfl, HO, HF⟩ := hrel
    have hb2 := HA2.out
    by_cases hlt : k < L.length
    · obtain ⟨ad, cs, e, -, hK, hcell⟩ := Kd.C_get (Kd.C_below HC.out HF.out) ([] : List Int) k (by omega) (by omega)
      subst e
      obtain ⟨Ak, ck, rfl, hck, hCk⟩ := hK
      have y := hcell 0 _ rfl
      rw [show (k : Int).toNat = k from rfl, getD_at _ _ hlt] at hck hCk y
      have hlk := HL.out _ (List.getElem_mem hlt)
      have hsucc : Aside0 (L.take (k + 1) = L.take k ++ [L[k]]) := ⟨List.take_succ_eq_append_getElem hlt⟩
      have HCk := Aside0.mk hCk
      have hbi : (L.length : Int) < 1000000000000 := by omega
      clear hcell hCk hb2
      rw [show k * kInts.sz + 0 = k from Nat.mul_one k] at y
      generalize hLk : L[k] = lk at *
      go_wp2_with fail
      refine (CloneI_calls _ _ _ _ HCk.out (by omega)).mono ?_
      rintro e w1 ⟨v1, rfl, hO1, hb1⟩
      have HO1 := Aside0.mk (HO.out.below hb1)
      have HF1 := Aside0.mk (below_step HF.out hb1)
      have HU := Aside0.mk (hO1.lower HF.out.size)
      obtain ⟨Au, cu, rfl, -, -⟩ := Kd.R_reads hO1
      have hlen : Aside0 ((L.take k).length < 1000000000000) := ⟨by rw [List.length_take]; have := HA2.out; omega⟩
      clear hO1 hb1
      go_wp2_with (first | (at_builtin; refine app_ints (w0 := w) w.heap.size rfl (.tmp 17) (.tmp 20) rfl _ _ _ (L.take k) lk rfl rfl rfl HO1.out HU.out HF1.out HF1.out.size hlen.out ?_; intro v2 w2 hO hB hg))
      go_roundw
      case rel => exact ⟨k + 1, by omega, by go_num, ⟨by rw [hsucc.out]; exact hO⟩, ⟨hB⟩⟩
      case measure => simp [intOf] <;> omega
    · have hkn : Aside0 (L.take k = L) := ⟨List.take_of_length_le (by omega)⟩
      rw [hkn.out] at HO
      clear hb2
      go_wp2_with fail
      go_ret
      exact ⟨_, rfl, HO.out, HF.out⟩
theorem Bad_same (w : World) (B g : Nat) (b : BS) (h : Bld w B g b) : Calls Tryz.prog 17 #[.pointer (some ⟨g, 0, none⟩)] w (fun e w' => e = .returned (.bool false) ∧ w' = w) := by
  obtain ⟨Ab, cb, hb, a1, hOL, a2⟩ := h
  obtain ⟨x0, x1, x2⟩ := cells3 hb
  clear hb hOL a1 a2 x0 x2
  go_enter Tryz.func17, Tryz.ntmps17
  go_wp2_with fail
  go_ret
  exact ⟨rfl, rfl⟩
theorem NewB_calls (w : World) : Calls Tryz.prog 36 #[] w (fun e w' => e = .returned (.pointer (some ⟨w.heap.size, 0, none⟩)) ∧ (∀ B, B ≤ w.heap.size → Bld w' B w.heap.size ⟨[], false⟩) ∧ Below w.heap.size w w') := by
  go_enter Tryz.func36, Tryz.ntmps36
  go_wp2_with fail
  go_ret
  exact ⟨rfl, fun B hB => ⟨none, 0, blk_new _ _, hB, OwnLL.nil _ _, by simp⟩, below_alloc (Below.refl _ _) _⟩

end Go.Proofs.YtbahanlnkikpeaaGreat
