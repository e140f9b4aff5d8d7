import Derived.Test.YtbahanlnkikpeaaGreatBldW
import Derived.Deep.RegionWith
import Derived.StillTailTactics
import Derived.Deep.RegionHeld3
namespace Go.Proofs.YtbahanlnkikpeaaGreat
open Go.RowKit Go.Proofs.YtbahanlnkikpeaaGreatW.PrintWords Go.Proofs.YtbahanlnkikpeaaGreatW.PrintLast
set_option linter.unusedVariables false
set_option linter.unusedSimpArgs false
section
/-! The numbers of a row of atoms, in plain Lean. -/
theorem numTo_gt (a : DAtom) : ∀ (l : List DAtom) (k : Nat), numTo a l k = 0 ∨ k < numTo a l k
  | [], _ => .inl rfl
  | x :: l, k => by
    unfold numTo
    split
    · exact .inr (by omega)
    · rcases numTo_gt a l (k + 1) with h | h
      · exact .inl h
      · exact .inr (by omega)
theorem numTo_inj {a b : DAtom} : ∀ (l : List DAtom) (k : Nat), numTo a l k = numTo b l k → numTo a l k ≠ 0 → a = b
  | [], _, _, h => absurd rfl h
  | x :: l, k, h, h0 => by
    unfold numTo at h h0
    by_cases ha : x = a
    · by_cases hb : x = b
      · exact ha.symm.trans hb
      · rw [if_pos ha, if_neg hb] at h
        rcases numTo_gt b l (k + 1) with g | g <;> omega
    · by_cases hb : x = b
      · rw [if_neg ha, if_pos hb] at h
        rcases numTo_gt a l (k + 1) with g | g <;> omega
      · rw [if_neg ha, if_neg hb] at h
        rw [if_neg ha] at h0
        exact numTo_inj l (k + 1) h h0
theorem numOf_inj {a b : DAtom} {l : List DAtom} (h : numOf l a = numOf l b) (h0 : numOf l a ≠ 0) : a = b := numTo_inj l 0 h h0
theorem num_put {lim : Nat} {t : TS} {a : DAtom} (h : t.num lim a ≠ 0) : numOf (t.put lim a).l a = t.num lim a := by
  unfold TS.num at h ⊢
  unfold TS.put
  by_cases h1 : numOf t.l a ≠ 0
  · simp only [if_pos h1]
  · rw [if_neg h1] at h
    by_cases h2 : lim ≤ t.l.length
    · rw [if_pos h2] at h; exact absurd rfl h
    · simp only [if_neg h1, if_neg h2]
      rw [numOf_snoc, if_neg h1, if_pos rfl]
theorem numOf_put {lim : Nat} {t : TS} {a b : DAtom} (h : numOf t.l b ≠ 0) : numOf (t.put lim a).l b = numOf t.l b := by
  unfold TS.put
  split
  · rfl
  · split
    · rfl
    · rw [numOf_snoc, if_pos h]
theorem numOf_puts {lim : Nat} {b : DAtom} : ∀ (l : List DAtom) (t : TS), numOf t.l b ≠ 0 → numOf (t.puts lim l).l b = numOf t.l b
  | [], _, _ => rfl
  | a :: l, t, h => by
    have h1 := numOf_put (lim := lim) (a := a) h
    have h2 := numOf_puts (lim := lim) l (t.put lim a) (by rw [h1]; exact h)
    rw [h1] at h2
    exact h2
theorem puts_cons {lim : Nat} (t : TS) (a : DAtom) (l : List DAtom) : t.puts lim (a :: l) = (t.put lim a).puts lim l := rfl
theorem puts_snoc {lim : Nat} (t : TS) (l : List DAtom) (a : DAtom) : t.puts lim (l ++ [a]) = (t.puts lim l).put lim a := by unfold TS.puts; rw [List.foldl_append]; rfl
theorem nums_snoc {lim : Nat} : ∀ (l : List DAtom) (t : TS) (a : DAtom), t.nums lim (l ++ [a]) = t.nums lim l ++ [(((t.puts lim l).num lim a : Nat) : Int)]
  | [], _, _ => rfl
  | b :: l, t, a => by
    rw [List.cons_append]
    unfold TS.nums
    rw [nums_snoc l (t.put lim b) a]
    rfl
theorem nums_len {lim : Nat} : ∀ (l : List DAtom) (t : TS), (t.nums lim l).length = l.length
  | [], _ => rfl
  | b :: l, t => by
    unfold TS.nums
    rw [List.length_cons, nums_len l, List.length_cons]
theorem nums_map {lim : Nat} : ∀ (l : List DAtom) (t : TS), (0 : Int) ∉ t.nums lim l → t.nums lim l = l.map (fun a => (numOf (t.puts lim l).l a : Int))
  | [], _, _ => rfl
  | b :: l, t, h => by
    unfold TS.nums at h ⊢
    rw [List.mem_cons, not_or] at h
    have h1 : t.num lim b ≠ 0 := fun e => h.1 (by rw [e]; rfl)
    have h2 := num_put h1
    have h3 := numOf_puts (lim := lim) l (t.put lim b) (by rw [h2]; exact h1)
    rw [nums_map l (t.put lim b) h.2, List.map_cons, puts_cons, h3, h2]
theorem put_len {lim : Nat} {t : TS} {a : DAtom} (h : t.l.length ≤ lim) : (t.put lim a).l.length ≤ lim := by
  unfold TS.put
  split
  · exact h
  · split
    · exact h
    · simp; omega
theorem puts_len {lim : Nat} : ∀ (l : List DAtom) (t : TS), t.l.length ≤ lim → (t.puts lim l).l.length ≤ lim
  | [], _, h => h
  | a :: l, t, h => puts_len l (t.put lim a) (put_len h)
/-- A node's number and a row's: all of different atoms, if all are there. -/
theorem nums_good {lim : Nat} (hlim : lim ≤ 65536) (t : TS) (ht : t.l.length ≤ lim) (a : DAtom) (l : List DAtom) (hl : l.length ≤ 10) (hn : (a :: l).Nodup) (h0 : numOf t.l a ≠ 0) (hr : (0 : Int) ∉ t.nums lim l) :
    GoodR (t.nums lim l) ∧ (((numOf t.l a : Nat) : Int) ∉ t.nums lim l) ∧ numOf t.l a < 1000000 := by
  have hm := nums_map l t hr
  have ha : numOf (t.puts lim l).l a = numOf t.l a := numOf_puts l _ h0
  have hlen := puts_len l t ht
  have hpos : ∀ x ∈ l, numOf (t.puts lim l).l x ≠ 0 := by
    intro x hx e
    refine hr ?_
    rw [hm]
    exact List.mem_map.2 ⟨x, hx, by rw [e]; rfl⟩
  rw [List.nodup_cons] at hn
  refine ⟨⟨by rw [nums_len]; omega, ?_, ?_⟩, ?_, ?_⟩
  · intro x hx
    rw [hm] at hx
    obtain ⟨y, hy, rfl⟩ := List.mem_map.1 hx
    have h1 := hpos y hy
    have h2 := numOf_le y (t.puts lim l).l
    omega
  · rw [hm]
    unfold List.Nodup
    rw [List.pairwise_map]
    refine List.Pairwise.imp_of_mem ?_ hn.2
    intro x y hx hy hne he
    exact hne (numOf_inj (by omega) (hpos x hx))
  · rw [hm]
    intro hx
    obtain ⟨y, hy, e⟩ := List.mem_map.1 hx
    have : y = a := numOf_inj (l := (t.puts lim l).l) (by rw [ha]; omega) (hpos y hy)
    exact hn.1 (this ▸ hy)
  · have := numOf_le a t.l
    omega
theorem relAs_nodup (p n : Nat) : (nodeA p :: relAs p n).Nodup := by
  rw [List.nodup_cons]
  refine ⟨fun h => ?_, ?_⟩
  · obtain ⟨i, _, e⟩ := List.mem_map.1 h
    have := congrArg DAtom.kind e
    simp [relA, nodeA] at this
  · unfold relAs List.Nodup
    rw [List.pairwise_map]
    refine List.nodup_range.imp (fun hne e => hne ?_)
    have := congrArg DAtom.b e
    simp [relA] at this
    omega
theorem valAs_nodup (p j n : Nat) : (nodeA p :: valAs p j n).Nodup := by
  rw [List.nodup_cons]
  refine ⟨fun h => ?_, ?_⟩
  · obtain ⟨i, _, e⟩ := List.mem_map.1 h
    have := congrArg DAtom.kind e
    simp [valA, nodeA] at this
  · unfold valAs List.Nodup
    rw [List.pairwise_map]
    refine List.nodup_range.imp (fun hne e => hne ?_)
    have := congrArg DAtom.c e
    simp [valA] at this
    omega

end
section
open Go.RowKit Go.Maps
set_option maxRecDepth 100000
set_option maxHeartbeats 2000000
/-! The ground: its table and its builder, whole. -/
structure Args where
  A : Option Addr
  c : Nat
  ps : List DPackage
  A2 : Option Addr
  n2 : Nat
  c2 : Nat
  B : Option Addr
  d : Nat
  rs : List DRoot
  lim : Nat
def Gnd (w0 : World) (g : Nat) (a : Args) (gs : GS) (w : World) : Prop :=
  Below w0.heap.size w0 w ∧ w0.heap.size ≤ g ∧ ∃ (tg bg : Nat) (Ai : Option Addr) (cI : Nat) (Ar : Option Addr) (cR : Nat),
    GroundAt w g a.A a.ps.length a.c a.A2 a.n2 a.c2 a.B a.rs.length a.d Ai (clo a.ps a.rs).length cI Ar (rulesOf a.ps a.rs).length cR (.pointer (some ⟨tg, 0, none⟩)) (.pointer (some ⟨bg, 0, none⟩)) ∧
    Tab w w0.heap.size tg a.lim gs.t ∧ Bld w w0.heap.size bg gs.b ∧ OwnI w w0.heap.size (.slice Ai (clo a.ps a.rs).length cI) (clo a.ps a.rs) ∧ OwnRl w w0.heap.size (.slice Ar (rulesOf a.ps a.rs).length cR) (rulesOf a.ps a.rs)
theorem kRule_E {q : Nat} (hq : q ∈ 45 :: kRule.E) : q = 45 := by
  simp [kRule, Kd.iso, Kd.pair, Kd.int, Kd.scalar] at hq
  exact hq
theorem OwnI.keepT {w w1 : World} {B : Nat} {v : Value} {xs : List Int} (h : OwnI w B v xs) (hk : Keep TabO w w1) : OwnI w1 B v xs :=
  hk.row h (by intro q hq cs; simp [Kd.int, Kd.scalar] at hq; subst hq; exact TabO.not (by decide) (by decide))
theorem Gnd.elder {w0 w : World} {g : Nat} {a : Args} {gs : GS} (h : Gnd w0 g a gs w) : Below w0.heap.size w0 w := h.1
theorem Gnd.below {w0 w w1 : World} {g : Nat} {a : Args} {gs : GS} (h : Gnd w0 g a gs w) (hb : Below w.heap.size w w1) : Gnd w0 g a gs w1 := by
  obtain ⟨h1, h2, tg, bg, Ai, cI, Ar, cR, hG, hT, hB, hI, hR⟩ := h
  exact ⟨below_step h1 hb, h2, tg, bg, Ai, cI, Ar, cR, blk_below hG hb, hT.below hb, hB.below hb, hI.below hb, hR.below hb⟩
/-- The table turns. -/
theorem Gnd.mkT {w0 w w1 : World} {g tg bg : Nat} {a : Args} {gs : GS} {t' : TS} {Ai : Option Addr} {cI : Nat} {Ar : Option Addr} {cR : Nat} (h : Gnd w0 g a gs w)
    (hG : GroundAt w g a.A a.ps.length a.c a.A2 a.n2 a.c2 a.B a.rs.length a.d Ai (clo a.ps a.rs).length cI Ar (rulesOf a.ps a.rs).length cR (.pointer (some ⟨tg, 0, none⟩)) (.pointer (some ⟨bg, 0, none⟩)))
    (hB : Bld w w0.heap.size bg gs.b) (hI : OwnI w w0.heap.size (.slice Ai (clo a.ps a.rs).length cI) (clo a.ps a.rs)) (hR : OwnRl w w0.heap.size (.slice Ar (rulesOf a.ps a.rs).length cR) (rulesOf a.ps a.rs))
    (hb : Below w0.heap.size w w1) (hk : Keep TabO w w1) (hT : Tab w1 w0.heap.size tg a.lim t') : Gnd w0 g a ⟨t', gs.b⟩ w1 :=
  ⟨h.1.trans hb, h.2.1, tg, bg, Ai, cI, Ar, cR, hk.blk hG (TabO.not (by decide) (by decide)), hT, hB.keep hk (fun _ => TabO.not (by decide) (by decide)) (fun _ => TabO.not (by decide) (by decide)) (fun _ => TabO.not (by decide) (by decide)), hI.keepT hk, hk.row hR (fun q hq cs => kRule_E hq ▸ TabO.not (by decide) (by decide))⟩
/-- The builder turns. -/
theorem Gnd.mkB {w0 w w1 : World} {g tg bg : Nat} {a : Args} {gs : GS} {b' : BS} {Ai : Option Addr} {cI : Nat} {Ar : Option Addr} {cR : Nat} (h : Gnd w0 g a gs w)
    (hG : GroundAt w g a.A a.ps.length a.c a.A2 a.n2 a.c2 a.B a.rs.length a.d Ai (clo a.ps a.rs).length cI Ar (rulesOf a.ps a.rs).length cR (.pointer (some ⟨tg, 0, none⟩)) (.pointer (some ⟨bg, 0, none⟩)))
    (hT : Tab w w0.heap.size tg a.lim gs.t) (hI : OwnI w w0.heap.size (.slice Ai (clo a.ps a.rs).length cI) (clo a.ps a.rs)) (hR : OwnRl w w0.heap.size (.slice Ar (rulesOf a.ps a.rs).length cR) (rulesOf a.ps a.rs))
    (hb : Below w0.heap.size w w1) (hk : Keep BldO w w1) (hB : Bld w1 w0.heap.size bg b') : Gnd w0 g a ⟨gs.t, b'⟩ w1 :=
  ⟨h.1.trans hb, h.2.1, tg, bg, Ai, cI, Ar, cR, hk.blk hG (BldO.not (by decide) (by decide)), hT.keep hk BldO.notmap (fun _ => BldO.not (by decide) (by decide)) (fun _ => BldO.not (by decide) (by decide)), hB, hI.keepB hk, hk.row hR (fun q hq cs => kRule_E hq ▸ BldO.not (by decide) (by decide))⟩
theorem NumberG_calls (w0 w : World) (g : Nat) (a : Args) (gs : GS) (x : DAtom) (h : Gnd w0 g a gs w) (hx : AtOK x) :
    Calls Tryz.prog 39 #[.pointer (some ⟨g, 0, none⟩), atomV x] w (fun e w' => e = .returned (.int .i64 (gs.t.num a.lim x)) ∧ Gnd w0 g a ⟨gs.t.put a.lim x, gs.b⟩ w' ∧ Keep TabO w w') := by
  have H := Aside0.mk h
  have HX := Aside0.mk hx
  obtain ⟨h1, h2, tg, bg, Ai, cI, Ar, cR, hG, hT, hB, hI, hR⟩ := h
  have hba := Aside0.mk (below_alloc (Below.refl w.heap.size w) (.cells #[.int .u8 x.kind, .int .i64 x.a, .int .i64 x.b, .int .i64 x.c] 96))
  have HT := Aside0.mk (TableG_same (w.alloc (.cells #[.int .u8 x.kind, .int .i64 x.a, .int .i64 x.b, .int .i64 x.c] 96)).drew g (blk_below hG (below_drew hba.out)))
  have HN := Aside0.mk (Number_calls (w.alloc (.cells #[.int .u8 x.kind, .int .i64 x.a, .int .i64 x.b, .int .i64 x.c] 96)).drew _ tg a.lim gs.t x (hT.below (below_drew hba.out)) hx)
  obtain ⟨y0, y1, y2, y3⟩ := cells4 (blk_new w (.cells #[.int .u8 x.kind, .int .i64 x.a, .int .i64 x.b, .int .i64 x.c] 96))
  unfold atomV at HN ⊢
  have HP := Aside0.mk (And.intro hG (And.intro hB (And.intro hI hR)))
  have H2 := Aside0.mk h2
  have H1 := Aside0.mk h1
  clear h1 h2 hG hT hB hI hR hx
  go_enter Tryz.func39, Tryz.ntmps39
  go_wp2_with fail
  go_region_with (first | (go_at_call 18; refine HT.out.mono ?_; rintro e w' ⟨rfl, rfl⟩) | (go_at_call 58; refine HN.out.mono ?_; rintro e w2 ⟨rfl, hT2, hb2, hk2⟩))
  all_goals
    go_wp2_with fail
    refine bodyPost_ret (v := .int .i64 (gs.t.num a.lim x)) (by simp [results, Tryz.results39, go_sem, Act.put]) rfl ?_
    have hka : Keep TabO w w2 := (Keep.of_below TabO (below_drew hba.out)).trans hk2
    exact ⟨rfl, Gnd.mkT H.out HP.out.1 HP.out.2.1 HP.out.2.2.1 HP.out.2.2.2 (((below_drew hba.out).mono H1.out.size).trans hb2) hka hT2, hka⟩

end
section
open Go.RowKit Go.Maps
set_option maxRecDepth 100000
set_option maxHeartbeats 2000000
theorem hasI_mem {l : List Int} {x : Int} : hasI l x = true ↔ x ∈ l := by
  unfold hasI
  simp
/-- What a node and a row are, where one is built. -/
def OneOK (node : Int) (row : List Int) : Prop := (node = 0 ∨ (0 : Int) ∈ row) ∨ (row.length ≤ 10 ∧ GoodR row ∧ 0 < node ∧ node < 1000000 ∧ node ∉ row)
theorem OneOK.good {node : Int} {row : List Int} (hr : row.length ≤ 10) (h : GoodR row) (h0 : 0 < node) (h1 : node < 1000000) (hn : node ∉ row) : GoodC (-node :: row) ∧ ∀ x ∈ row, GoodC [-x, node] := by
  have habs : row.map absI = row := by
    conv => rhs; rw [← List.map_id row]
    exact List.map_congr_left (fun x hx => absI_pos (h.pos x hx).1)
  refine ⟨⟨by simp, by rw [List.length_cons]; omega, ?_, ?_⟩, ?_⟩
  · intro x hx
    rcases List.mem_cons.1 hx with rfl | hx
    · omega
    · have := h.pos x hx; omega
  · rw [List.map_cons, habs, absI_neg, absI_pos h0, List.nodup_cons]
    exact ⟨hn, h.nd⟩
  · intro x hx
    have hp := h.pos x hx
    refine ⟨by simp, by simp, ?_, ?_⟩
    · intro y hy
      simp at hy
      rcases hy with rfl | rfl <;> omega
    · simp [absI_neg, absI_pos hp.1, absI_pos h0]
      rintro rfl
      exact hn hx
theorem oneG_calls (w0 w : World) (g : Nat) (a : Args) (gs : GS) (node : Int) (Br : Nat) (Ar : Option Addr) (cr : Nat) (row : List Int) (h : Gnd w0 g a gs w) (hr : OwnI w Br (.slice Ar row.length cr) row) (ho : OneOK node row) :
    Calls Tryz.prog 40 #[.pointer (some ⟨g, 0, none⟩), .int .i64 node, .slice Ar row.length cr] w (fun e w' => e = .returned (.tuple #[]) ∧ Gnd w0 g a ⟨gs.t, gs.b.one node row⟩ w' ∧ Keep BldO w w') := by
  have H := Aside0.mk h
  have HR := Aside0.mk hr
  by_cases hz : node = 0 ∨ (0 : Int) ∈ row
  · have hb : gs.b.one node row = gs.b := by unfold BS.one; rw [if_pos hz]
    rw [hb]
    clear ho h hr
    by_cases hn : node = 0
    · subst hn
      go_enter Tryz.func40, Tryz.ntmps40
      go_wp2_with fail
      (try simp only [Exit.inBlock, Exit.then]); refine bodyPost_ret (results_none rfl _ _ _) rfl ?_
      exact ⟨rfl, H.out, Keep.refl _ _⟩
    · have hm : hasI row 0 = true := hasI_mem.2 (hz.resolve_left hn)
      clear hz
      go_enter Tryz.func40, Tryz.ntmps40
      go_wp2_with fail
      refine (ContainsI_same _ _ _ _ _ (Kd.R_reads' HR.out).2.2).mono ?_
      rintro e w1 ⟨rfl, rfl⟩
      rw [hm]
      go_wp2_with fail
      (try simp only [Exit.inBlock, Exit.then]); refine bodyPost_ret (results_none rfl _ _ _) rfl ?_
      exact ⟨rfl, H.out, Keep.refl _ _⟩
  · obtain ⟨hl, hg, h0, h1, hnm⟩ := ho.resolve_left hz
    have hm : hasI row 0 = false := by
      rw [Bool.eq_false_iff]
      exact fun e => hz (.inr (hasI_mem.1 e))
    have hb : gs.b.one node row = row.foldl (fun b n => b.add [-n, node]) ((gs.b.add (-node :: row)).most row) := by unfold BS.one; rw [if_neg hz]
    rw [hb]
    obtain ⟨hgc, hgx⟩ := OneOK.good hl hg h0 h1 hnm
    have HGC := Aside0.mk hgc
    have HGX := Aside0.mk hgx
    have HGR := Aside0.mk hg
    have hn0 : ¬ node = 0 := by omega
    clear ho h hr hz hgc hgx hg hnm hb
    obtain ⟨h1', h2, tg, bg, Ai, cI, Arr, cR, hG, hT, hB, hI, hRl⟩ := H.out
    have HG0 := Aside0.mk hG
    have HP := Aside0.mk (And.intro hT (And.intro hI hRl))
    have HB0 := Aside0.mk hB
    have HE := Aside0.mk h1'
    clear h1' h2 hG hT hB hI hRl
    obtain ⟨x0, x1, x2, x3, x4, x5, x6⟩ := cells7 HG0.out
    clear x0 x1 x2 x3 x4 x5
    go_enter Tryz.func40, Tryz.ntmps40
    go_wp2_with fail
    refine (ContainsI_same _ _ _ _ _ (Kd.R_reads' HR.out).2.2).mono ?_
    rintro e w1 ⟨rfl, rfl⟩
    rw [hm]
    go_wp2_with fail
    have hwn : IntKind.i64.wrap (-node) = -node := IntWalk.i64_in _ (by omega)
    have HLit : Aside0 (OwnI ((w1.alloc (.cells #[.int .i64 (-node)] 3)).drew) w1.heap.size (.slice (some ⟨w1.heap.size, 0, none⟩) 1 1) [-node]) := ⟨OwnI.below (Kd.R_of_own (own_lit w1 w1.heap.size 3 .i64 [-node] (Nat.le_refl _) (by simp)) (fun _ _ => trivial)) (below_drew (Below.refl _ _))⟩
    have HBL : Aside0 (Below w1.heap.size w1 ((w1.alloc (.cells #[.int .i64 (-node)] 3)).drew)) := ⟨below_drew (below_alloc (Below.refl _ _) _)⟩
    have HRw : Aside0 (Kd.C (Kd.int .i64) ((w1.alloc (.cells #[.int .i64 (-node)] 3)).drew) Ar row.length row) := ⟨Kd.C_below (Kd.R_reads' HR.out).2.2 HBL.out⟩
    go_region_held3 (fun w' => w'.cell? ⟨g, 6, none⟩ = some (.pointer (some ⟨bg, 0, none⟩)))
      (first
        | go_keep
        | (apply Lib.cell?_alloc_some; assumption)
        | exact pw_cell_below hB3 x6
        | exact blk_cell (hk4.blk (blk_below HG0.out hB3) (BldO.not (by decide) (by decide))) 6)
      ((first
        | (refine Kd.R_append_rows_step (Kd.int .i64) (w0 := w1) (Rr := (Kd.int .i64).K w1) w1.heap.size (by rfl) (.tmp 20) (.tmp 21) 35 3 (.int .i64 0) 8 (by rfl) Tryz.underlying35 info_int rfl (by decide) (by omega) _ [-node] row Ar row.length cr (fun _ => True) (fun _ => False) (by rfl) (by rfl) HLit.out HRw.out (fun x cs hk => hk) (fun _ hk => hk.elim) (fun _ _ => trivial) HBL.out HBL.out.size (by simp; omega) ?_; intro v1 w3 hO3 hB3 hg3 hat3; obtain ⟨A1, c1, rfl, hc1, hC1⟩ := Kd.R_reads hO3)
        | (go_at_call 59; refine (Add_calls w3 _ bg gs.b _ _ (-node :: row) (HB0.out.below hB3) hC1 HGC.out).mono ?_; rintro e w4 ⟨rfl, hB4, hb4, hk4⟩)))
    have HB4 := Aside0.mk hB4
    have HK4 : Aside0 (Keep BldO w1 w4) := ⟨(Keep.of_below BldO hB3).trans hk4⟩
    have HF4 : Aside0 (Below w0.heap.size w1 w4) := ⟨(hB3.mono HE.out.size).trans hb4⟩
    have HR4 := Aside0.mk (HR.out.keepB HK4.out)
    have z6 := blk_cell (HK4.out.blk HG0.out (BldO.not (by decide) (by decide))) 6
    clear hB4 hb4 hk4 hB3 hO3 hg3 hat3 hC1 x6 HBL HRw HLit
    go_wp2_with fail
    refine (Most_calls w4 _ Br bg _ _ _ row HB4.out HR4.out HGR.out).mono ?_
    rintro e w5 ⟨rfl, hB5, hb5, hk5⟩
    have HB5 := Aside0.mk hB5
    have HK5 : Aside0 (Keep BldO w1 w5) := ⟨HK4.out.trans hk5⟩
    have HF5 : Aside0 (Below w0.heap.size w1 w5) := ⟨HF4.out.trans hb5⟩
    clear hB5 hb5 hk5 HB4 HK4 HF4 HR4 z6
    go_wp2_with fail
    go_loopw [32] (fun i W => ∃ (k : Nat) (b' : BS), k ≤ row.length ∧ i = .int .i64 k ∧ Aside0 (Bld W w0.heap.size bg b') ∧ Aside0 ((row.drop k).foldl (fun b n => b.add [-n, node]) b' = row.foldl (fun b n => b.add [-n, node]) ((gs.b.add (-node :: row)).most row)) ∧ Aside0 (Below w0.heap.size w1 W) ∧ Aside0 (Keep BldO w1 W)) (fun i _ => row.length - (intOf i).toNat)
    case atStart => exact ⟨0, _, by omega, rfl, HB5, ⟨by rw [List.drop_zero]⟩, HF5, HK5⟩
    case round =>
      clear HB5 HK5 HF5
      obtain ⟨k, b', hk, rfl, HB, HM, HF, HK⟩ := hrel
      have z6 := blk_cell (HK.out.blk HG0.out (BldO.not (by decide) (by decide))) 6
      by_cases hlt : k < row.length
      · obtain ⟨ad, e, y⟩ := at_i64 (Kd.R_reads' (HR.out.keepB HK.out)).2.2 k hlt
        subst e
        have hx := HGR.out.pos _ (List.getElem_mem hlt)
        have HGC2 := Aside0.mk (HGX.out _ (List.getElem_mem hlt))
        have HD : Aside0 (row.drop k = row[k] :: row.drop (k + 1)) := ⟨List.drop_eq_getElem_cons _⟩
        rw [HD.out] at HM
        clear HD
        generalize row[k] = x at *
        have hba := Aside0.mk (below_alloc (Below.refl wr.heap.size wr) (.cells #[.int .i64 (-x), .int .i64 node] 3))
        have HB1 := Aside0.mk (HB.out.below hba.out)
        have HC1 : Aside0 (Kd.C (Kd.int .i64) (wr.alloc (.cells #[.int .i64 (-x), .int .i64 node] 3)) (some ⟨wr.heap.size, 0, none⟩) 2 [-x, node]) := ⟨lit_C wr [-x, node] (by simp)⟩
        go_wp2_with fail
        refine (Add_calls _ _ bg b' _ _ [-x, node] HB1.out HC1.out HGC2.out).mono ?_
        rintro e w6 ⟨rfl, hB6, hb6, hk6⟩
        have HK1 : Aside0 (Keep BldO w1 w6) := ⟨HK.out.trans ((Keep.of_below _ hba.out).trans hk6)⟩
        have HF1 : Aside0 (Below w0.heap.size w1 w6) := ⟨HF.out.trans ((hba.out.mono (Nat.le_trans HE.out.size HF.out.size)).trans hb6)⟩
        have HB3 := Aside0.mk hB6
        clear hB6 hb6 hk6
        go_wp2_with fail
        go_roundw
        case rel => exact ⟨k + 1, _, by omega, by go_num, HB3, HM, HF1, HK1⟩
        case measure => simp [intOf] <;> omega
      · have hd : Aside0 (row.drop k = []) := ⟨List.drop_of_length_le (by omega)⟩
        rw [hd.out] at HM
        go_wp2_with fail
        go_end0
        have hBB : Bld wr w0.heap.size bg (row.foldl (fun b n => b.add [-n, node]) ((gs.b.add (-node :: row)).most row)) := by rw [← HM.out]; exact HB.out
        exact ⟨rfl, Gnd.mkB H.out HG0.out HP.out.1 HP.out.2.1 HP.out.2.2 HF.out HK.out hBB, HK.out⟩

end
section
open Go.RowKit Go.Maps
set_option maxRecDepth 100000
set_option maxHeartbeats 2000000
theorem mapT_empty {w : World} {m : Nat} (h : w.heap[m]? = some (.map #[] 0)) : MapT w m 0 (.map []) := ⟨#[], 0, h, ⟨by simp, ⟨by simp, by simp, by simp⟩, by simp⟩, Nat.le_refl _, rfl⟩
theorem NewG_calls (w : World) (a : Args) (hlim : a.lim ≤ 65536) (h : Kd.C kPackage w a.A a.ps.length a.ps) (hr : Kd.C kRoot w a.B a.rs.length a.rs) (hs : Small a.ps a.rs) :
    Calls Tryz.prog 9 #[.agg #[.slice a.A a.ps.length a.c, .slice a.A2 a.n2 a.c2], .agg #[.slice a.B a.rs.length a.d], .int .i64 a.lim] w (fun e w' => ∃ g, e = .returned (.pointer (some ⟨g, 0, none⟩)) ∧ Gnd w g a GS.start w') := by
  have HS := Aside0.mk hs
  have H := Aside0.mk h
  have H2 := Aside0.mk hr
  obtain ⟨A, c, ps, A2, n2, c2, B, d, rs, lim⟩ := a
  simp only at *
  clear h hr hs
  have HF0 := Aside0.mk (Fr2.mk0 w 25 #[.slice A ps.length c, .slice A2 n2 c2] 28 #[.slice B rs.length d])
  go_enter Tryz.func9, Tryz.ntmps9
  go_wp2_with fail
  refine (ClosureG_calls _ A c ps A2 n2 c2 B d rs (Kd.C_below H.out HF0.out.below) (Kd.C_below H2.out HF0.out.below) HS.out).mono ?_
  rintro e w1 ⟨v, rfl, hO, hb⟩
  obtain ⟨Ai, cI, rfl, hci, -⟩ := Kd.R_reads hO
  have HF1 := Aside0.mk (HF0.out.step hb)
  have HO1 := Aside0.mk (hO.lower HF0.out.below.size)
  obtain ⟨x0, x1⟩ := cells2 HF1.out.b0
  have x2 : w1.cell? ⟨w.heap.size + 1, 0, none⟩ = some (.slice B rs.length d) := blk_cell HF1.out.b1 0
  clear hO hb hci HF0
  go_wp2_with fail
  have HFd := Aside0.mk (HF1.out.step (below_drew (Below.refl _ _)))
  have HOd := Aside0.mk (HO1.out.below (below_drew (Below.refl _ _)))
  have hd0 : (0 : Int) ≤ (lim : Int) := by omega
  have hd1 : (lim : Int) ≤ 65536 := by omega
  go_region_held3 (fun w' => w'.cell? ⟨w.heap.size, 0, none⟩ = some (.slice A ps.length c) ∧ w'.cell? ⟨w.heap.size, 1, none⟩ = some (.slice A2 n2 c2) ∧ w'.cell? ⟨w.heap.size + 1, 0, none⟩ = some (.slice B rs.length d))
    (first
      | go_keep
      | (refine ⟨?_, ?_, ?_⟩ <;> (apply Lib.cell?_alloc_some; assumption))
      | exact ⟨pw_cell_below hb4 (pw_cell_below hb3 (pw_cell_below hb2 x0)), pw_cell_below hb4 (pw_cell_below hb3 (pw_cell_below hb2 x1)), pw_cell_below hb4 (pw_cell_below hb3 (pw_cell_below hb2 x2))⟩
      | exact ⟨pw_cell_below hb3 (pw_cell_below hb2 x0), pw_cell_below hb3 (pw_cell_below hb2 x1), pw_cell_below hb3 (pw_cell_below hb2 x2)⟩
      | exact ⟨pw_cell_below hb2 x0, pw_cell_below hb2 x1, pw_cell_below hb2 x2⟩)
    ((first
      | (go_at_call 34; refine (rulesG_calls w1.drew A c ps A2 n2 c2 B d rs Ai cI (Kd.C_below H.out HFd.out.below) (Kd.C_below H2.out HFd.out.below) (Kd.R_reads' HOd.out).2.2 HS.out).mono ?_; rintro e w2 ⟨v2, rfl, hR2, hb2⟩; obtain ⟨Ar, cR, rfl, -, -⟩ := Kd.R_reads hR2)
      | (go_at_call 35; refine (NewT_calls w2 lim hd0 hd1).mono ?_; rintro e w3 ⟨rfl, ⟨u, hT3, hm3, hb3⟩⟩)
      | (go_at_call 36; refine (NewB_calls w3).mono ?_; rintro e w4 ⟨rfl, hB4, hb4⟩)))
  go_wp2_with fail
  go_ret
  obtain ⟨A0, c0, e0, -, -⟩ := Kd.R_reads HOd.out
  have s1 := HF1.out.below.size
  have sd : w1.drew.heap.size = w1.heap.size := rfl
  have s2 := hb2.size
  have s3 := hb3.size
  have s4 := hb4.size
  have hba := below_alloc (Below.refl w4.heap.size w4) (.cells #[.slice A ps.length c, .slice A2 n2 c2, .slice B rs.length d, .slice Ai (clo ps rs).length cI, .slice Ar (rulesOf ps rs).length cR, .pointer (some ⟨w2.heap.size + 1, 0, none⟩), .pointer (some ⟨w3.heap.size, 0, none⟩)] 91)
  have hb24 := below_step hb3 hb4
  refine ⟨_, rfl, below_step (below_step (below_step HFd.out.below hb2) hb24) hba, by omega, w2.heap.size + 1, w3.heap.size, Ai, cI, Ar, cR, blk_new _ _, ?_, ?_, ?_, ?_⟩
  · refine Tab.below (w := w3) ⟨w2.heap.size, none, 0, .map [], u, hT3, by omega, by omega, mapT_empty hm3, numD_nil, OwnA.nil _ _, hlim, Nat.zero_le _⟩ (below_step hb4 hba)
  · exact (hB4 _ (by omega)).below hba
  · exact ((HOd.out.below hb2).below hb24).below hba
  · exact (OwnRl.below (OwnRl.below (Kd.R_lower hR2 (by omega)) hb24) hba)

end
section
open Go.RowKit Go.Maps
/-! A row of numbers is filled: what stands, what grows. -/
theorem below_two {B : Nat} {w0 w w1 : World} (h : Below B w0 w) (h1 : Below B w0 w1) (hs : w.heap.size ≤ w1.heap.size) : Below B w w1 :=
  ⟨h1.os.trans h.os.symm, h1.tape.trans h.tape.symm, h1.output.trans h.output.symm, hs, fun k hk => (h1.block k hk).trans (h.block k hk).symm⟩
theorem Keep.after {T : Obj → Prop} {w W w1 : World} (h : Keep T w W) (hb : Below w.heap.size W w1) : Keep T w w1 :=
  ⟨Nat.le_trans h.size hb.size, fun b o ho hT => (hb.block b (blk_lt ho)).trans (h.obj b o ho hT)⟩
structure Sec (w0 wS : World) (tg lim : Nat) (t' : TS) (row : List Int) (v : Value) (W : World) : Prop where
  below : Below w0.heap.size wS W
  keep : Keep TabO wS W
  tab : Tab W w0.heap.size tg lim t'
  own : OwnI W wS.heap.size v row
theorem Sec.step {w0 wS : World} {tg lim : Nat} {t' : TS} {row : List Int} {v : Value} {W W1 : World} (h : Sec w0 wS tg lim t' row v W) (hb : Below W.heap.size W W1) (hs : w0.heap.size ≤ wS.heap.size) : Sec w0 wS tg lim t' row v W1 :=
  ⟨h.below.trans (hb.mono (Nat.le_trans hs h.keep.size)), h.keep.step hb, h.tab.below hb, h.own.below hb⟩
theorem Sec.app {w0 wS : World} {tg lim : Nat} {t' : TS} {row row1 : List Int} {v v1 : Value} {W W1 : World} (h : Sec w0 wS tg lim t' row v W) (hs : w0.heap.size ≤ wS.heap.size) (hO : OwnI W1 wS.heap.size v1 row1) (hb : Below wS.heap.size W W1) (hg : W.grownBy W1 v.ownBlock) : Sec w0 wS tg lim t' row1 v1 W1 :=
  ⟨h.below.trans (hb.mono hs), h.keep.after hb,
    h.tab.keep (Keep.of_row (T := fun o => ∃ cs, o = .cells cs 3 (0, 0)) h.own hg (fun cs => ⟨cs, rfl⟩)) (fun _ _ ⟨_, e⟩ => by cases e) (fun _ ⟨_, e⟩ => by injection e with _ e; exact absurd e (by decide)) (fun _ ⟨_, e⟩ => by injection e with _ e; exact absurd e (by decide)), hO⟩
/-- The ground's pieces, where a row begins. -/
structure Pcs (w0 wS : World) (g tg bg : Nat) (a : Args) (gs : GS) (Ai : Option Addr) (cI : Nat) (Ar : Option Addr) (cR : Nat) : Prop where
  gnd : Gnd w0 g a gs wS
  at_ : GroundAt wS g a.A a.ps.length a.c a.A2 a.n2 a.c2 a.B a.rs.length a.d Ai (clo a.ps a.rs).length cI Ar (rulesOf a.ps a.rs).length cR (.pointer (some ⟨tg, 0, none⟩)) (.pointer (some ⟨bg, 0, none⟩))
  tab : Tab wS w0.heap.size tg a.lim gs.t
  bld : Bld wS w0.heap.size bg gs.b
  l : OwnI wS w0.heap.size (.slice Ai (clo a.ps a.rs).length cI) (clo a.ps a.rs)
  r : OwnRl wS w0.heap.size (.slice Ar (rulesOf a.ps a.rs).length cR) (rulesOf a.ps a.rs)
theorem Gnd.pcs {w0 wS : World} {g : Nat} {a : Args} {gs : GS} (h : Gnd w0 g a gs wS) : ∃ tg bg Ai cI Ar cR, Pcs w0 wS g tg bg a gs Ai cI Ar cR := by
  have h' := h
  obtain ⟨h1, h2, tg, bg, Ai, cI, Ar, cR, hG, hT, hB, hI, hR⟩ := h
  exact ⟨tg, bg, Ai, cI, Ar, cR, h', hG, hT, hB, hI, hR⟩
section
variable {w0 wS : World} {g tg bg : Nat} {a : Args} {gs : GS} {Ai : Option Addr} {cI : Nat} {Ar : Option Addr} {cR : Nat}
theorem Pcs.size (h : Pcs w0 wS g tg bg a gs Ai cI Ar cR) : w0.heap.size ≤ wS.heap.size := h.gnd.1.size
theorem Pcs.start (h : Pcs w0 wS g tg bg a gs Ai cI Ar cR) : Sec w0 wS tg a.lim gs.t [] (.slice none 0 0) wS := ⟨Below.refl _ _, Keep.refl _ _, h.tab, OwnI.nil _ _⟩
theorem Sec.gnd {t' : TS} {row : List Int} {v : Value} {W : World} (h : Sec w0 wS tg a.lim t' row v W) (hp : Pcs w0 wS g tg bg a gs Ai cI Ar cR) : Gnd w0 g a ⟨t', gs.b⟩ W :=
  Gnd.mkT hp.gnd hp.at_ hp.bld hp.l hp.r h.below h.keep h.tab
/-- One more number. -/
theorem Sec.num {t' t2 : TS} {row : List Int} {v : Value} {W W1 : World} (h : Sec w0 wS tg a.lim t' row v W) (hp : Pcs w0 wS g tg bg a gs Ai cI Ar cR) (hG : Gnd w0 g a ⟨t2, gs.b⟩ W1) (hk : Keep TabO W W1) : Sec w0 wS tg a.lim t2 row v W1 := by
  have hk2 := h.keep.trans hk
  have hat := hk2.blk hp.at_ (TabO.not (by decide) (by decide))
  refine ⟨below_two hp.gnd.1 hG.1 hk2.size, hk2, ?_, h.own.keepT hk⟩
  obtain ⟨h1, h2, tg', bg', Ai', cI', Ar', cR', hG', hT', -⟩ := hG
  have e : tg' = tg := by
    rw [GroundAt, hat] at hG'
    simp at hG'
    exact hG'.2.2.1.symm
  exact e ▸ hT'
end
/-! What the node's number is. -/
def NodeIn (nd : Nat) (p : Nat) (t : TS) : Prop := nd ≠ 0 → numOf t.l (nodeA p) = nd
theorem NodeIn.puts {nd p lim : Nat} {t : TS} (h : NodeIn nd p t) (l : List DAtom) : NodeIn nd p (t.puts lim l) := fun h0 => by
  have := h h0
  rw [numOf_puts l t (by rw [this]; exact h0), this]
theorem NodeIn.first (lim p : Nat) (t : TS) : NodeIn (t.num lim (nodeA p)) p (t.put lim (nodeA p)) := fun h0 => num_put h0
theorem OneOK.of {nd p lim : Nat} {t : TS} (hlim : lim ≤ 65536) (ht : t.l.length ≤ lim) (hn : NodeIn nd p t) (l : List DAtom) (hl : l.length ≤ 10) (hd : (nodeA p :: l).Nodup) : OneOK nd (t.nums lim l) := by
  by_cases h0 : nd = 0
  · exact .inl (.inl (by omega))
  · by_cases hr : (0 : Int) ∈ t.nums lim l
    · exact .inl (.inr hr)
    · have := hn h0
      obtain ⟨h1, h2, h3⟩ := nums_good hlim t ht (nodeA p) l hl hd (by rw [this]; exact h0) hr
      rw [this] at h2 h3
      exact .inr ⟨by rw [nums_len]; exact hl, h1, by omega, by omega, h2⟩
theorem relAs_succ (p i : Nat) : relAs p (i + 1) = relAs p i ++ [relA p i] := by unfold relAs; rw [List.range_succ, List.map_append]; rfl
theorem valAs_succ (p j i : Nat) : valAs p j (i + 1) = valAs p j i ++ [valA p j i] := by unfold valAs; rw [List.range_succ, List.map_append]; rfl
theorem u8_wf {k : Int} (h0 : 0 ≤ k) (h1 : k ≤ 255) : (Lit.int .u8 k).wf = true := by
  have hm : IntKind.u8.min = 0 := by decide
  have hx : IntKind.u8.max = 255 := by decide
  simp only [Lit.wf, hm, hx, Bool.and_eq_true, decide_eq_true_eq]
  omega
theorem nodeA_ok {p : Nat} (h : p < 1000) : AtOK (nodeA p) := ⟨u8_wf (by simp [nodeA]) (by simp [nodeA]), wf_small (by simp [nodeA]) (by simp [nodeA]; omega), wf_small (by simp [nodeA]) (by simp [nodeA]), wf_small (by simp [nodeA]) (by simp [nodeA])⟩
theorem relA_ok {p i : Nat} (h : p < 1000) (hi : i < 1000) : AtOK (relA p i) := ⟨u8_wf (by simp [relA]) (by simp [relA]), wf_small (by simp [relA]) (by simp [relA]; omega), wf_small (by simp [relA]) (by simp [relA]; omega), wf_small (by simp [relA]) (by simp [relA])⟩
theorem valA_ok {p j k : Nat} (h : p < 1000) (hj : j < 1000) (hk : k < 1000) : AtOK (valA p j k) := ⟨u8_wf (by simp [valA]) (by simp [valA]), wf_small (by simp [valA]) (by simp [valA]; omega), wf_small (by simp [valA]) (by simp [valA]; omega), wf_small (by simp [valA]) (by simp [valA]; omega)⟩
theorem vars_succ (lim : Nat) (node : Int) (p : Nat) (g : GS) (vs : List DVariant) (j : Nat) : GS.vars lim node p g vs (j + 1) = (GS.vars lim node p g vs j).rowOne lim node (valAs p j (vs.getD j zVariant).values.length) := by
  unfold GS.vars; rw [List.range_succ, List.foldl_append]; rfl
theorem choices_snoc (lim : Nat) (ps : List DPackage) (g : GS) (l : List Nat) (p : Nat) : GS.choices lim ps g (l ++ [p]) = GS.pkg lim ps (GS.choices lim ps g l) p := by unfold GS.choices; rw [List.foldl_append]; rfl

end
end Go.Proofs.YtbahanlnkikpeaaGreat
