import Derived.Test.YtbahanlnkikpeaaGreatChoG
namespace Go.Proofs.YtbahanlnkikpeaaGreat
open Go.RowKit Go.Proofs.YtbahanlnkikpeaaGreatW.PrintWords Go.Proofs.YtbahanlnkikpeaaGreatW.PrintLast
set_option linter.unusedVariables false
set_option linter.unusedSimpArgs false
open Go.RowKit Go.Maps
/-! A row of numbers is filled: what stands, what grows. -/
theorem below_two {B : Nat} {w0 w w1 : World} (h : Below B w0 w) (h1 : Below B w0 w1) (hs : w.heap.size ≤ w1.heap.size) : Below B w w1 :=
  ⟨h1.os.trans h.os.symm, h1.tape.trans h.tape.symm, h1.output.trans h.output.symm, hs, fun k hk => (h1.block k hk).trans (h.block k hk).symm⟩
theorem Keep.after {T : Obj → Prop} {w W w1 : World} (h : Keep T w W) (hb : Below w.heap.size W w1) : Keep T w w1 :=
  ⟨Nat.le_trans h.size hb.size, fun b o ho hT => (hb.block b (blk_lt ho)).trans (h.obj b o ho hT)⟩
structure Sec (w0 wS : World) (tg lim : Nat) (t' : TS) (row : List Int) (v : Value) (W : World) : Prop where
  below : Below w0.heap.size wS W
  keep : Keep TabO wS W
  tab : Tab W w0.heap.size tg lim t'
  own : OwnI W wS.heap.size v row
theorem Sec.step {w0 wS : World} {tg lim : Nat} {t' : TS} {row : List Int} {v : Value} {W W1 : World} (h : Sec w0 wS tg lim t' row v W) (hb : Below W.heap.size W W1) (hs : w0.heap.size ≤ wS.heap.size) : Sec w0 wS tg lim t' row v W1 :=
  ⟨h.below.trans (hb.mono (Nat.le_trans hs h.keep.size)), h.keep.step hb, h.tab.below hb, h.own.below hb⟩
theorem Sec.app {w0 wS : World} {tg lim : Nat} {t' : TS} {row row1 : List Int} {v v1 : Value} {W W1 : World} (h : Sec w0 wS tg lim t' row v W) (hs : w0.heap.size ≤ wS.heap.size) (hO : OwnI W1 wS.heap.size v1 row1) (hb : Below wS.heap.size W W1) (hg : W.grownBy W1 v.ownBlock) : Sec w0 wS tg lim t' row1 v1 W1 :=
  ⟨h.below.trans (hb.mono hs), h.keep.after hb,
    h.tab.keep (Keep.of_row (T := fun o => ∃ cs, o = .cells cs 3 (0, 0)) h.own hg (fun cs => ⟨cs, rfl⟩)) (fun _ _ ⟨_, e⟩ => by cases e) (fun _ ⟨_, e⟩ => by injection e with _ e; exact absurd e (by decide)) (fun _ ⟨_, e⟩ => by injection e with _ e; exact absurd e (by decide)), hO⟩
/-- The ground's pieces, where a row begins. -/
structure Pcs (w0 wS : World) (g tg bg : Nat) (a : Args) (gs : GS) (Ai : Option Addr) (cI : Nat) (Ar : Option Addr) (cR : Nat) : Prop where
  gnd : Gnd w0 g a gs wS
  at_ : GroundAt wS g a.A a.ps.length a.c a.A2 a.n2 a.c2 a.B a.rs.length a.d Ai (clo a.ps a.rs).length cI Ar (rulesOf a.ps a.rs).length cR (.pointer (some ⟨tg, 0, none⟩)) (.pointer (some ⟨bg, 0, none⟩))
  tab : Tab wS w0.heap.size tg a.lim gs.t
  bld : Bld wS w0.heap.size bg gs.b
  l : OwnI wS w0.heap.size (.slice Ai (clo a.ps a.rs).length cI) (clo a.ps a.rs)
  r : OwnRl wS w0.heap.size (.slice Ar (rulesOf a.ps a.rs).length cR) (rulesOf a.ps a.rs)
theorem Gnd.pcs {w0 wS : World} {g : Nat} {a : Args} {gs : GS} (h : Gnd w0 g a gs wS) : ∃ tg bg Ai cI Ar cR, Pcs w0 wS g tg bg a gs Ai cI Ar cR := by
  have h' := h
  obtain ⟨h1, h2, tg, bg, Ai, cI, Ar, cR, hG, hT, hB, hI, hR⟩ := h
  exact ⟨tg, bg, Ai, cI, Ar, cR, h', hG, hT, hB, hI, hR⟩
section
variable {w0 wS : World} {g tg bg : Nat} {a : Args} {gs : GS} {Ai : Option Addr} {cI : Nat} {Ar : Option Addr} {cR : Nat}
theorem Pcs.size (h : Pcs w0 wS g tg bg a gs Ai cI Ar cR) : w0.heap.size ≤ wS.heap.size := h.gnd.1.size
theorem Pcs.start (h : Pcs w0 wS g tg bg a gs Ai cI Ar cR) : Sec w0 wS tg a.lim gs.t [] (.slice none 0 0) wS := ⟨Below.refl _ _, Keep.refl _ _, h.tab, OwnI.nil _ _⟩
theorem Sec.gnd {t' : TS} {row : List Int} {v : Value} {W : World} (h : Sec w0 wS tg a.lim t' row v W) (hp : Pcs w0 wS g tg bg a gs Ai cI Ar cR) : Gnd w0 g a ⟨t', gs.b⟩ W :=
  Gnd.mkT hp.gnd hp.at_ hp.bld hp.l hp.r h.below h.keep h.tab
/-- One more number. -/
theorem Sec.num {t' t2 : TS} {row : List Int} {v : Value} {W W1 : World} (h : Sec w0 wS tg a.lim t' row v W) (hp : Pcs w0 wS g tg bg a gs Ai cI Ar cR) (hG : Gnd w0 g a ⟨t2, gs.b⟩ W1) (hk : Keep TabO W W1) : Sec w0 wS tg a.lim t2 row v W1 := by
  have hk2 := h.keep.trans hk
  have hat := hk2.blk hp.at_ (TabO.not (by decide) (by decide))
  refine ⟨below_two hp.gnd.1 hG.1 hk2.size, hk2, ?_, h.own.keepT hk⟩
  obtain ⟨h1, h2, tg', bg', Ai', cI', Ar', cR', hG', hT', -⟩ := hG
  have e : tg' = tg := by
    rw [GroundAt, hat] at hG'
    simp at hG'
    exact hG'.2.2.1.symm
  exact e ▸ hT'
end
/-! What the node's number is. -/
def NodeIn (nd : Nat) (p : Nat) (t : TS) : Prop := nd ≠ 0 → numOf t.l (nodeA p) = nd
theorem NodeIn.puts {nd p lim : Nat} {t : TS} (h : NodeIn nd p t) (l : List DAtom) : NodeIn nd p (t.puts lim l) := fun h0 => by
  have := h h0
  rw [numOf_puts l t (by rw [this]; exact h0), this]
theorem NodeIn.first (lim p : Nat) (t : TS) : NodeIn (t.num lim (nodeA p)) p (t.put lim (nodeA p)) := fun h0 => num_put h0
theorem OneOK.of {nd p lim : Nat} {t : TS} (hlim : lim ≤ 65536) (ht : t.l.length ≤ lim) (hn : NodeIn nd p t) (l : List DAtom) (hl : l.length ≤ 10) (hd : (nodeA p :: l).Nodup) : OneOK nd (t.nums lim l) := by
  by_cases h0 : nd = 0
  · exact .inl (.inl (by omega))
  · by_cases hr : (0 : Int) ∈ t.nums lim l
    · exact .inl (.inr hr)
    · have := hn h0
      obtain ⟨h1, h2, h3⟩ := nums_good hlim t ht (nodeA p) l hl hd (by rw [this]; exact h0) hr
      rw [this] at h2 h3
      exact .inr ⟨by rw [nums_len]; exact hl, h1, by omega, by omega, h2⟩
theorem relAs_succ (p i : Nat) : relAs p (i + 1) = relAs p i ++ [relA p i] := by unfold relAs; rw [List.range_succ, List.map_append]; rfl
theorem valAs_succ (p j i : Nat) : valAs p j (i + 1) = valAs p j i ++ [valA p j i] := by unfold valAs; rw [List.range_succ, List.map_append]; rfl
theorem u8_wf {k : Int} (h0 : 0 ≤ k) (h1 : k ≤ 255) : (Lit.int .u8 k).wf = true := by
  have hm : IntKind.u8.min = 0 := by decide
  have hx : IntKind.u8.max = 255 := by decide
  simp only [Lit.wf, hm, hx, Bool.and_eq_true, decide_eq_true_eq]
  omega
theorem nodeA_ok {p : Nat} (h : p < 1000) : AtOK (nodeA p) := ⟨u8_wf (by simp [nodeA]) (by simp [nodeA]), wf_small (by simp [nodeA]) (by simp [nodeA]; omega), wf_small (by simp [nodeA]) (by simp [nodeA]), wf_small (by simp [nodeA]) (by simp [nodeA])⟩
theorem relA_ok {p i : Nat} (h : p < 1000) (hi : i < 1000) : AtOK (relA p i) := ⟨u8_wf (by simp [relA]) (by simp [relA]), wf_small (by simp [relA]) (by simp [relA]; omega), wf_small (by simp [relA]) (by simp [relA]; omega), wf_small (by simp [relA]) (by simp [relA])⟩
theorem valA_ok {p j k : Nat} (h : p < 1000) (hj : j < 1000) (hk : k < 1000) : AtOK (valA p j k) := ⟨u8_wf (by simp [valA]) (by simp [valA]), wf_small (by simp [valA]) (by simp [valA]; omega), wf_small (by simp [valA]) (by simp [valA]; omega), wf_small (by simp [valA]) (by simp [valA]; omega)⟩
theorem vars_succ (lim : Nat) (node : Int) (p : Nat) (g : GS) (vs : List DVariant) (j : Nat) : GS.vars lim node p g vs (j + 1) = (GS.vars lim node p g vs j).rowOne lim node (valAs p j (vs.getD j zVariant).values.length) := by
  unfold GS.vars; rw [List.range_succ, List.foldl_append]; rfl
theorem choices_snoc (lim : Nat) (ps : List DPackage) (g : GS) (l : List Nat) (p : Nat) : GS.choices lim ps g (l ++ [p]) = GS.pkg lim ps (GS.choices lim ps g l) p := by unfold GS.choices; rw [List.foldl_append]; rfl

end Go.Proofs.YtbahanlnkikpeaaGreat
