import Derived.Deep.RegionWith
import Derived.StillTailTactics
import Derived.Test.YtbahanlnkikpeaaGreatChP
namespace Go.Proofs.YtbahanlnkikpeaaGreat
open Go.RowKit Go.Proofs.YtbahanlnkikpeaaGreatW.PrintWords Go.Proofs.YtbahanlnkikpeaaGreatW.PrintLast
set_option linter.unusedVariables false
set_option linter.unusedSimpArgs false
open Go.RowKit Go.Maps
set_option maxRecDepth 100000
set_option maxHeartbeats 2000000
/-! The ground: its table and its builder, whole. -/
structure Args where
  A : Option Addr
  c : Nat
  ps : List DPackage
  A2 : Option Addr
  n2 : Nat
  c2 : Nat
  B : Option Addr
  d : Nat
  rs : List DRoot
  lim : Nat
def Gnd (w0 : World) (g : Nat) (a : Args) (gs : GS) (w : World) : Prop :=
  Below w0.heap.size w0 w ∧ w0.heap.size ≤ g ∧ ∃ (tg bg : Nat) (Ai : Option Addr) (cI : Nat) (Ar : Option Addr) (cR : Nat),
    GroundAt w g a.A a.ps.length a.c a.A2 a.n2 a.c2 a.B a.rs.length a.d Ai (clo a.ps a.rs).length cI Ar (rulesOf a.ps a.rs).length cR (.pointer (some ⟨tg, 0, none⟩)) (.pointer (some ⟨bg, 0, none⟩)) ∧
    Tab w w0.heap.size tg a.lim gs.t ∧ Bld w w0.heap.size bg gs.b ∧ OwnI w w0.heap.size (.slice Ai (clo a.ps a.rs).length cI) (clo a.ps a.rs) ∧ OwnRl w w0.heap.size (.slice Ar (rulesOf a.ps a.rs).length cR) (rulesOf a.ps a.rs)
theorem kRule_E {q : Nat} (hq : q ∈ 45 :: kRule.E) : q = 45 := by
  simp [kRule, Kd.iso, Kd.pair, Kd.int, Kd.scalar] at hq
  exact hq
theorem OwnI.keepT {w w1 : World} {B : Nat} {v : Value} {xs : List Int} (h : OwnI w B v xs) (hk : Keep TabO w w1) : OwnI w1 B v xs :=
  hk.row h (by intro q hq cs; simp [Kd.int, Kd.scalar] at hq; subst hq; exact TabO.not (by decide) (by decide))
theorem Gnd.elder {w0 w : World} {g : Nat} {a : Args} {gs : GS} (h : Gnd w0 g a gs w) : Below w0.heap.size w0 w := h.1
theorem Gnd.below {w0 w w1 : World} {g : Nat} {a : Args} {gs : GS} (h : Gnd w0 g a gs w) (hb : Below w.heap.size w w1) : Gnd w0 g a gs w1 := by
  obtain ⟨h1, h2, tg, bg, Ai, cI, Ar, cR, hG, hT, hB, hI, hR⟩ := h
  exact ⟨below_step h1 hb, h2, tg, bg, Ai, cI, Ar, cR, blk_below hG hb, hT.below hb, hB.below hb, hI.below hb, hR.below hb⟩
/-- The table turns. -/
theorem Gnd.mkT {w0 w w1 : World} {g tg bg : Nat} {a : Args} {gs : GS} {t' : TS} {Ai : Option Addr} {cI : Nat} {Ar : Option Addr} {cR : Nat} (h : Gnd w0 g a gs w)
    (hG : GroundAt w g a.A a.ps.length a.c a.A2 a.n2 a.c2 a.B a.rs.length a.d Ai (clo a.ps a.rs).length cI Ar (rulesOf a.ps a.rs).length cR (.pointer (some ⟨tg, 0, none⟩)) (.pointer (some ⟨bg, 0, none⟩)))
    (hB : Bld w w0.heap.size bg gs.b) (hI : OwnI w w0.heap.size (.slice Ai (clo a.ps a.rs).length cI) (clo a.ps a.rs)) (hR : OwnRl w w0.heap.size (.slice Ar (rulesOf a.ps a.rs).length cR) (rulesOf a.ps a.rs))
    (hb : Below w0.heap.size w w1) (hk : Keep TabO w w1) (hT : Tab w1 w0.heap.size tg a.lim t') : Gnd w0 g a ⟨t', gs.b⟩ w1 :=
  ⟨h.1.trans hb, h.2.1, tg, bg, Ai, cI, Ar, cR, hk.blk hG (TabO.not (by decide) (by decide)), hT, hB.keep hk (fun _ => TabO.not (by decide) (by decide)) (fun _ => TabO.not (by decide) (by decide)) (fun _ => TabO.not (by decide) (by decide)), hI.keepT hk, hk.row hR (fun q hq cs => kRule_E hq ▸ TabO.not (by decide) (by decide))⟩
/-- The builder turns. -/
theorem Gnd.mkB {w0 w w1 : World} {g tg bg : Nat} {a : Args} {gs : GS} {b' : BS} {Ai : Option Addr} {cI : Nat} {Ar : Option Addr} {cR : Nat} (h : Gnd w0 g a gs w)
    (hG : GroundAt w g a.A a.ps.length a.c a.A2 a.n2 a.c2 a.B a.rs.length a.d Ai (clo a.ps a.rs).length cI Ar (rulesOf a.ps a.rs).length cR (.pointer (some ⟨tg, 0, none⟩)) (.pointer (some ⟨bg, 0, none⟩)))
    (hT : Tab w w0.heap.size tg a.lim gs.t) (hI : OwnI w w0.heap.size (.slice Ai (clo a.ps a.rs).length cI) (clo a.ps a.rs)) (hR : OwnRl w w0.heap.size (.slice Ar (rulesOf a.ps a.rs).length cR) (rulesOf a.ps a.rs))
    (hb : Below w0.heap.size w w1) (hk : Keep BldO w w1) (hB : Bld w1 w0.heap.size bg b') : Gnd w0 g a ⟨gs.t, b'⟩ w1 :=
  ⟨h.1.trans hb, h.2.1, tg, bg, Ai, cI, Ar, cR, hk.blk hG (BldO.not (by decide) (by decide)), hT.keep hk BldO.notmap (fun _ => BldO.not (by decide) (by decide)) (fun _ => BldO.not (by decide) (by decide)), hB, hI.keepB hk, hk.row hR (fun q hq cs => kRule_E hq ▸ BldO.not (by decide) (by decide))⟩
theorem NumberG_calls (w0 w : World) (g : Nat) (a : Args) (gs : GS) (x : DAtom) (h : Gnd w0 g a gs w) (hx : AtOK x) :
    Calls Tryz.prog 39 #[.pointer (some ⟨g, 0, none⟩), atomV x] w (fun e w' => e = .returned (.int .i64 (gs.t.num a.lim x)) ∧ Gnd w0 g a ⟨gs.t.put a.lim x, gs.b⟩ w' ∧ Keep TabO w w') := by
  have H := Aside0.mk h
  have HX := Aside0.mk hx
  obtain ⟨h1, h2, tg, bg, Ai, cI, Ar, cR, hG, hT, hB, hI, hR⟩ := h
  have hba := Aside0.mk (below_alloc (Below.refl w.heap.size w) (.cells #[.int .u8 x.kind, .int .i64 x.a, .int .i64 x.b, .int .i64 x.c] 96))
  have HT := Aside0.mk (TableG_same (w.alloc (.cells #[.int .u8 x.kind, .int .i64 x.a, .int .i64 x.b, .int .i64 x.c] 96)).drew g (blk_below hG (below_drew hba.out)))
  have HN := Aside0.mk (Number_calls (w.alloc (.cells #[.int .u8 x.kind, .int .i64 x.a, .int .i64 x.b, .int .i64 x.c] 96)).drew _ tg a.lim gs.t x (hT.below (below_drew hba.out)) hx)
  obtain ⟨y0, y1, y2, y3⟩ := cells4 (blk_new w (.cells #[.int .u8 x.kind, .int .i64 x.a, .int .i64 x.b, .int .i64 x.c] 96))
  unfold atomV at HN ⊢
  have HP := Aside0.mk (And.intro hG (And.intro hB (And.intro hI hR)))
  have H2 := Aside0.mk h2
  have H1 := Aside0.mk h1
  clear h1 h2 hG hT hB hI hR hx
  go_enter Tryz.func39, Tryz.ntmps39
  go_wp2_with fail
  go_region_with (first | (go_at_call 18; refine HT.out.mono ?_; rintro e w' ⟨rfl, rfl⟩) | (go_at_call 58; refine HN.out.mono ?_; rintro e w2 ⟨rfl, hT2, hb2, hk2⟩))
  all_goals
    go_wp2_with fail
    refine bodyPost_ret (v := .int .i64 (gs.t.num a.lim x)) (by simp [results, Tryz.results39, go_sem, Act.put]) rfl ?_
    have hka : Keep TabO w w2 := (Keep.of_below TabO (below_drew hba.out)).trans hk2
    exact ⟨rfl, Gnd.mkT H.out HP.out.1 HP.out.2.1 HP.out.2.2.1 HP.out.2.2.2 (((below_drew hba.out).mono H1.out.size).trans hb2) hka hT2, hka⟩

end Go.Proofs.YtbahanlnkikpeaaGreat
