import Derived.Carry
import Derived.Deep.RegionLaw
import Derived.Test.YtbahanlnkikpeaaGreatChS
namespace Go.Proofs.YtbahanlnkikpeaaGreat
open Go.RowKit Go.Proofs.YtbahanlnkikpeaaGreatW.PrintWords Go.Proofs.YtbahanlnkikpeaaGreatW.PrintLast
set_option linter.unusedVariables false
set_option linter.unusedSimpArgs false
open Go.RowKit Go.Maps Go.Sort Go.Shelf
set_option maxRecDepth 100000
set_option maxHeartbeats 2000000
/-! The table of atoms, walked. -/
theorem cells4 {W : World} {g t : Nat} {a0 a1 a2 a3 : Value} (h : W.heap[g]? = some (.cells #[a0, a1, a2, a3] t (0, 0))) :
    W.cell? ⟨g, 0, none⟩ = some a0 ∧ W.cell? ⟨g, 1, none⟩ = some a1 ∧ W.cell? ⟨g, 2, none⟩ = some a2 ∧ W.cell? ⟨g, 3, none⟩ = some a3 := ⟨blk_cell h 0, blk_cell h 1, blk_cell h 2, blk_cell h 3⟩
theorem lit_inj {k : IntKind} {x y : Int} : (Lit.int k x) = .int k y → x = y := fun h => by injection h
theorem keyA_lit (x : DAtom) : WideAt.IsKeyLit (keyA x) := trivial
/-- The map holds the atoms' places. -/
def NumD (D : DM) (l : List DAtom) : Prop := ∀ x, AtOK x → D.atKey (keyA x) (.lit (.int .i64 0)) = .lit (.int .i64 (numOf l x))
theorem numD_nil : NumD (.map []) [] := fun _ _ => rfl
theorem numD_put {D : DM} {l : List DAtom} (hm : IsMap D) (h : NumD D l) (hinj : ∀ x y, AtOK x → AtOK y → keyA x = keyA y → x = y) {a : DAtom} (ha : AtOK a) (hn : numOf l a = 0) : NumD (D.put (keyA a) (.lit (.int .i64 ((l.length : Int) + 1)))) (l ++ [a]) := by
  intro x hx
  rw [numOf_snoc]
  by_cases e : a = x
  · subst e
    rw [atKey_put_same hm (keyA_lit _), hn]
    simp
  · rw [atKey_put_other (fun he => e (hinj _ _ ha hx he.symm)), h x hx]
    simp [e]
    split <;> simp_all
theorem kAtom_info : (Tryz.prog.info? 96).map (fun i => (i.zero, i.size, i.bytes)) = some (some (.agg #[.int .u8 0, .int .i64 0, .int .i64 0, .int .i64 0]), 4, 32) := by kernel_rfl
theorem atomV_inj {x y : DAtom} (h : atomV x = atomV y) : x = y := by
  unfold atomV at h
  cases x; cases y
  simp at h
  obtain ⟨h1, h2, h3, h4⟩ := h
  subst h1; subst h2; subst h3; subst h4
  rfl
theorem keyA_inj (x y : DAtom) (hx : AtOK x) (hy : AtOK y) (h : keyA x = keyA y) : x = y :=
  atomV_inj (keyedA.inj (keyOf_atom hx) (by rw [h]; exact keyOf_atom hy))
def MapT (w : World) (b n : Nat) (D : DM) : Prop := w.ownsMap Tryz.prog 96 (plainElem Tryz.prog 3) b n D
theorem MapT.look {W : World} {m n : Nat} {D : DM} (hown : MapT W m n D) {x : DAtom} {c : Int} (hx : AtOK x) (hc : D.atKey (keyA x) (.lit (.int .i64 0)) = .lit (.int .i64 c)) :
    (Instr.lookup 111 (.map (some m)) (atomV x) false).run Tryz.prog W = .ok (.int .i64 c) W := by
  obtain ⟨c', hrun, hat, -⟩ := World.ownsMap.lookup_int hown keyedA Tryz.underlying111 Tryz.underlying3 (zeroI W) (keyOf_atom hx)
  rw [hc] at hat
  have : c = c' := by simpa using hat
  rw [hrun, this]
theorem MapT.upd {W : World} {m n : Nat} {D : DM} (hown : MapT W m n D) (hn : n < 1000000) {x : DAtom} {c : Int} (hx : AtOK x) (hc : (Lit.int .i64 c).wf = true) :
    ∃ W', (Instr.mapUpdate 111 (.map (some m)) (atomV x) (.int .i64 c)).run Tryz.prog W = .ok () W' ∧ MapT W' m (n + 1) (D.put (keyA x) (.lit (.int .i64 c))) ∧ W.grownBy W' (some m) :=
  World.ownsMap.update hown keyedA Tryz.underlying111 (by simp only [maxLen]; omega) (keyOf_atom hx) (plainElem_int Tryz.underlying3 hc)
def atomCells (x : DAtom) : List Value := [.int .u8 x.kind, .int .i64 x.a, .int .i64 x.b, .int .i64 x.c]
/-- A row of atoms of one's own. -/
def OwnA (w : World) (B : Nat) (v : Value) (xs : List DAtom) : Prop := Kd.R kAtom 96 w B (fun _ => True) v xs
theorem OwnA.nil (w : World) (B : Nat) : OwnA w B (.slice none 0 0) [] := Kd.R_nil _ _ _ _ _
theorem OwnA.below {w w1 : World} {B : Nat} {v : Value} {xs : List DAtom} (h : OwnA w B v xs) (hb : Below w.heap.size w w1) : OwnA w1 B v xs := Kd.R_below h hb
theorem OwnA.other {w w1 : World} {B : Nat} {v : Value} {xs : List DAtom} (h : OwnA w B v xs) (hg : w.grownBy w1 v.ownBlock) {g t : Nat} {cs : Array Value} (hb : w.heap[g]? = some (.cells cs t (0, 0))) (ht : 96 ≠ t) : w1.heap[g]? = some (.cells cs t (0, 0)) :=
  blk_grown hb hg (Kd.R_ne h hb ht)
section
variable {ops : Array Oper} {rest : List Oper} {o : Oper} {a : Act} {Q : Exit → Act → World → Prop}
theorem app_atom_step {Kc : Act → World → Prop} {w0 W : World} (base : Nat) (hw : Region.wanted o (yielded ops a.tmps) = true) (s x : Operand) (ho : o.op = .call { callee := .builtin .append, args := #[s, x], argTypes := #[112, 112] })
    (v : Value) (xs : List DAtom) (p : DAtom) (hs : a.eval s = v) (hx : a.eval x = .slice (some ⟨W.heap.size, 0, none⟩) 1 1) (HO : OwnA W base v xs) (HB : Below base w0 W) (hbase : base ≤ W.heap.size) (hl : xs.length < 1000000000000)
    (h : ∀ v1 w1, OwnA w1 base v1 (xs ++ [p]) → Below base w0 w1 → W.grownBy w1 v.ownBlock → Kc (a.put o.dst v1) w1) :
    if Region.wanted o (yielded ops a.tmps) = true then Oper.wp Tryz.prog o a (W.alloc (.cells (atomCells p).toArray 96)) Kc Q else Kc (a.put o.dst undef) (W.alloc (.cells (atomCells p).toArray 96)) :=
  Kd.R_append_step kAtom (w0 := w0) base hw s x 112 96 (.agg #[(.int .u8 0), (.int .i64 0), (.int .i64 0), (.int .i64 0)]) 32 ho Tryz.underlying112 kAtom_info rfl (by decide) (by omega) v xs p (atomCells p) (fun _ => True) (fun _ => False) hs hx (by exact kAtom_mkM _ _ _ _) (fun _ hk => hk.elim) (fun _ _ => trivial) HO HB hbase (by omega) (fun v1 w1 h1 h2 h3 _ => h v1 w1 h1 h2 h3)
end
/-- The table of atoms, whole. -/
def Tab (w : World) (B g lim : Nat) (t : TS) : Prop :=
  ∃ (m : Nat) (A : Option Addr) (c : Nat) (D : DM) (u : Value), TableAt w g m A t.l.length c lim u (.bool t.full) ∧ B ≤ g ∧ B ≤ m ∧ MapT w m t.l.length D ∧ NumD D t.l ∧ OwnA w B (.slice A t.l.length c) t.l ∧ lim ≤ 65536 ∧ t.l.length ≤ lim
theorem Tab.keep {T : Obj → Prop} {w w1 : World} {B g lim : Nat} {t : TS} (h : Tab w B g lim t) (hk : Keep T w w1) (h1 : ∀ es c, ¬ T (.map es c)) (h2 : ∀ cs, ¬ T (.cells cs 114 (0, 0))) (h3 : ∀ cs, ¬ T (.cells cs 96 (0, 0))) : Tab w1 B g lim t := by
  obtain ⟨m, A, c, D, u, hT, a1, a2, hM, hN, hO, a3, a4⟩ := h
  exact ⟨m, A, c, D, u, hk.blk hT (h2 _), a1, a2, hk.map hM h1, hN, hk.row hO (by intro q hq cs; simp [kAtom, Kd.iso, Kd.pair, Kd.int, Kd.scalar] at hq; subst hq; exact h3 cs), a3, a4⟩
theorem Tab.below {w w1 : World} {B g lim : Nat} {t : TS} (h : Tab w B g lim t) (hb : Below w.heap.size w w1) : Tab w1 B g lim t :=
  h.keep (Keep.of_below (fun _ => False) hb) (fun _ _ h => h) (fun _ h => h) (fun _ h => h)
theorem Look_calls (w : World) (B g lim : Nat) (t : TS) (x : DAtom) (h : Tab w B g lim t) (hx : AtOK x) :
   Calls Tryz.prog 86 #[.pointer (some ⟨g, 0, none⟩), atomV x] w (RetB w (.int .i64 (numOf t.l x))) := by
  obtain ⟨m, A, c, D, u, hT, -, -, hM, hN, -, -, -⟩ := h
  have x0 : w.cell? ⟨g, 0, none⟩ = some (.map (some m)) := blk_cell hT 0
  have hlt := blk_lt hT
  have hM1 : ∀ n, MapT (((w.alloc (.cells #[.int .u8 x.kind, .int .i64 x.a, .int .i64 x.b, .int .i64 x.c] 96))).drewN n) m t.l.length D := fun n => World.ownsMap.alloc hM _
  have hlook : ∀ n, _ := fun n => (hM1 n).look hx (hN x hx)
  have hb := below_alloc (Below.refl w.heap.size w) (.cells #[.int .u8 x.kind, .int .i64 x.a, .int .i64 x.b, .int .i64 x.c] 96)
  have HB := Aside0.mk hb
  unfold atomV at hlook ⊢
  clear hT hM hN hM1 hb
  go_enter Tryz.func86, Tryz.ntmps86
  go_wp2_with fail
  go_quiet (fail)
  go_wp2_with fail
  go_ret
  exact ⟨rfl, pw_below_drewN HB.out _⟩
theorem Number_calls (w : World) (B g lim : Nat) (t : TS) (x : DAtom) (h : Tab w B g lim t) (hx : AtOK x) :
   Calls Tryz.prog 58 #[.pointer (some ⟨g, 0, none⟩), atomV x] w (fun e w' => e = .returned (.int .i64 (t.num lim x)) ∧ Tab w' B g lim (t.put lim x) ∧ Below B w w' ∧ Keep TabO w w') := by
  have H := Aside0.mk h
  have HX := Aside0.mk hx
  have hle := numOf_le x t.l
  have hB : Aside0 (Below w.heap.size w (w.alloc (.cells #[.int .u8 x.kind, .int .i64 x.a, .int .i64 x.b, .int .i64 x.c] 96))) := ⟨below_alloc (Below.refl _ _) _⟩
  have HBg : Aside0 (B ≤ w.heap.size) := ⟨by obtain ⟨m, A, c, D, u, hT, a1, -⟩ := h; have := blk_lt hT; omega⟩
  have hL := Look_calls _ B g lim t x (h.below hB.out) hx
  have HL := Aside0.mk hL
  have X0 : Aside0 ((w.alloc (.cells #[.int .u8 x.kind, .int .i64 x.a, .int .i64 x.b, .int .i64 x.c] 96)).heap[w.heap.size]? = some (.cells #[.int .u8 x.kind, .int .i64 x.a, .int .i64 x.b, .int .i64 x.c] 96 (0, 0))) := ⟨blk_new _ _⟩
  unfold atomV at HL ⊢
  clear h hL hx
  by_cases hn : numOf t.l x = 0
  · have hnum : t.num lim x = if lim ≤ t.l.length then 0 else t.l.length + 1 := by simp [TS.num, hn]
    have hput : t.put lim x = if lim ≤ t.l.length then ⟨t.l, true⟩ else ⟨t.l ++ [x], t.full⟩ := by simp [TS.put, hn]
    have HN := Aside0.mk hn
    rw [hnum, hput]
    rw [hn] at HL
    clear hnum hput hle hn
    by_cases hl : lim ≤ t.l.length
    · rw [if_pos hl, if_pos hl]
      have hli : (lim : Int) ≤ (t.l.length : Int) := by omega
      go_enter Tryz.func58, Tryz.ntmps58
      go_wp2_with fail
      refine HL.out.mono ?_
      rintro e w1 ⟨rfl, hb⟩
      have HB1 := Aside0.mk (below_step hB.out hb)
      have X1 := Aside0.mk (blk_below X0.out hb)
      have HT1 := Aside0.mk (H.out.below HB1.out)
      clear HL hb X0 hB
      obtain ⟨m, A, c, D, u, hT, a1, a2, hM, hN, hO, a3, a4⟩ := HT1.out
      have x1 : w1.cell? ⟨g, 1, none⟩ = some (.slice A t.l.length c) := blk_cell hT 1
      have x2 : w1.cell? ⟨g, 2, none⟩ = some (.int .i64 lim) := blk_cell hT 2
      have x4 : w1.cell? ⟨g, 4, none⟩ = some (.bool t.full) := blk_cell hT 4
      have x4f : w1.frozen? ⟨g, 4, none⟩ = false := blk_frozen hT 4
      have hT' := Aside0.mk hT
      have hM' := Aside0.mk hM
      have hN' := Aside0.mk hN
      have hO' := Aside0.mk hO
      clear hT hM hN hO
      go_wp2_with fail
      go_quiet (fail)
      go_wp2_with fail
      go_ret
      have hk : Keep TabO (w1.drewN nq) ((w1.drewN nq).setCell ⟨g, 4, none⟩ (.bool true)) := Keep.set (w := w1.drewN nq) hT'.out TabO.tab 4 _
      have hgm : m ≠ g := by
        rintro rfl
        obtain ⟨es, cl, hb, -⟩ := hM'.out
        have := hT'.out
        rw [TableAt, hb] at this
        cases this
      refine ⟨rfl, ⟨m, A, c, D, u, blk_set hT'.out 4 (.bool true), a1, a2, World.ownsMap.setCell (a := ⟨g, 4, none⟩) hM'.out hgm _, hN'.out, Kd.R_set hO'.out hT'.out (by intro q hq; simp [kAtom, Kd.iso, Kd.pair, Kd.int, Kd.scalar] at hq; subst hq; decide) 4 _, a3, a4⟩, ?_, ?_⟩
      · exact ((HB1.out.mono HBg.out).trans (pw_below_drewN (Below.refl _ _) nq)).setCell a1 _
      · exact (Keep.of_below TabO (HB1.out.trans (pw_below_drewN (Below.refl _ _) nq))).trans hk
    · rw [if_neg hl, if_neg hl]
      have hli : (t.l.length : Int) < (lim : Int) := by omega
      obtain ⟨m, A, c, D, u, hT, a1, a2, hM, hN, hO, a3, a4⟩ := H.out
      have hne : Aside0 (some w.heap.size ≠ (Value.slice A t.l.length c).ownBlock) := ⟨fun e => by have := Kd.R_lt hO _ e.symm; omega⟩
      have hgl : Aside0 (w.heap.size ≠ g ∧ m ≠ g ∧ g < w.heap.size) := ⟨by
        have := blk_lt hT
        refine ⟨by omega, ?_, by omega⟩
        rintro rfl
        obtain ⟨es, cl, hb, -⟩ := hM
        rw [TableAt, hb] at hT
        cases hT⟩
      have H0 := Aside0.mk hT
      have HM0 := Aside0.mk hM
      have HN0 := Aside0.mk hN
      have HO0 := Aside0.mk hO
      clear hT hM hN hO
      go_enter Tryz.func58, Tryz.ntmps58
      go_wp2_with fail
      refine HL.out.mono ?_
      rintro e w1 ⟨rfl, hb⟩
      have HB1 := Aside0.mk (below_step hB.out hb)
      have X1 := Aside0.mk (blk_below X0.out hb)
      clear HL hb X0 hB
      have hT' := Aside0.mk (blk_below H0.out HB1.out)
      have hM' : Aside0 (MapT w1 m t.l.length D) := ⟨(Keep.of_below (fun _ => False) HB1.out).map HM0.out (fun _ _ h => h)⟩
      have hO' := Aside0.mk (HO0.out.below HB1.out)
      have x1 : w1.cell? ⟨g, 1, none⟩ = some (.slice A t.l.length c) := blk_cell hT'.out 1
      have x2 : w1.cell? ⟨g, 2, none⟩ = some (.int .i64 lim) := blk_cell hT'.out 2
      clear H0 HM0 HO0
      go_wp2_with fail
      go_quiet (fail)
      go_wp2_with fail
      obtain ⟨y0, y1, y2, y3⟩ := cells4 X1.out
      have x1f : w1.frozen? ⟨g, 1, none⟩ = false := blk_frozen hT'.out 1
      have HB2 : Aside0 (Below B w (w1.drewN (nq + 1))) := ⟨(HB1.out.mono HBg.out).trans (pw_below_drewN (Below.refl _ _) (nq + 1))⟩
      have HK2 : Aside0 (Keep TabO w (w1.drewN (nq + 1))) := ⟨Keep.of_below TabO (HB1.out.trans (pw_below_drewN (Below.refl _ _) (nq + 1)))⟩
      have HBw : Aside0 (B ≤ (w1.drewN (nq + 1)).heap.size) := ⟨Nat.le_trans HBg.out HB1.out.size⟩
      have hlen : t.l.length < 1000000000000 := by omega
      have x1a : ((w1.drewN (nq + 1)).alloc (.cells #[.int .u8 x.kind, .int .i64 x.a, .int .i64 x.b, .int .i64 x.c] 96)).cell? ⟨g, 1, none⟩ = some (.slice A t.l.length c) := by apply Lib.cell?_alloc_some; exact x1
      go_region_law (first | (refine app_atom_step (w0 := w) B (by rfl) (.tmp 35) (.tmp 37) (by rfl) _ t.l x (by rfl) (by rfl) hO'.out HB2.out HBw.out hlen ?_; intro v1 w3 hO hB hg; obtain ⟨A1, c1, rfl, hc1, -⟩ := Kd.R_reads hO; have hT3 : TableAt w3 g m A t.l.length c lim u (.bool t.full) := OwnA.other (w := w1.drewN (nq + 1)) hO'.out hg hT'.out (by decide); have z1 := blk_cell hT3 1; have zf := blk_frozen hT3 1; have HO3 := Aside0.mk hO; have HB3 := Aside0.mk hB; have HG3 := Aside0.mk hg; have HT3 := Aside0.mk hT3; clear hO hB hg hT3 y0 y1 y2 y3 x1 x1f x2))
      all_goals
        rw [List.length_append, List.length_singleton] at HO3
        have HT4 : Aside0 (TableAt (w3.setCell ⟨g, 1, none⟩ (.slice A1 (t.l.length + 1) c1)) g m A1 (t.l.length + 1) c1 lim u (.bool t.full)) := ⟨blk_set HT3.out 1 _⟩
        have HK3 : Aside0 (Keep TabO w w3) := ⟨HK2.out.trans (Keep.of_row (w := w1.drewN (nq + 1)) hO'.out HG3.out TabO.row)⟩
        have HK4 : Aside0 (Keep TabO w (w3.setCell ⟨g, 1, none⟩ (.slice A1 (t.l.length + 1) c1))) := ⟨HK3.out.trans (Keep.set HT3.out TabO.tab 1 _)⟩
        have HB4 : Aside0 (Below B w (w3.setCell ⟨g, 1, none⟩ (.slice A1 (t.l.length + 1) c1))) := ⟨HB3.out.setCell a1 _⟩
        have HM4 : Aside0 (MapT (w3.setCell ⟨g, 1, none⟩ (.slice A1 (t.l.length + 1) c1)) m t.l.length D) := ⟨World.ownsMap.setCell (a := ⟨g, 1, none⟩) ((Keep.of_row (T := fun o => ∃ cs, o = .cells cs 96 (0, 0)) (w := w1.drewN (nq + 1)) hO'.out HG3.out (fun cs => ⟨cs, rfl⟩)).map hM'.out (fun _ _ ⟨_, h⟩ => by cases h)) hgl.out.2.1 _⟩
        have HO4 : Aside0 (OwnA (w3.setCell ⟨g, 1, none⟩ (.slice A1 (t.l.length + 1) c1)) B (.slice A1 (t.l.length + 1) c1) (t.l ++ [x])) := ⟨Kd.R_set HO3.out HT3.out (by intro q hq; simp [kAtom, Kd.iso, Kd.pair, Kd.int, Kd.scalar] at hq; subst hq; decide) 1 _⟩
        have X4 : Aside0 ((w3.setCell ⟨g, 1, none⟩ (.slice A1 (t.l.length + 1) c1)).heap[w.heap.size]? = some (.cells #[.int .u8 x.kind, .int .i64 x.a, .int .i64 x.b, .int .i64 x.c] 96 (0, 0))) := ⟨blk_far (blk_grown (w := w1.drewN (nq + 1)) X1.out HG3.out hne.out) hgl.out.1 _⟩
        clear HT3 HK3 HB3 HO3 HG3 X1 hO' hM' hT' HB2 HK2 HBw x1a z1 zf HB1
        generalize w3.setCell ⟨g, 1, none⟩ (.slice A1 (t.l.length + 1) c1) = w4 at *
        obtain ⟨y0, y1, y2, y3⟩ := cells4 X4.out
        have z0 : w4.cell? ⟨g, 0, none⟩ = some (.map (some m)) := blk_cell HT4.out 0
        have z1 : w4.cell? ⟨g, 1, none⟩ = some (.slice A1 (t.l.length + 1) c1) := blk_cell HT4.out 1
        obtain ⟨w5, hupd, hM5, hg5⟩ := MapT.upd (W := w4.drew) HM4.out (by omega) HX.out (c := (t.l.length : Int) + 1) (wf_small (by omega) (by omega))
        unfold atomV at hupd
        have HM5 := Aside0.mk hM5
        have HG5 := Aside0.mk hg5
        clear hM5 hg5
        have HT5 : Aside0 (TableAt w5 g m A1 (t.l.length + 1) c1 lim u (.bool t.full)) := ⟨blk_grown (w := w4.drew) HT4.out HG5.out (fun e => hgl.out.2.1 (by injection e with e; exact e.symm))⟩
        have z15 : w5.cell? ⟨g, 1, none⟩ = some (.slice A1 (t.l.length + 1) c1) := blk_cell HT5.out 1
        go_wp2_with fail
        go_still_tail 10, (by kernel_rfl)
        change wpList _ _ _ _ _ w4.drew
        go_wp2_with fail
        go_ret
        have hl1 : (t.l ++ [x]).length = t.l.length + 1 := by simp
        refine ⟨rfl, ⟨m, A1, c1, _, u, ?_, a1, a2, ?_, numD_put (World.ownsMap.isMap HM4.out) HN0.out keyA_inj HX.out HN.out, ?_, a3, ?_⟩, ?_, ?_⟩
        · rw [hl1]; exact HT5.out
        · rw [hl1]; exact HM5.out
        · rw [hl1]
          exact (Keep.of_grown (T := fun o => ∃ es c, o = .map es c) HG5.out (fun k hk => by injection hk with hk; subst hk; obtain ⟨es, cl, hb, -⟩ := HM4.out; exact ⟨_, hb, es, cl, rfl⟩)).row (w := w4.drew) HO4.out (by rintro q - cs ⟨_, _, h⟩; cases h)
        · rw [hl1]; omega
        · exact (below_drew HB4.out).grown HG5.out (Nat.le_trans HBg.out HB4.out.size) (fun k hk => by injection hk with hk; omega)
        · exact (Keep.step HK4.out (below_drew (Below.refl _ _))).trans (Keep.of_grown HG5.out (fun k hk => by injection hk with hk; subst hk; obtain ⟨es, cl, hb, -⟩ := HM4.out; exact ⟨_, hb, TabO.map _ _⟩))
  · have hnum : t.num lim x = numOf t.l x := by simp [TS.num, hn]
    have hput : t.put lim x = t := by simp [TS.put, hn]
    rw [hnum, hput]
    clear hnum hput
    generalize numOf t.l x = k at *
    go_enter Tryz.func58, Tryz.ntmps58
    go_wp2_with fail
    refine HL.out.mono ?_
    rintro e w1 ⟨rfl, hb⟩
    have HB1 := Aside0.mk (below_step hB.out hb)
    have HT1 := Aside0.mk (H.out.below HB1.out)
    clear HL hb X0 hB
    go_wp2_with fail
    go_ret
    exact ⟨rfl, HT1.out, HB1.out.mono HBg.out, Keep.of_below _ HB1.out⟩

end Go.Proofs.YtbahanlnkikpeaaGreat
