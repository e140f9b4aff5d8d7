import Derived.Test.YtbahanlnkikpeaaGreatEdge
namespace Go.Proofs.YtbahanlnkikpeaaGreat
open Go.RowKit Go.Proofs.YtbahanlnkikpeaaGreatW.PrintWords Go.Proofs.YtbahanlnkikpeaaGreatW.PrintLast
set_option linter.unusedVariables false
set_option linter.unusedSimpArgs false
section
open Go.RowKit Go.Maps
set_option maxRecDepth 100000
set_option maxHeartbeats 4000000
/-! Rows of bools, and rows of them. -/
def kBools : Kd (List Bool) := Kd.slice 4 Kd.bool
def OwnBB (w : World) (B : Nat) (v : Value) (xs : List (List Bool)) : Prop := Kd.R kBools 58 w B (fun _ => True) v xs
theorem info_bools : (Tryz.prog.info? 58).map (fun i => (i.zero, i.size, i.bytes)) = some (some (.slice none 0 0), 1, 24) := by kernel_rfl
theorem OwnB.nil (w : World) (B : Nat) : OwnB w B (.slice none 0 0) [] := Kd.R_nil _ _ _ _ _
theorem OwnBB.nil (w : World) (B : Nat) : OwnBB w B (.slice none 0 0) [] := Kd.R_nil _ _ _ _ _
theorem OwnB.lit0 (w : World) (B : Nat) (hB : B ≤ w.heap.size) : OwnB (w.alloc (.cells #[] 4)) B (.slice (some ⟨w.heap.size, 0, none⟩) 0 0) [] :=
  Kd.R_of_own (own_lit_of (enc := Value.bool) w B 4 [] hB (by simp)) (fun _ _ => trivial)
theorem OwnBB.below {w w1 : World} {B : Nat} {v : Value} {xs : List (List Bool)} (h : OwnBB w B v xs) (hb : Below w.heap.size w w1) : OwnBB w1 B v xs := Kd.R_below h hb
theorem kBools_E {q : Nat} (hq : q ∈ 58 :: kBools.E) : q = 58 ∨ q = 4 := by
  simp [kBools, Kd.slice, Kd.bool, Kd.scalar] at hq
  exact hq
theorem OwnBB.lit0 (w : World) (B : Nat) (hB : B ≤ w.heap.size) : OwnBB (w.alloc (.cells #[] 58)) B (.slice (some ⟨w.heap.size, 0, none⟩) 0 0) [] :=
  ⟨fun _ _ => trivial, [], own_lit_of (enc := Value.bool) w B 58 [] hB (by simp), Reps.none _ _⟩
/-- A grid of one's own, none of its rows being the row u. -/
def OwnBBx (w : World) (B : Nat) (u v : Value) (xs : List (List Bool)) : Prop := Kd.R kBools 58 w B (fun k => True ∧ some k ≠ u.ownBlock) v xs
theorem OwnBBx.drop {w : World} {B : Nat} {u v : Value} {xs : List (List Bool)} (h : OwnBBx w B u v xs) : OwnBB w B v xs := Kd.R_drop h
theorem OwnBBx.below {w w1 : World} {B : Nat} {u v : Value} {xs : List (List Bool)} (h : OwnBBx w B u v xs) (hb : Below w.heap.size w w1) : OwnBBx w1 B u v xs := Kd.R_below h hb
theorem OwnBB.fresh {w : World} {B : Nat} {v : Value} {xs : List (List Bool)} (h : OwnBB w B v xs) (o : Obj) (n c : Nat) : OwnBBx (w.alloc o) B (.slice (some ⟨w.heap.size, 0, none⟩) n c) v xs :=
  Kd.R_mono (Kd.R_alloc (Kd.R_bound h) o) (fun k hk => ⟨trivial, fun e => by
    have : k = w.heap.size := by simpa [Value.ownBlock] using e
    have := hk.2.2.1
    omega⟩)
section
variable {ops : Array Oper} {rest : List Oper} {o : Oper} {a : Act} {Q : Exit → Act → World → Prop}
theorem app_bools {w0 W : World} (base : Nat) (hgd : o.guard = none) (s x : Operand) (ho : o.op = .call { callee := .builtin .append, args := #[s, x], argTypes := #[100, 100] })
    (n : Nat) (v u : Value) (xs : List (List Bool)) (p : List Bool) (hs : a.eval s = v) (hx : a.eval x = .slice (some ⟨n, 0, none⟩) 1 1) (hn : n = W.heap.size) (HO : OwnBB W base v xs) (HU : OwnB W base u p) (HB : Below base w0 W) (hbase : base ≤ W.heap.size) (hl : xs.length < 1000000000000)
    (h : ∀ v1 w1, OwnBB w1 base v1 (xs ++ [p]) → Below base w0 w1 → W.grownBy w1 v.ownBlock → wpList Tryz.prog ops Q rest (a.put o.dst v1) w1) :
    wpList Tryz.prog ops Q (o :: rest) a (W.alloc (.cells #[u] 58)) := by
  subst hn
  refine Kd.R_append kBools (w0 := w0) base hgd s x 100 58 (.slice none 0 0) 24 ho Tryz.underlying100 info_bools rfl (by decide) (by omega) v xs p [u] (fun _ => True) (fun k => ∃ cells, W.heap[k]? = some (.cells cells 4 (0, 0))) hs hx ⟨u, rfl, ?_⟩ ?_ (fun _ _ => trivial) HO HB hbase (by omega) (fun v1 w1 h1 h2 h3 _ => h v1 w1 h1 h2 h3)
  · refine Kd.R_mono (Kd.R_bound HU) (fun k hk => ?_)
    obtain ⟨_, _, _, q, hq, cells, hc⟩ := hk
    simp [Kd.bool, Kd.scalar] at hq
    subst hq
    exact ⟨cells, hc⟩
  · rintro k ⟨cells, hc⟩
    exact ⟨trivial, Kd.R_ne HO hc (by decide)⟩
theorem app_boolG {w0 W : World} (base : Nat) (hgd : o.guard = none) (s x : Operand) (ho : o.op = .call { callee := .builtin .append, args := #[s, x], argTypes := #[58, 58] })
    (n : Nat) (v u : Value) (xs : List Bool) (rows : List (List Bool)) (p : Bool) (hs : a.eval s = v) (hx : a.eval x = .slice (some ⟨n, 0, none⟩) 1 1) (hn : n = W.heap.size) (HO : OwnB W base v xs) (HR : OwnBBx W base v u rows) (HB : Below base w0 W) (hbase : base ≤ W.heap.size) (hl : xs.length < 1000000000000)
    (h : ∀ v1 w1, OwnB w1 base v1 (xs ++ [p]) → OwnBBx w1 base v1 u rows → Below base w0 w1 → W.grownBy w1 v.ownBlock → wpList Tryz.prog ops Q rest (a.put o.dst v1) w1) :
    wpList Tryz.prog ops Q (o :: rest) a (W.alloc (.cells #[.bool p] 4)) := by
  subst hn
  exact Kd.R_append Kd.bool (w0 := w0) base hgd s x 58 4 (.bool false) 1 ho Tryz.underlying58 info_bool rfl (by decide) (by omega) v xs p [.bool p] (fun _ => True) (fun _ => False) hs hx rfl (fun _ hk => hk.elim) (fun _ _ => trivial) HO HB hbase (by omega) (fun v1 w1 h1 h2 h3 h4 => h v1 w1 h1 (Kd.R_after HR h3 h4) h2 h3)
end
/-- One row of a grid of one's own, put anew. -/
theorem OwnBB.put {w : World} {B g n c : Nat} {xs : List (List Bool)} {u : Value} {p : List Bool} (h : OwnBB w B (.slice (some ⟨g, 0, none⟩) n c) xs) (HU : OwnB w B u p) (k : Nat) (hk : k < n) :
    OwnBB (w.setCell ⟨g, k, none⟩ u) B (.slice (some ⟨g, 0, none⟩) n c) (xs.set k p) := by
  have hg : w.heap[g]?.isSome := by
    obtain ⟨cells, hc⟩ := Kd.R_typed h g rfl
    rw [hc]; rfl
  obtain ⟨cells, hc⟩ := Kd.R_typed h g rfl
  obtain ⟨cs, hcl, hM, hcc, -⟩ := Kd.R_elem h [] k (by omega) (by omega)
  have := (Kd.R_seg (d := kBools) (okp := fun k => ∃ cells, w.heap[k]? = some (.cells cells 4 (0, 0))) h (k : Int) (by omega) (by omega) (c := cs) (seg := [u]) (j := 0) hcl hcc (by show 0 + 1 ≤ 1; omega) (x' := p) ?_ ?_).1
  · have e : (k : Int).toNat * kBools.sz + 0 = k := by show (k : Int).toNat * 1 + 0 = k; omega
    rw [e] at this
    exact this
  · have hcs : cs.take 0 ++ [u] ++ cs.drop (0 + [u].length) = [u] := by
      have h1 : cs.length = 1 := hcl
      rw [List.take_zero, List.drop_eq_nil_of_le (by simp [h1])]
      rfl
    rw [hcs]
    refine ⟨u, rfl, Kd.R_mono (Kd.R_bound HU) (fun k hk => ?_)⟩
    obtain ⟨_, _, _, q, hq, cells, hc⟩ := hk
    simp [Kd.bool, Kd.scalar] at hq
    subst hq
    exact ⟨cells, hc⟩
  · rintro k' ⟨cells', hc'⟩
    refine ⟨trivial, ?_⟩
    rintro rfl
    rw [hc] at hc'
    injection hc' with hc'
    injection hc' with _ hc'
    cases hc'

end
section
open Go.RowKit Go.Maps
set_option maxRecDepth 100000
set_option maxHeartbeats 4000000
/-! From each package to each one. -/
def Sq (n : Nat) (rows : List (List Bool)) : Prop := rows.length = n ∧ ∀ r ∈ rows, r.length = n
def RetBB (w : World) (n : Nat) (e : Ending) (w' : World) : Prop := ∃ v rows, e = .returned v ∧ OwnBB w' w.heap.size v rows ∧ Sq n rows ∧ Below w.heap.size w w'
theorem edges_calls (w : World) (a : Args) (Ac : Option Addr) (cc : Nat) (cs : List DCh) (Ao : Option Addr) (co : Nat) (off : List Bool) (h : GOK w a Ac cs Ao off) :
    Calls Tryz.prog 61 #[.agg (gcells a Ac cc cs Ao co off)] w (RetBB w a.ps.length) := by
  have H := Aside0.mk h
  have hps := h.sm.n
  have HF := Aside0.mk (Fr1.mk0 w 62 (gcells a Ac cc cs Ao co off))
  have HE := Aside0.mk (fun (wM : World) (hb : Below w.heap.size w wM) (p t : Nat) (hp : p < a.ps.length) => Edge_any wM a Ac cc cs Ao co off (H.out.below hb) p t hp)
  have HO : Aside0 (OwnBB ((w.alloc (.cells (gcells a Ac cc cs Ao co off) 62)).alloc (.cells #[] 58)) w.heap.size (.slice (some ⟨w.heap.size + 1, 0, none⟩) 0 0) []) :=
    ⟨by have := OwnBB.lit0 (w.alloc (.cells (gcells a Ac cc cs Ao co off) 62)) w.heap.size (by simp); rwa [World.size_alloc] at this⟩
  have HF := Aside0.mk (HF.out.alloc (.cells #[] 58))
  clear h
  unfold gcells at HF HE HO ⊢
  obtain ⟨y0, y1, y2, y3, y4⟩ := cells5 HF.out.b0
  go_enter Tryz.func61, Tryz.ntmps61
  go_wp2_with fail
  clear y0 y1 y2 y3 y4
  go_loopw [3, 12] (fun v i W => ∃ (p : Nat) (rows : List (List Bool)), p ≤ a.ps.length ∧ i = .int .i64 p ∧ Aside0 (rows.length = p ∧ ∀ r ∈ rows, r.length = a.ps.length) ∧ Aside0 (OwnBB W w.heap.size v rows) ∧ Aside0 (Fr1 w 62 #[.slice a.A a.ps.length a.c, .slice a.A2 a.n2 a.c2, .slice a.B a.rs.length a.d, .slice Ac cs.length cc, .slice Ao off.length co] W)) (fun _ i _ => a.ps.length - (intOf i).toNat)
  case atStart => exact ⟨0, [], by omega, rfl, ⟨rfl, by simp⟩, HO, HF⟩
  case round =>
    clear HF HO
    obtain ⟨p, rows, hp, rfl, HR, HO, HF⟩ := hrel
    by_cases hlt : p < a.ps.length
    · obtain ⟨y0, y1, y2, y3, y4⟩ := cells5 HF.out.b0
      have bp : (p : Int) < (a.ps.length : Int) := by omega
      have HX := Aside0.mk (HO.out.fresh (.cells #[] 4) 0 0)
      have HN := Aside0.mk (OwnB.lit0 wr w.heap.size HF.out.below.size)
      have HF2 := Aside0.mk (HF.out.alloc (.cells #[] 4))
      have y0' := (cells5 HF2.out.b0).1
      go_wp2_with fail
      clear y0 y1 y2 y3 y4 y0'
      go_loopw [5, 20] (fun u i W => ∃ (t : Nat) (xs : List Bool), t ≤ a.ps.length ∧ i = .int .i64 t ∧ Aside0 (xs.length = t) ∧ Aside0 (OwnB W w.heap.size u xs) ∧ Aside0 (OwnBBx W w.heap.size u u3 rows) ∧ Aside0 (Fr1 w 62 #[.slice a.A a.ps.length a.c, .slice a.A2 a.n2 a.c2, .slice a.B a.rs.length a.d, .slice Ac cs.length cc, .slice Ao off.length co] W)) (fun _ i _ => a.ps.length - (intOf i).toNat)
      case atStart => exact ⟨0, [], by omega, rfl, ⟨rfl⟩, HN, HX, HF2⟩
      case round =>
        clear HF2 HN HX HF HO
        obtain ⟨t, xs, ht, rfl, HL, HN, HX, HF⟩ := hrel
        by_cases htt : t < a.ps.length
        · obtain ⟨y0, y1, y2, y3, y4⟩ := cells5 HF.out.b0
          have bt : (t : Int) < (a.ps.length : Int) := by omega
          go_wp2_with fail
          refine (HE.out _ HF.out.below p t hlt).mono ?_
          rintro e1 w1 ⟨b, -, rfl, hb⟩
          have HN1 := Aside0.mk (HN.out.below hb)
          have HX1 := Aside0.mk (HX.out.below hb)
          have HF1 := Aside0.mk (HF.out.step hb)
          have hxl : xs.length < 1000000000000 := by have := HL.out; omega
          clear y0 y1 y2 y3 y4 hb HN HX HF
          go_wp2_with (first | (at_builtin; refine app_boolG (w0 := w) w.heap.size (by rfl) (.tmp 23) (.tmp 28) (by rfl) w1.heap.size _ u3 xs rows b (by rfl) (by rfl) (by rfl) HN1.out HX1.out HF1.out.below HF1.out.below.size hxl ?_; intro v2 w2 hO2 hX2 hB2 hg2))
          have HF2 := Aside0.mk (show Fr1 w 62 #[.slice a.A a.ps.length a.c, .slice a.A2 a.n2 a.c2, .slice a.B a.rs.length a.d, .slice Ac cs.length cc, .slice Ao off.length co] w2 from ⟨hB2, HN1.out.other hg2 HF1.out.b0 (by decide)⟩)
          have HN2 := Aside0.mk hO2
          have HX2 := Aside0.mk hX2
          clear hO2 hX2 hB2 hg2
          go_wp2_with fail
          go_roundw
          case rel => exact ⟨t + 1, _, by omega, by go_num, ⟨by rw [List.length_append, HL.out]; rfl⟩, HN2, HX2, HF2⟩
          case measure => simp [intOf] <;> omega
        · have e : t = a.ps.length := by omega
          subst e
          have hrl : rows.length < 1000000000000 := by have := HR.out.1; omega
          obtain ⟨Au, cu, rfl, -, -⟩ := Kd.R_reads HN.out
          go_wp2_with (first | (at_builtin; refine app_bools (w0 := w) w.heap.size rfl (.tmp 31) (.tmp 33) rfl _ _ _ rows xs rfl rfl rfl HX.out.drop HN.out HF.out.below HF.out.below.size hrl ?_; intro v2 w2 hO2 hB2 hg2))
          have HF2 := Aside0.mk (show Fr1 w 62 #[.slice a.A a.ps.length a.c, .slice a.A2 a.n2 a.c2, .slice a.B a.rs.length a.d, .slice Ac cs.length cc, .slice Ao off.length co] w2 from ⟨hB2, blk_grown HF.out.b0 hg2 (Kd.R_ne HX.out HF.out.b0 (by decide))⟩)
          have HO2 := Aside0.mk hO2
          clear hO2 hB2 hg2
          go_wp2_with fail
          go_roundw
          case rel => exact ⟨p + 1, _, by omega, by go_num, ⟨by rw [List.length_append, HR.out.1]; rfl, fun r hr => by
            rcases List.mem_append.1 hr with h | h
            · exact HR.out.2 r h
            · rw [List.mem_singleton.1 h]; exact HL.out⟩, HO2, HF2⟩
          case measure => simp [intOf] <;> omega
    · have e : p = a.ps.length := by omega
      subst e
      go_wp2_with fail
      go_ret
      exact ⟨_, rows, rfl, HO.out, HR.out, HF.out.below⟩
theorem at_brow {w : World} {A : Option Addr} {xs : List (List Bool)} (h : Kd.C kBools w A xs.length xs) (k : Nat) (hk : k < xs.length) : ∃ ad A' c', A = some ad ∧ w.cell? (ad.add k) = some (.slice A' xs[k].length c') ∧ Kd.C Kd.bool w A' xs[k].length xs[k] := by
  obtain ⟨ad, c, e, _, hK, hc0⟩ := Kd.C_get h [] k (by omega) (by omega)
  have hc : ∀ j u, c[j]? = some u → w.cell? (ad.add (k * 1 + j)) = some u := hc0
  replace hK : kBools.K w (xs.getD k []) c := hK
  rw [getD_at _ _ hk] at hK
  obtain ⟨A', c', rfl, hl, hC⟩ := hK
  exact ⟨ad, A', c', e, by have := hc 0 _ rfl; rwa [Nat.mul_one, Nat.add_zero] at this, hC⟩
theorem Sq.set {n : Nat} {rows : List (List Bool)} (h : Sq n rows) {i : Nat} {p : List Bool} (hp : p.length = n) : Sq n (rows.set i p) :=
  ⟨by rw [List.length_set]; exact h.1, fun r hr => by
    rcases List.mem_or_eq_of_mem_set hr with h1 | h1
    · exact h.2 r h1
    · rw [h1]; exact hp⟩
theorem Reach_calls (w : World) (a : Args) (Ac : Option Addr) (cc : Nat) (cs : List DCh) (Ao : Option Addr) (co : Nat) (off : List Bool) (h : GOK w a Ac cs Ao off) :
    Calls Tryz.prog 41 #[.agg (gcells a Ac cc cs Ao co off)] w (RetBB w a.ps.length) := by
  have hps := h.sm.n
  have hba := Aside0.mk (below_alloc (Below.refl w.heap.size w) (.cells (gcells a Ac cc cs Ao co off) 62))
  have HE := Aside0.mk (edges_calls _ a Ac cc cs Ao co off (h.below hba.out))
  clear h
  unfold gcells at HE hba ⊢
  go_enter Tryz.func41, Tryz.ntmps41
  go_wp2_with fail
  refine HE.out.mono ?_
  rintro e w1 ⟨v, rows0, rfl, hO, hS, hb⟩
  have hl := hS.1
  obtain ⟨Ae, ce, rfl, -, -⟩ := Kd.R_reads hO
  have HO := Aside0.mk (show OwnBB w1 w.heap.size (.slice Ae rows0.length ce) rows0 from Kd.R_lower hO hba.out.size)
  have HS := Aside0.mk hS
  have HB := Aside0.mk (below_step hba.out hb)
  clear hO hS hb HE hba
  obtain ⟨n, hn⟩ : ∃ n, n = a.ps.length := ⟨_, rfl⟩
  rw [← hn] at hl HS hps
  rw [hl] at HO ⊢
  have HN := Aside0.mk hn
  clear hl hn
  go_wp2_with fail
  go_loopw [12] (fun i W => ∃ (k : Nat) (rows : List (List Bool)), k ≤ n ∧ i = .int .i64 k ∧ Aside0 (Sq n rows) ∧ Aside0 (OwnBB W w.heap.size (.slice Ae n ce) rows) ∧ Aside0 (Below w.heap.size w W)) (fun i _ => n - (intOf i).toNat)
  case atStart => exact ⟨0, rows0, by omega, rfl, HS, HO, HB⟩
  case round =>
    clear HS HO HB
    obtain ⟨k, rows, hk, rfl, HS, HO, HB⟩ := hrel
    by_cases hlt : k < n
    · have bk : (k : Int) < (n : Int) := by omega
      go_wp2_with fail
      go_loopw [17] (fun i W => ∃ (j : Nat) (rows : List (List Bool)), j ≤ n ∧ i = .int .i64 j ∧ Aside0 (Sq n rows) ∧ Aside0 (OwnBB W w.heap.size (.slice Ae n ce) rows) ∧ Aside0 (Below w.heap.size w W)) (fun i _ => n - (intOf i).toNat)
      case atStart => exact ⟨0, rows, by omega, rfl, HS, HO, HB⟩
      case round =>
        clear HS HO HB
        obtain ⟨j, rows, hj, rfl, HS, HO, HB⟩ := hrel
        by_cases hjt : j < n
        · have bj : (j : Int) < (n : Int) := by omega
          have HX := Aside0.mk (HO.out.fresh (.cells #[] 4) 0 0)
          have HN1 := Aside0.mk (OwnB.lit0 wr w.heap.size HB.out.size)
          have HB1 := Aside0.mk (below_alloc HB.out (.cells #[] 4))
          go_wp2_with fail
          go_loopw [6, 23] (fun u i W => ∃ (t : Nat) (xs : List Bool), t ≤ n ∧ i = .int .i64 t ∧ Aside0 (xs.length = t) ∧ Aside0 (OwnB W w.heap.size u xs) ∧ Aside0 (OwnBBx W w.heap.size u (.slice Ae n ce) rows) ∧ Aside0 (Below w.heap.size w W)) (fun _ i _ => n - (intOf i).toNat)
          case atStart => exact ⟨0, [], by omega, rfl, ⟨rfl⟩, HN1, HX, HB1⟩
          case round =>
            clear HX HN1 HB1 HO HB
            obtain ⟨t, xs, ht, rfl, HL, HU, HX, HB⟩ := hrel
            by_cases htt : t < n
            · have bt : (t : Int) < (n : Int) := by omega
              have hCr := (Kd.R_reads' HX.out.drop).2.2
              obtain ⟨ad, A1, c1, e, y1, k1⟩ := at_brow hCr j (by rw [HS.out.1]; exact hjt)
              obtain ⟨ad', A2, c2, e', y2, k2⟩ := at_brow hCr k (by rw [HS.out.1]; exact hlt)
              subst e
              injection e' with e'
              subst e'
              have l1 := HS.out.2 _ (List.getElem_mem (by rw [HS.out.1]; exact hjt : j < rows.length))
              have l2 := HS.out.2 _ (List.getElem_mem (by rw [HS.out.1]; exact hlt : k < rows.length))
              generalize rows[j]'(by rw [HS.out.1]; exact hjt) = r1 at *
              generalize rows[k]'(by rw [HS.out.1]; exact hlt) = r2 at *
              obtain ⟨a1, e, z1⟩ := at_boo k1 t (by omega)
              obtain ⟨a2, e', z2⟩ := at_boo k1 k (by omega)
              obtain ⟨a3, e3, z3⟩ := at_boo k2 t (by omega)
              subst e
              injection e' with e'
              subst e'
              subst e3
              rw [l1] at y1
              rw [l2] at y2
              have hxl : xs.length < 1000000000000 := by have := HL.out; omega
              clear hCr k1 k2
              generalize r1[t]'(by omega) = b1 at *
              generalize r1[k]'(by omega) = b2 at *
              generalize r2[t]'(by omega) = b3 at *
              clear l1 l2
              cases b1 <;> cases b2 <;>
              · go_wp2_with (first | (at_builtin; refine app_boolG (w0 := w) w.heap.size rfl (.tmp 26) (.tmp 52) rfl _ _ _ xs rows _ rfl rfl rfl HU.out HX.out HB.out HB.out.size hxl ?_; intro v2 w2 hO2 hX2 hB2 hg2))
                go_roundw
                case rel => exact ⟨t + 1, _, by omega, by go_num, ⟨by rw [List.length_append, HL.out]; rfl⟩, ⟨hO2⟩, ⟨hX2⟩, ⟨hB2⟩⟩
                case measure => simp [intOf] <;> omega
            · have e : n = t := by omega
              subst e
              obtain ⟨Au, cu, rfl, -, -⟩ := Kd.R_reads HU.out
              have hrl := HS.out.1
              obtain ⟨g, cap, e, -, -, cells, hcell⟩ := Kd.R_form HX.out (by omega)
              injection e with e1 e2 e3
              subst e1
              have zf := blk_frozen hcell j
              obtain ⟨ad, A1, c1, e, y1, -⟩ := at_brow (Kd.R_reads' HX.out.drop).2.2 j (by omega)
              injection e with e
              subst e
              replace y1 : wr.cell? ⟨g, j, none⟩ = some (.slice A1 (rows[j]'(by omega)).length c1) := by rw [show (⟨g, j, none⟩ : Addr) = Addr.add ⟨g, 0, none⟩ j by simp [Addr.add]]; exact y1
              rw [HS.out.2 _ (List.getElem_mem (by omega : j < rows.length))] at y1
              have HP := Aside0.mk (OwnBB.put HX.out.drop HU.out j hjt)
              have HB2 := Aside0.mk (HB.out.setCell (show w.heap.size ≤ (⟨g, j, none⟩ : Addr).block from Kd.R_base HX.out g rfl) (.slice Au xs.length cu))
              have HS2 := Aside0.mk (HS.out.set (i := j) HL.out)
              clear hcell hrl e2 e3
              go_wp2_with fail
              go_roundw
              case rel => exact ⟨j + 1, _, by omega, by go_num, HS2, HP, HB2⟩
              case measure => simp [intOf] <;> omega
        · go_wp2_with fail
          go_roundw
          case rel => exact ⟨k + 1, _, by omega, by go_num, HS, HO, HB⟩
          case measure => simp [intOf] <;> omega
    · go_wp2_with fail
      go_ret
      exact ⟨_, rows, rfl, HO.out, by rw [← HN.out]; exact HS.out, HB.out⟩

end
end Go.Proofs.YtbahanlnkikpeaaGreat
