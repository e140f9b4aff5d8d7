import Derived.Test.YtbahanlnkikpeaaGreatRef10b
namespace Go.Proofs.YtbahanlnkikpeaaGreat
open Go.RowKit Go.Proofs.YtbahanlnkikpeaaGreatW.PrintWords Go.Proofs.YtbahanlnkikpeaaGreatW.PrintLast
set_option linter.unusedVariables false
set_option linter.unusedSimpArgs false
set_option maxRecDepth 100000
set_option maxHeartbeats 2000000
theorem info_bool : (Tryz.prog.info? 4).map (fun i => (i.zero, i.size, i.bytes)) = some (some (.bool false), 1, 1) := by kernel_rfl
/-- A row of bools of the call's own. -/
def OwnB (w : World) (B : Nat) (v : Value) (xs : List Bool) : Prop := Kd.R Kd.bool 4 w B (fun _ => True) v xs
theorem OwnB.below {w w1 : World} {B : Nat} {v : Value} {xs : List Bool} (h : OwnB w B v xs) (hb : Below w.heap.size w w1) : OwnB w1 B v xs := Kd.R_below h hb
theorem OwnB.reads {w : World} {B : Nat} {v : Value} {xs : List Bool} (h : OwnB w B v xs) : ∃ A c, v = .slice A xs.length c ∧ xs.length ≤ c ∧ Kd.C Kd.bool w A xs.length xs := Kd.R_reads h
theorem OwnB.other {w w1 : World} {B : Nat} {v : Value} {xs : List Bool} (h : OwnB w B v xs) (hg : w.grownBy w1 v.ownBlock) {g t : Nat} {cs : Array Value} (hb : w.heap[g]? = some (.cells cs t (0, 0))) (ht : 4 ≠ t) : w1.heap[g]? = some (.cells cs t (0, 0)) :=
  blk_grown hb hg (Kd.R_ne h hb ht)
section
variable {ops : Array Oper} {rest : List Oper} {o : Oper} {a : Act} {Q : Exit → Act → World → Prop}
theorem make_bools {w0 W : World} (base : Nat) (hgd : o.guard = none) {N : Tmp} (hd : o.dst = some N) (x y : Operand) (ho : o.op = .makeSlice 58 x y) (n : Nat) (hx : a.eval x = .int .i64 n) (hy : a.eval y = .int .i64 n)
    (hl : n < 1000000000000) (HB : Below base w0 W) (hbase : base ≤ W.heap.size)
    (h : ∀ v1 w1, OwnB w1 base v1 (List.replicate n false) → Below W.heap.size W w1 → wpList Tryz.prog ops Q rest (a.put o.dst v1) w1) : wpList Tryz.prog ops Q (o :: rest) a W :=
  Kd.R_make Kd.bool (w0 := W) W.heap.size 4 hgd hd 58 x y ho n hx hy Tryz.underlying58 (.bool false) 1 info_bool rfl (by decide) (by omega) false (ok := fun _ => True) (okp := fun _ => True) rfl (fun _ hk => hk) trivial (by omega) (by simp; omega) (Below.refl _ _) (Nat.le_refl _)
    (fun v1 w1 h1 h2 _ _ => h v1 w1 (by have := Kd.R_lower h1 hbase; simpa [OwnB] using this) h2)
end
theorem OwnB.int {w w1 : World} {B B' : Nat} {v u : Value} {xs : List Bool} {ys : List Int} (h : OwnB w B v xs) (h' : OwnI w B' u ys) (hg : w.grownBy w1 u.ownBlock) : OwnB w1 B v xs :=
  Kd.R_over' h (Kd.R_typed h') (by intro q hq; simp [Kd.bool, Kd.scalar] at hq; subst hq; decide) hg
def Sound (ps : List DPackage) (rs : List DRoot) (inn : List Bool) : Prop := ∀ k, flag inn k → Rch ps rs k
def Closed (ps : List DPackage) (rs : List DRoot) (inn : List Bool) : Prop := ∀ i : Nat, Asked ps rs (flag inn) i → flag inn i
theorem flag_set {inn : List Bool} {k j : Nat} (hk : k < inn.length) : flag (inn.set k true) j ↔ j = k ∨ flag inn j := by
  unfold flag
  rw [List.getD_eq_getElem?_getD, List.getD_eq_getElem?_getD, List.getElem?_set]
  by_cases e : k = j
  · subst e; simp [hk]
  · simp [e, Ne.symm e]
theorem count_set_true {inn : List Bool} {k : Nat} (hk : k < inn.length) (hf : ¬ flag inn k) : (inn.set k true).count true = inn.count true + 1 := by
  unfold flag at hf
  rw [getD_at _ _ hk] at hf
  rw [List.count_set hk]
  simp [hf]
theorem flag_repl (n k : Nat) : ¬ flag (List.replicate n false) k := by
  unfold flag
  rw [List.getD_eq_getElem?_getD, List.getElem?_replicate]
  split <;> simp
/-- One round over all packages, up to place k. -/
def Rnd (ps : List DPackage) (rs : List DRoot) (inn inn' : List Bool) (k : Nat) : Prop :=
  (inn' = inn ∧ ∀ j : Nat, j < k → Asked ps rs (flag inn) j → flag inn j) ∨ (¬ Closed ps rs inn ∧ inn.count true < inn'.count true)
theorem Rnd.skip {ps : List DPackage} {rs : List DRoot} {inn inn' : List Bool} {k : Nat} (h : Rnd ps rs inn inn' k) (hk : Asked ps rs (flag inn') k → flag inn' k) : Rnd ps rs inn inn' (k + 1) := by
  rcases h with ⟨rfl, h⟩ | h
  · refine .inl ⟨rfl, fun j hj ha => ?_⟩
    by_cases e : j = k
    · subst e; exact hk ha
    · exact h j (by omega) ha
  · exact .inr h
theorem Rnd.put {ps : List DPackage} {rs : List DRoot} {inn inn' : List Bool} {k : Nat} (h : Rnd ps rs inn inn' k) (hk : k < inn'.length) (hf : ¬ flag inn' k) (ha : Asked ps rs (flag inn') k) : Rnd ps rs inn (inn'.set k true) (k + 1) := by
  have hc := count_set_true hk hf
  rcases h with ⟨rfl, h⟩ | ⟨h1, h2⟩
  · exact .inr ⟨fun hcl => hf (hcl k ha), by omega⟩
  · exact .inr ⟨h1, by omega⟩
theorem Rnd.done {ps : List DPackage} {rs : List DRoot} {inn inn' : List Bool} {n : Nat} (h : Rnd ps rs inn inn' ps.length) (hn : Closed ps rs inn ∨ n ≤ inn.count true) : Closed ps rs inn' ∨ n + 1 ≤ inn'.count true := by
  rcases h with ⟨rfl, h⟩ | ⟨h1, h2⟩
  · exact .inl (fun i ha => h i (by have := ha.range.2; omega) ha)
  · rcases hn with hn | hn
    · exact absurd hn h1
    · exact .inr (by omega)
def flagsTo (inn : List Bool) (k : Nat) : List Int := ((List.range k).filter (fun i => inn.getD i false)).map Int.ofNat
theorem flagsTo_succ {inn : List Bool} {k : Nat} (hk : k < inn.length) : flagsTo inn (k + 1) = flagsTo inn k ++ (if inn[k] then [(k : Int)] else []) := by
  rw [flagsTo, List.range_succ, List.filter_append, List.map_append, ← flagsTo]
  congr 1
  rw [List.filter_cons, getD_at _ _ hk]
  cases inn[k] <;> rfl
theorem flagsTo_len (inn : List Bool) (k : Nat) : (flagsTo inn k).length ≤ k := by
  unfold flagsTo
  rw [List.length_map]
  exact Nat.le_trans (List.length_filter_le _ _) (by rw [List.length_range]; omega)
theorem Closure10_calls (w : World) (A : Option Addr) (c : Nat) (ps : List DPackage) (A2 : Option Addr) (n2 c2 : Nat) (B : Option Addr) (d : Nat) (rs : List DRoot)
    (h : Kd.C kPackage w A ps.length ps) (hps : ps.length < 1000000000) (hr : Kd.C kRoot w B rs.length rs) :
   Calls Tryz.prog 11 #[.agg #[.slice A ps.length c, .slice A2 n2 c2], .agg #[.slice B rs.length d]] w (RetI w (clo ps rs)) := by
  have H := Aside0.mk h
  have H2 := Aside0.mk hr
  clear h hr
  have HF := Aside0.mk (Fr2.mk0 w 25 #[.slice A ps.length c, .slice A2 n2 c2] 28 #[.slice B rs.length d])
  go_enter Tryz.func11, Tryz.ntmps11
  go_wp2_with (refine make_bools (w0 := w) w.heap.size rfl (N := 13) rfl (.tmp 12) (.tmp 12) rfl ps.length rfl rfl (by omega) (by exact HF.out.below) (by exact HF.out.below.size) ?_; intro v1 w1 hO hb)
  replace HF := Aside0.mk (HF.out.step hb)
  clear hb
  obtain ⟨A', c', rfl, hlc, -⟩ := hO.reads
  rw [List.length_replicate] at hO hlc ⊢
  have HO := Aside0.mk hO
  clear hO
  go_loopw [6] (fun i wr => ∃ (n : Nat) (inn : List Bool), n ≤ ps.length + 1 ∧ i = .int .i64 n ∧ Aside0 (inn.length = ps.length) ∧ Aside0 (Sound ps rs inn) ∧ Aside0 (Closed ps rs inn ∨ n ≤ inn.count true) ∧ Aside0 (OwnB wr w.heap.size (.slice A' ps.length c') inn) ∧ Aside0 (Fr2 w 25 #[.slice A ps.length c, .slice A2 n2 c2] 28 #[.slice B rs.length d] wr)) (fun i _ => ps.length + 1 - (intOf i).toNat)
  case atStart => exact ⟨0, _, by omega, rfl, ⟨List.length_replicate⟩, ⟨fun k hk => absurd hk (flag_repl _ _)⟩, ⟨.inr (Nat.zero_le _)⟩, HO, HF⟩
  case round =>
    clear HF HO
    obtain ⟨n, inn, hn, rfl, HL, HS, HC, HO, HF⟩ := hrel
    obtain ⟨x0, x1⟩ := cells2 HF.out.b0
    by_cases hle : n ≤ ps.length
    · go_wp2_with fail
      clear x0 x1
      go_loopw [24] (fun i wr => ∃ (k : Nat) (inn' : List Bool), k ≤ ps.length ∧ i = .int .i64 k ∧ Aside0 (inn'.length = ps.length) ∧ Aside0 (Sound ps rs inn') ∧ Aside0 (Rnd ps rs inn inn' k) ∧ Aside0 (OwnB wr w.heap.size (.slice A' ps.length c') inn') ∧ Aside0 (Fr2 w 25 #[.slice A ps.length c, .slice A2 n2 c2] 28 #[.slice B rs.length d] wr)) (fun i _ => ps.length - (intOf i).toNat)
      case atStart => exact ⟨0, inn, by omega, rfl, HL, HS, ⟨.inl ⟨rfl, fun j hj => by omega⟩⟩, HO, HF⟩
      case round =>
        clear HF HO
        obtain ⟨k, inn', hk, rfl, HL', HS', HR, HO, HF⟩ := hrel
        obtain ⟨x0, x1⟩ := cells2 HF.out.b0
        have p0 := cells1 HF.out.b1
        by_cases hlt : k < ps.length
        · have hkl : k < inn'.length := by rw [HL'.out]; exact hlt
          obtain ⟨g, cap, e, hbg, -, -⟩ := Kd.R_form HO.out (by omega)
          injection e with e1 e2 e3
          subst e1
          clear e2 e3
          obtain ⟨y0, y1⟩ := Kd.R_celln (enc := Value.bool) (h1 := fun _ => rfl) false HO.out k (by omega) (by omega)
          replace y0 : wr.cell? ⟨g, k, none⟩ = some (.bool (inn'.getD k false)) := y0
          replace y1 : wr.frozen? ⟨g, k, none⟩ = false := y1
          have bk : (k : Int) < (ps.length : Int) := by omega
          cases hfl : inn'.getD k false
          · have HFL : Aside0 (¬ flag inn' k) := ⟨fun h => by unfold flag at h; rw [hfl] at h; cases h⟩
            rw [hfl] at y0
            clear hfl
            go_wp2_with fail
            have hCb := (Kd.R_reads' HO.out).2.2
            refine (asked_calls _ _ _ _ _ _ _ _ _ _ _ _ inn' _ (Kd.C_below H.out HF.out.below) (by omega) (Kd.C_below H2.out HF.out.below) hCb HL'.out).mono ?_
            rintro e w2 ⟨b, hq, rfl, hb⟩
            have HO2 := Aside0.mk (HO.out.below hb)
            have HF2 := Aside0.mk (HF.out.step hb)
            have hq : AskP ps rs inn' (k : Int) b := hq
            cases b
            · have HQ : Aside0 (¬ Asked ps rs (flag inn') (k : Int)) := ⟨fun h => by have := hq.2 h; cases this⟩
              clear hq
              go_wp2_with fail
              go_roundw
              case rel => exact ⟨k + 1, inn', by omega, by go_num, HL', HS', ⟨HR.out.skip (fun h => absurd h HQ.out)⟩, HO2, HF2⟩
              case measure => simp [intOf] <;> omega
            · have HQ := Aside0.mk (hq.1 rfl)
              clear hq
              obtain ⟨z0, z1⟩ := Kd.R_celln (enc := Value.bool) (h1 := fun _ => rfl) false HO2.out k (by omega) (by omega)
              replace z0 : w2.cell? ⟨g, k, none⟩ = some (.bool (inn'.getD k false)) := z0
              replace z1 : w2.frozen? ⟨g, k, none⟩ = false := z1
              clear y0 y1 x0 x1 p0 hb
              go_wp2_with fail
              obtain ⟨hO3, hg⟩ := Kd.R_putg (enc := Value.bool) (h1 := fun _ => rfl) HO2.out k true
              go_roundw
              case rel => exact ⟨k + 1, inn'.set k true, by omega, by go_num, ⟨by rw [List.length_set]; exact HL'.out⟩, ⟨fun j hj => by
                rcases (flag_set hkl).1 hj with rfl | hj
                · exact rch_asked HS'.out HQ.out
                · exact HS'.out j hj⟩, ⟨HR.out.put hkl HFL.out HQ.out⟩, ⟨hO3⟩, ⟨below_set HF2.out.below hbg, OwnB.other HO2.out hg HF2.out.b0 (by decide), OwnB.other HO2.out hg HF2.out.b1 (by decide)⟩⟩
              case measure => simp [intOf] <;> omega
          · have HFL : Aside0 (flag inn' k) := ⟨hfl⟩
            rw [hfl] at y0
            clear hfl
            go_wp2_with fail
            go_roundw
            case rel => exact ⟨k + 1, inn', by omega, by go_num, HL', HS', ⟨HR.out.skip (fun _ => HFL.out)⟩, HO, HF⟩
            case measure => simp [intOf] <;> omega
        · have hkn : k = ps.length := by omega
          have HD := Aside0.mk ((hkn ▸ HR.out : Rnd ps rs inn inn' ps.length).done HC.out)
          clear hkn
          go_wp2_with fail
          go_roundw
          case rel => exact ⟨n + 1, inn', by omega, by go_num, HL', HS', HD, HO, HF⟩
          case measure => simp [intOf] <;> omega
    · have HCL : Aside0 (Closed ps rs inn) := ⟨by
        rcases HC.out with h | h
        · exact h
        · have := List.count_le_length (a := true) (l := inn); have := HL.out; omega⟩
      have HRES := Aside0.mk (clo_of_flags ps rs inn HL.out HS.out HCL.out)
      clear HC
      go_wp2_with fail
      clear hle hn x0 x1
      go_loopw [8, 46] (fun v i wr => ∃ k : Nat, k ≤ ps.length ∧ i = .int .i64 k ∧ Aside0 (OwnI wr w.heap.size v (flagsTo inn k)) ∧ Aside0 (OwnB wr w.heap.size (.slice A' ps.length c') inn) ∧ Aside0 (Below w.heap.size w wr)) (fun _ i _ => ps.length - (intOf i).toNat)
      case atStart => exact ⟨0, by omega, rfl, ⟨OwnI.lit0 _ _ HF.out.below.size⟩, ⟨HO.out.below (below_alloc (Below.refl _ _) _)⟩, ⟨below_alloc HF.out.below _⟩⟩
      case round =>
        clear HF HO
        obtain ⟨k, hk, rfl, HI, HO, HB⟩ := hrel
        by_cases hlt : k < ps.length
        · have hkl : k < inn.length := by rw [HL.out]; exact hlt
          have hlen := flagsTo_len inn k
          have HS2 := Aside0.mk (flagsTo_succ hkl)
          obtain ⟨g, cap, e, hbg, -, -⟩ := Kd.R_form HO.out (by omega)
          injection e with e1 e2 e3
          subst e1
          clear e2 e3
          obtain ⟨y0, -⟩ := Kd.R_celln (enc := Value.bool) (h1 := fun _ => rfl) false HO.out k (by omega) (by omega)
          replace y0 : wr.cell? ⟨g, k, none⟩ = some (.bool (inn.getD k false)) := y0
          rw [getD_at _ _ hkl] at y0
          have bk : (k : Int) < (ps.length : Int) := by omega
          cases hfl : inn[k]
          · rw [hfl] at y0 HS2
            clear hfl
            go_wp2_with fail
            go_roundw
            case rel => exact ⟨k + 1, by omega, by go_num, ⟨by rw [HS2.out]; simpa using HI.out⟩, HO, HB⟩
            case measure => simp [intOf] <;> omega
          · rw [hfl] at y0 HS2
            clear hfl
            go_wp2_with (first | (at_builtin; refine app_int (w0 := w) w.heap.size rfl (.tmp 53) (.tmp 55) rfl _ (flagsTo inn k) k rfl rfl HI.out HB.out HB.out.size (by omega) ?_; intro v1 w2 hI hB hg))
            go_roundw
            case rel => exact ⟨k + 1, by omega, by go_num, ⟨by rw [HS2.out]; exact hI⟩, ⟨HO.out.int HI.out hg⟩, ⟨hB⟩⟩
            case measure => simp [intOf] <;> omega
        · have hkn : k = ps.length := by omega
          have HRES2 : Aside0 (flagsTo inn k = clo ps rs) := ⟨by rw [← HRES.out, HL.out, ← hkn]; rfl⟩
          clear hkn
          go_wp2_with fail
          go_ret
          exact ⟨_, rfl, by rw [← HRES2.out]; exact HI.out, HB.out⟩

end Go.Proofs.YtbahanlnkikpeaaGreat
