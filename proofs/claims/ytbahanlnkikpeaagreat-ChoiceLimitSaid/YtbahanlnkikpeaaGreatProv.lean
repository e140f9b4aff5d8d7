import Derived.Test.YtbahanlnkikpeaaGreatBase
namespace Go.Proofs.YtbahanlnkikpeaaGreat
open Go.RowKit Go.Proofs.YtbahanlnkikpeaaGreatW.PrintWords Go.Proofs.YtbahanlnkikpeaaGreatW.PrintLast
set_option linter.unusedVariables false
set_option linter.unusedSimpArgs false
section
/-- One block of the call's own stands as it was laid; nothing elder has changed. -/
structure Fr1 (w : World) (t : Nat) (bx : Array Value) (w1 : World) : Prop where
  below : Below w.heap.size w w1
  b0 : w1.heap[w.heap.size]? = some (.cells bx t (0, 0))
structure Fr2 (w : World) (t : Nat) (bx : Array Value) (t' : Nat) (by_ : Array Value) (w1 : World) : Prop where
  below : Below w.heap.size w w1
  b0 : w1.heap[w.heap.size]? = some (.cells bx t (0, 0))
  b1 : w1.heap[w.heap.size + 1]? = some (.cells by_ t' (0, 0))
theorem blk_new1 (w : World) (o o' : Obj) : ((w.alloc o).alloc o').heap[w.heap.size + 1]? = some o' := by have := blk_new (w.alloc o) o'; rwa [World.size_alloc] at this
theorem Fr1.mk0 (w : World) (t : Nat) (bx : Array Value) : Fr1 w t bx (w.alloc (.cells bx t (0, 0))) := ⟨below_alloc (Below.refl _ _) _, blk_new _ _⟩
theorem Fr2.mk0 (w : World) (t : Nat) (bx : Array Value) (t' : Nat) (by_ : Array Value) : Fr2 w t bx t' by_ ((w.alloc (.cells bx t (0, 0))).alloc (.cells by_ t' (0, 0))) :=
  ⟨below_alloc (below_alloc (Below.refl _ _) _) _, blk_alloc (blk_new _ _) _, blk_new1 _ _ _⟩
theorem Fr1.step {w w1 w2 : World} {t : Nat} {bx : Array Value} (h : Fr1 w t bx w1) (hb : Below w1.heap.size w1 w2) : Fr1 w t bx w2 := ⟨below_step h.below hb, blk_below h.b0 hb⟩
theorem Fr2.step {w w1 w2 : World} {t t' : Nat} {bx by_ : Array Value} (h : Fr2 w t bx t' by_ w1) (hb : Below w1.heap.size w1 w2) : Fr2 w t bx t' by_ w2 := ⟨below_step h.below hb, blk_below h.b0 hb, blk_below h.b1 hb⟩
theorem Fr1.alloc {w w1 : World} {t : Nat} {bx : Array Value} (h : Fr1 w t bx w1) (o : Obj) : Fr1 w t bx (w1.alloc o) := h.step (below_alloc (Below.refl _ _) _)
theorem Fr2.alloc {w w1 : World} {t t' : Nat} {bx by_ : Array Value} (h : Fr2 w t bx t' by_ w1) (o : Obj) : Fr2 w t bx t' by_ (w1.alloc o) := h.step (below_alloc (Below.refl _ _) _)
theorem Fr1.drewN {w w1 : World} {t : Nat} {bx : Array Value} (h : Fr1 w t bx w1) (n : Nat) : Fr1 w t bx (w1.drewN n) := h.step (pw_below_drewN (Below.refl _ _) _)
theorem Fr2.drewN {w w1 : World} {t t' : Nat} {bx by_ : Array Value} (h : Fr2 w t bx t' by_ w1) (n : Nat) : Fr2 w t bx t' by_ (w1.drewN n) := h.step (pw_below_drewN (Below.refl _ _) _)
theorem cells1 {W : World} {g t : Nat} {a0 : Value} (h : W.heap[g]? = some (.cells #[a0] t (0, 0))) : W.cell? ⟨g, 0, none⟩ = some a0 := blk_cell h 0
theorem cells2 {W : World} {g t : Nat} {a0 a1 : Value} (h : W.heap[g]? = some (.cells #[a0, a1] t (0, 0))) :
    W.cell? ⟨g, 0, none⟩ = some a0 ∧ W.cell? ⟨g, 1, none⟩ = some a1 := ⟨blk_cell h 0, blk_cell h 1⟩
theorem cells3 {W : World} {g t : Nat} {a0 a1 a2 : Value} (h : W.heap[g]? = some (.cells #[a0, a1, a2] t (0, 0))) :
    W.cell? ⟨g, 0, none⟩ = some a0 ∧ W.cell? ⟨g, 1, none⟩ = some a1 ∧ W.cell? ⟨g, 2, none⟩ = some a2 := ⟨blk_cell h 0, blk_cell h 1, blk_cell h 2⟩
theorem cells7 {W : World} {g t : Nat} {a0 a1 a2 a3 a4 a5 a6 : Value} (h : W.heap[g]? = some (.cells #[a0, a1, a2, a3, a4, a5, a6] t (0, 0))) :
    W.cell? ⟨g, 0, none⟩ = some a0 ∧ W.cell? ⟨g, 1, none⟩ = some a1 ∧ W.cell? ⟨g, 2, none⟩ = some a2 ∧ W.cell? ⟨g, 3, none⟩ = some a3 ∧ W.cell? ⟨g, 4, none⟩ = some a4 ∧ W.cell? ⟨g, 5, none⟩ = some a5 ∧ W.cell? ⟨g, 6, none⟩ = some a6 :=
  ⟨blk_cell h 0, blk_cell h 1, blk_cell h 2, blk_cell h 3, blk_cell h 4, blk_cell h 5, blk_cell h 6⟩
theorem cells8 {W : World} {g t : Nat} {a0 a1 a2 a3 a4 a5 a6 a7 : Value} (h : W.heap[g]? = some (.cells #[a0, a1, a2, a3, a4, a5, a6, a7] t (0, 0))) :
    W.cell? ⟨g, 0, none⟩ = some a0 ∧ W.cell? ⟨g, 1, none⟩ = some a1 ∧ W.cell? ⟨g, 2, none⟩ = some a2 ∧ W.cell? ⟨g, 3, none⟩ = some a3 ∧ W.cell? ⟨g, 4, none⟩ = some a4 ∧ W.cell? ⟨g, 5, none⟩ = some a5 ∧ W.cell? ⟨g, 6, none⟩ = some a6 ∧ W.cell? ⟨g, 7, none⟩ = some a7 :=
  ⟨blk_cell h 0, blk_cell h 1, blk_cell h 2, blk_cell h 3, blk_cell h 4, blk_cell h 5, blk_cell h 6, blk_cell h 7⟩
def RetU8 (w : World) (p : Int → Prop) (e : Ending) (w' : World) : Prop := ∃ n : Int, p n ∧ e = .returned (.int .u8 n) ∧ Below w.heap.size w w'
theorem Fr1.lt {w w1 : World} {t : Nat} {bx : Array Value} (h : Fr1 w t bx w1) : w.heap.size < w1.heap.size := blk_lt h.b0
theorem Fr2.lt {w w1 : World} {t t' : Nat} {bx by_ : Array Value} (h : Fr2 w t bx t' by_ w1) : w.heap.size + 1 < w1.heap.size := blk_lt h.b1
structure Fr3 (w : World) (t : Nat) (bx : Array Value) (t' : Nat) (by_ : Array Value) (t'' : Nat) (bz : Array Value) (w1 : World) : Prop where
  below : Below w.heap.size w w1
  b0 : w1.heap[w.heap.size]? = some (.cells bx t (0, 0))
  b1 : w1.heap[w.heap.size + 1]? = some (.cells by_ t' (0, 0))
  b2 : w1.heap[w.heap.size + 1 + 1]? = some (.cells bz t'' (0, 0))
theorem blk_new2 (w : World) (o o' o'' : Obj) : (((w.alloc o).alloc o').alloc o'').heap[w.heap.size + 1 + 1]? = some o'' := by have := blk_new1 (w.alloc o) o' o''; rwa [World.size_alloc] at this
theorem Fr3.mk0 (w : World) (t : Nat) (bx : Array Value) (t' : Nat) (by_ : Array Value) (t'' : Nat) (bz : Array Value) : Fr3 w t bx t' by_ t'' bz (((w.alloc (.cells bx t (0, 0))).alloc (.cells by_ t' (0, 0))).alloc (.cells bz t'' (0, 0))) :=
  ⟨below_alloc (below_alloc (below_alloc (Below.refl _ _) _) _) _, blk_alloc (blk_alloc (blk_new _ _) _) _, blk_alloc (blk_new1 _ _ _) _, blk_new2 _ _ _ _⟩
theorem Fr3.step {w w1 w2 : World} {t t' t'' : Nat} {bx by_ bz : Array Value} (h : Fr3 w t bx t' by_ t'' bz w1) (hb : Below w1.heap.size w1 w2) : Fr3 w t bx t' by_ t'' bz w2 := ⟨below_step h.below hb, blk_below h.b0 hb, blk_below h.b1 hb, blk_below h.b2 hb⟩
theorem Fr3.alloc {w w1 : World} {t t' t'' : Nat} {bx by_ bz : Array Value} (h : Fr3 w t bx t' by_ t'' bz w1) (o : Obj) : Fr3 w t bx t' by_ t'' bz (w1.alloc o) := h.step (below_alloc (Below.refl _ _) _)
theorem Fr3.drewN {w w1 : World} {t t' t'' : Nat} {bx by_ bz : Array Value} (h : Fr3 w t bx t' by_ t'' bz w1) (n : Nat) : Fr3 w t bx t' by_ t'' bz (w1.drewN n) := h.step (pw_below_drewN (Below.refl _ _) _)
theorem Fr3.lt {w w1 : World} {t t' t'' : Nat} {bx by_ bz : Array Value} (h : Fr3 w t bx t' by_ t'' bz w1) : w.heap.size + 1 + 1 < w1.heap.size := blk_lt h.b2
/-- It returns a problem's code and line. -/
def RetPr (w : World) (p : Int → Prop) (e : Ending) (w' : World) : Prop := ∃ n l : Int, p n ∧ e = .returned (.agg #[.int .u8 n, .int .i64 l]) ∧ Below w.heap.size w w'
theorem Fr2.lts {w w1 : World} {t t' : Nat} {bx by_ : Array Value} (h : Fr2 w t bx t' by_ w1) : w.heap.size < w1.heap.size ∧ w.heap.size + 1 < w1.heap.size := ⟨blk_lt h.b0, blk_lt h.b1⟩
theorem Fr3.lts {w w1 : World} {t t' t'' : Nat} {bx by_ bz : Array Value} (h : Fr3 w t bx t' by_ t'' bz w1) : w.heap.size < w1.heap.size ∧ w.heap.size + 1 < w1.heap.size ∧ w.heap.size + 1 + 1 < w1.heap.size := ⟨blk_lt h.b0, blk_lt h.b1, blk_lt h.b2⟩

end
section
def hasS (l : List ByteArray) (s : ByteArray) : Bool := l.any (fun x => eqS x s)
theorem hasS_yes {l : List ByteArray} {s : ByteArray} {k : Nat} (hk : k < l.length) (h : (l[k].toList == s.toList) = true) : hasS l s = true :=
  List.any_eq_true.2 ⟨l[k], List.getElem_mem hk, h⟩
theorem hasS_no {l : List ByteArray} {s : ByteArray} (h : ∀ j, (hj : j < l.length) → eqS l[j] s = false) : hasS l s = false := by
  rw [hasS, List.any_eq_false]
  intro x hx
  obtain ⟨j, hj, rfl⟩ := List.getElem_of_mem hx
  rw [h j hj]
  simp
set_option maxRecDepth 100000 in
theorem Has_same (w : World) (A : Option Addr) (c : Nat) (l : List ByteArray) (s : ByteArray) (h : Kd.C Kd.string w A l.length l) :
   Calls Tryz.prog 100 #[.slice A l.length c, .string s] w (fun e w' => e = .returned (.bool (hasS l s)) ∧ w' = w) := by
  have hm := Kd.C_max h
  have H := Aside0.mk h
  clear h
  go_enter Tryz.func100, Tryz.ntmps100
  go_wp2
  go_loop [8] (fun i => ∃ k : Nat, k ≤ l.length ∧ i = .int .i64 k ∧ Aside0 (∀ j, (hj : j < l.length) → j < k → eqS l[j] s = false)) (fun i => l.length - (intOf i).toNat)
  case atStart => exact ⟨0, by omega, rfl, ⟨fun j _ hj => by omega⟩⟩
  case round =>
    obtain ⟨k, hk, rfl, hno⟩ := hrel
    by_cases hlt : k < l.length
    · obtain ⟨ad, e, h0⟩ := at_str H.out k hlt
      subst e
      go_wp2
      · have he : (l[k].toList == s.toList) = true := by assumption
        go_ret
        exact ⟨ret_bool (hasS_yes hlt he).symm, rfl⟩
      · have he : (l[k].toList == s.toList) = false := by assumption
        go_round
        case rel => exact ⟨k + 1, by omega, by go_num, ⟨fun j hj hjk => by
          by_cases e : j = k
          · subst e; exact he
          · exact hno.out j hj (by omega)⟩⟩
        case measure => simp [intOf]; omega
    · go_wp2
      go_ret
      exact ⟨ret_bool (hasS_no fun j hj => hno.out j hj (by omega)).symm, rfl⟩
theorem Has_calls (w : World) (A : Option Addr) (c : Nat) (l : List ByteArray) (s : ByteArray) (h : Kd.C Kd.string w A l.length l) :
   Calls Tryz.prog 100 #[.slice A l.length c, .string s] w (RetB w (.bool (hasS l s))) := by
  refine (Has_same w A c l s h).mono ?_
  rintro e w' ⟨rfl, rfl⟩
  exact ⟨rfl, Below.refl _ _⟩

end
section
def findIx (ps : List DPackage) (s : ByteArray) : Option Nat := ps.findIdx? (fun p => eqS p.name s)
def findI (ps : List DPackage) (s : ByteArray) : Int := match findIx ps s with | some i => i | none => -1
theorem findI_yes {ps : List DPackage} {s : ByteArray} {k : Nat} (hk : k < ps.length) (h : (ps[k].name.toList == s.toList) = true) (hno : ∀ j, (hj : j < ps.length) → j < k → eqS ps[j].name s = false) : findI ps s = k := by
  have : findIx ps s = some k := by
    rw [findIx, List.findIdx?_eq_some_iff_getElem]
    exact ⟨hk, h, fun j hj => by rw [hno j (by omega) hj]; simp⟩
  rw [findI, this]
theorem findI_no {ps : List DPackage} {s : ByteArray} (hno : ∀ j, (hj : j < ps.length) → eqS ps[j].name s = false) : findI ps s = -1 := by
  have : findIx ps s = none := by
    rw [findIx, List.findIdx?_eq_none_iff]
    intro x hx
    obtain ⟨j, hj, rfl⟩ := List.getElem_of_mem hx
    exact hno j hj
  rw [findI, this]
set_option maxRecDepth 100000 in
theorem Find_calls (w : World) (A : Option Addr) (c : Nat) (ps : List DPackage) (A2 : Option Addr) (n2 c2 : Nat) (s : ByteArray) (h : Kd.C kPackage w A ps.length ps) :
   Calls Tryz.prog 84 #[.agg #[.slice A ps.length c, .slice A2 n2 c2], .string s] w (RetB w (.int .i64 (findI ps s))) := by
  have hm := Kd.C_max h
  have H := Aside0.mk h
  clear h
  go_enter Tryz.func84, Tryz.ntmps84
  go_wp2
  go_loop [9] (fun i => ∃ k : Nat, k ≤ ps.length ∧ i = .int .i64 k ∧ Aside0 (∀ j, (hj : j < ps.length) → j < k → eqS ps[j].name s = false)) (fun i => ps.length - (intOf i).toNat)
  case atStart => exact ⟨0, by omega, rfl, ⟨fun j _ hj => by omega⟩⟩
  case round =>
    obtain ⟨k, hk, rfl, hno⟩ := hrel
    by_cases hlt : k < ps.length
    · obtain ⟨ad, e, h0⟩ := at_Package_name (Kd.C_below H.out (below_alloc (Below.refl _ _) (.cells #[.slice A ps.length c, .slice A2 n2 c2] 25))) k hlt
      subst e
      go_wp2
      · have he : (ps[k].name.toList == s.toList) = true := by assumption
        go_ret
        exact ⟨ret_int (findI_yes hlt he hno.out).symm, below_alloc (Below.refl _ _) _⟩
      · have he : (ps[k].name.toList == s.toList) = false := by assumption
        go_round
        case rel => exact ⟨k + 1, by omega, by go_num, ⟨fun j hj hjk => by
          by_cases e : j = k
          · subst e; exact he
          · exact hno.out j hj (by omega)⟩⟩
        case measure => simp [intOf]; omega
    · go_wp2
      go_ret
      exact ⟨ret_int (findI_no fun j hj => hno.out j hj (by omega)).symm, below_alloc (Below.refl _ _) _⟩
/-- The places of the packages that provide a name, ahead of place k. -/
def provTo (ps : List DPackage) (s : ByteArray) (k : Nat) : List Int := ((List.range k).filter (fun i => (ps[i]?).any (fun p => hasS p.provides s))).map Int.ofNat
theorem provTo_succ (ps : List DPackage) (s : ByteArray) (k : Nat) (hk : k < ps.length) : provTo ps s (k + 1) = provTo ps s k ++ (if hasS ps[k].provides s then [(k : Int)] else []) := by
  rw [provTo, List.range_succ, List.filter_append, List.map_append, ← provTo]
  congr 1
  rw [List.filter_cons, List.getElem?_eq_getElem hk, Option.any_some]
  cases hasS ps[k].provides s <;> rfl
theorem provTo_len (ps : List DPackage) (s : ByteArray) (k : Nat) : (provTo ps s k).length ≤ k := by
  unfold provTo
  rw [List.length_map]
  have := List.length_filter_le (fun i => (ps[i]?).any (fun p => hasS p.provides s)) (List.range k)
  rwa [List.length_range] at this
def prov (ps : List DPackage) (s : ByteArray) : List Int := provTo ps s ps.length
set_option maxRecDepth 100000 in
theorem Providers_calls (w : World) (A : Option Addr) (c : Nat) (ps : List DPackage) (A2 : Option Addr) (n2 c2 : Nat) (s : ByteArray) (h : Kd.C kPackage w A ps.length ps) (hps : ps.length < 1000000000000) :
   Calls Tryz.prog 85 #[.agg #[.slice A ps.length c, .slice A2 n2 c2], .string s] w (RetI w (prov ps s)) := by
  have hm := Kd.C_max h
  have H := Aside0.mk h
  clear h
  go_enter Tryz.func85, Tryz.ntmps85
  go_wp2
  go_loopw [5, 11] (fun v i wr => ∃ k : Nat, k ≤ ps.length ∧ i = .int .i64 k ∧ Aside0 (OwnI wr w.heap.size v (provTo ps s k)) ∧ Aside0 (Below w.heap.size w wr) ∧ Aside0 (wr.heap[w.heap.size]? = some (.cells #[.slice A ps.length c, .slice A2 n2 c2] 25 (0, 0)))) (fun _ i _ => ps.length - (intOf i).toNat)
  case atStart => exact ⟨0, by omega, rfl, ⟨by have := OwnI.lit0 (w.alloc (.cells #[.slice A ps.length c, .slice A2 n2 c2] 25)) w.heap.size (below_alloc (Below.refl _ _) _).size; rwa [World.size_alloc] at this⟩, ⟨below_alloc (below_alloc (Below.refl _ _) _) _⟩, ⟨blk_alloc (blk_new _ _) _⟩⟩
  case round =>
    obtain ⟨k, hk, rfl, HO, HB, BK⟩ := hrel
    have z0 : wr.cell? ⟨w.heap.size, 0, none⟩ = some (.slice A ps.length c) := blk_cell BK.out 0
    by_cases hlt : k < ps.length
    · obtain ⟨ad, A', c', e, h0, hl, hC⟩ := at_Package_provides (Kd.C_below H.out HB.out) k hlt
      subst e
      have hlen := provTo_len ps s k
      have hsucc := provTo_succ ps s k hlt
      cases hh : hasS ps[k].provides s
      · rw [hh] at hsucc
        have hsucc := Aside0.mk hsucc
        go_wp2_with fail
        refine (Has_calls _ _ _ _ _ hC).mono ?_
        rintro e w1 ⟨rfl, hb⟩
        rw [hh]
        go_wp2_with fail
        go_roundw
        case rel => exact ⟨k + 1, by omega, by go_num, ⟨by rw [hsucc.out]; simpa using HO.out.below hb⟩, ⟨below_step HB.out hb⟩, ⟨blk_below BK.out hb⟩⟩
        case measure => simp [intOf]; omega
      · rw [hh] at hsucc
        have hsucc := Aside0.mk hsucc
        go_wp2_with fail
        refine (Has_calls _ _ _ _ _ hC).mono ?_
        rintro e w1 ⟨rfl, hb⟩
        rw [hh]
        have HO1 := Aside0.mk (HO.out.below hb)
        have HB1 := Aside0.mk (below_step HB.out hb)
        have BK1 := Aside0.mk (blk_below BK.out hb)
        go_wp2_with (first | (at_builtin; refine app_int (w0 := w) w.heap.size rfl (.tmp 22) (.tmp 24) rfl _ (provTo ps s k) k rfl rfl HO1.out HB1.out HB1.out.size (by omega) ?_; intro v1 w2 hO hB hg))
        go_roundw
        case rel => exact ⟨k + 1, by omega, by go_num, ⟨by rw [hsucc.out]; exact hO⟩, ⟨hB⟩, ⟨HO1.out.other hg BK1.out (by decide)⟩⟩
        case measure => simp [intOf]; omega
    · go_wp2
      go_ret
      exact ⟨_, rfl, by have : k = ps.length := by omega
                        subst this; exact HO.out, HB.out⟩

end
end Go.Proofs.YtbahanlnkikpeaaGreat
