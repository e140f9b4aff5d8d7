import Derived.Test.YtbahanlnkikpeaaGreatHas
namespace Go.Proofs.YtbahanlnkikpeaaGreat
open Go.RowKit Go.Proofs.YtbahanlnkikpeaaGreatW.PrintWords Go.Proofs.YtbahanlnkikpeaaGreatW.PrintLast
set_option linter.unusedVariables false
set_option linter.unusedSimpArgs false
def findIx (ps : List DPackage) (s : ByteArray) : Option Nat := ps.findIdx? (fun p => eqS p.name s)
def findI (ps : List DPackage) (s : ByteArray) : Int := match findIx ps s with | some i => i | none => -1
theorem findI_yes {ps : List DPackage} {s : ByteArray} {k : Nat} (hk : k < ps.length) (h : (ps[k].name.toList == s.toList) = true) (hno : ∀ j, (hj : j < ps.length) → j < k → eqS ps[j].name s = false) : findI ps s = k := by
  have : findIx ps s = some k := by
    rw [findIx, List.findIdx?_eq_some_iff_getElem]
    exact ⟨hk, h, fun j hj => by rw [hno j (by omega) hj]; simp⟩
  rw [findI, this]
theorem findI_no {ps : List DPackage} {s : ByteArray} (hno : ∀ j, (hj : j < ps.length) → eqS ps[j].name s = false) : findI ps s = -1 := by
  have : findIx ps s = none := by
    rw [findIx, List.findIdx?_eq_none_iff]
    intro x hx
    obtain ⟨j, hj, rfl⟩ := List.getElem_of_mem hx
    exact hno j hj
  rw [findI, this]
set_option maxRecDepth 100000 in
theorem Find_calls (w : World) (A : Option Addr) (c : Nat) (ps : List DPackage) (A2 : Option Addr) (n2 c2 : Nat) (s : ByteArray) (h : Kd.C kPackage w A ps.length ps) :
   Calls Tryz.prog 84 #[.agg #[.slice A ps.length c, .slice A2 n2 c2], .string s] w (RetB w (.int .i64 (findI ps s))) := by
  have hm := Kd.C_max h
  have H := Aside0.mk h
  clear h
  go_enter Tryz.func84, Tryz.ntmps84
  go_wp2
  go_loop [9] (fun i => ∃ k : Nat, k ≤ ps.length ∧ i = .int .i64 k ∧ Aside0 (∀ j, (hj : j < ps.length) → j < k → eqS ps[j].name s = false)) (fun i => ps.length - (intOf i).toNat)
  case atStart => exact ⟨0, by omega, rfl, ⟨fun j _ hj => by omega⟩⟩
  case round =>
    obtain ⟨k, hk, rfl, hno⟩ := hrel
    by_cases hlt : k < ps.length
    · obtain ⟨ad, e, h0⟩ := at_Package_name (Kd.C_below H.out (below_alloc (Below.refl _ _) (.cells #[.slice A ps.length c, .slice A2 n2 c2] 25))) k hlt
      subst e
      go_wp2
      · have he : (ps[k].name.toList == s.toList) = true := by assumption
        go_ret
        exact ⟨ret_int (findI_yes hlt he hno.out).symm, below_alloc (Below.refl _ _) _⟩
      · have he : (ps[k].name.toList == s.toList) = false := by assumption
        go_round
        case rel => exact ⟨k + 1, by omega, by go_num, ⟨fun j hj hjk => by
          by_cases e : j = k
          · subst e; exact he
          · exact hno.out j hj (by omega)⟩⟩
        case measure => simp [intOf]; omega
    · go_wp2
      go_ret
      exact ⟨ret_int (findI_no fun j hj => hno.out j hj (by omega)).symm, below_alloc (Below.refl _ _) _⟩
/-- The places of the packages that provide a name, ahead of place k. -/
def provTo (ps : List DPackage) (s : ByteArray) (k : Nat) : List Int := ((List.range k).filter (fun i => (ps[i]?).any (fun p => hasS p.provides s))).map Int.ofNat
theorem provTo_succ (ps : List DPackage) (s : ByteArray) (k : Nat) (hk : k < ps.length) : provTo ps s (k + 1) = provTo ps s k ++ (if hasS ps[k].provides s then [(k : Int)] else []) := by
  rw [provTo, List.range_succ, List.filter_append, List.map_append, ← provTo]
  congr 1
  rw [List.filter_cons, List.getElem?_eq_getElem hk, Option.any_some]
  cases hasS ps[k].provides s <;> rfl
theorem provTo_len (ps : List DPackage) (s : ByteArray) (k : Nat) : (provTo ps s k).length ≤ k := by
  unfold provTo
  rw [List.length_map]
  have := List.length_filter_le (fun i => (ps[i]?).any (fun p => hasS p.provides s)) (List.range k)
  rwa [List.length_range] at this
def prov (ps : List DPackage) (s : ByteArray) : List Int := provTo ps s ps.length
set_option maxRecDepth 100000 in
theorem Providers_calls (w : World) (A : Option Addr) (c : Nat) (ps : List DPackage) (A2 : Option Addr) (n2 c2 : Nat) (s : ByteArray) (h : Kd.C kPackage w A ps.length ps) (hps : ps.length < 1000000000000) :
   Calls Tryz.prog 85 #[.agg #[.slice A ps.length c, .slice A2 n2 c2], .string s] w (RetI w (prov ps s)) := by
  have hm := Kd.C_max h
  have H := Aside0.mk h
  clear h
  go_enter Tryz.func85, Tryz.ntmps85
  go_wp2
  go_loopw [5, 11] (fun v i wr => ∃ k : Nat, k ≤ ps.length ∧ i = .int .i64 k ∧ Aside0 (OwnI wr w.heap.size v (provTo ps s k)) ∧ Aside0 (Below w.heap.size w wr) ∧ Aside0 (wr.heap[w.heap.size]? = some (.cells #[.slice A ps.length c, .slice A2 n2 c2] 25 (0, 0)))) (fun _ i _ => ps.length - (intOf i).toNat)
  case atStart => exact ⟨0, by omega, rfl, ⟨by have := OwnI.lit0 (w.alloc (.cells #[.slice A ps.length c, .slice A2 n2 c2] 25)) w.heap.size (below_alloc (Below.refl _ _) _).size; rwa [World.size_alloc] at this⟩, ⟨below_alloc (below_alloc (Below.refl _ _) _) _⟩, ⟨blk_alloc (blk_new _ _) _⟩⟩
  case round =>
    obtain ⟨k, hk, rfl, HO, HB, BK⟩ := hrel
    have z0 : wr.cell? ⟨w.heap.size, 0, none⟩ = some (.slice A ps.length c) := blk_cell BK.out 0
    by_cases hlt : k < ps.length
    · obtain ⟨ad, A', c', e, h0, hl, hC⟩ := at_Package_provides (Kd.C_below H.out HB.out) k hlt
      subst e
      have hlen := provTo_len ps s k
      have hsucc := provTo_succ ps s k hlt
      cases hh : hasS ps[k].provides s
      · rw [hh] at hsucc
        have hsucc := Aside0.mk hsucc
        go_wp2_with fail
        refine (Has_calls _ _ _ _ _ hC).mono ?_
        rintro e w1 ⟨rfl, hb⟩
        rw [hh]
        go_wp2_with fail
        go_roundw
        case rel => exact ⟨k + 1, by omega, by go_num, ⟨by rw [hsucc.out]; simpa using HO.out.below hb⟩, ⟨below_step HB.out hb⟩, ⟨blk_below BK.out hb⟩⟩
        case measure => simp [intOf]; omega
      · rw [hh] at hsucc
        have hsucc := Aside0.mk hsucc
        go_wp2_with fail
        refine (Has_calls _ _ _ _ _ hC).mono ?_
        rintro e w1 ⟨rfl, hb⟩
        rw [hh]
        have HO1 := Aside0.mk (HO.out.below hb)
        have HB1 := Aside0.mk (below_step HB.out hb)
        have BK1 := Aside0.mk (blk_below BK.out hb)
        go_wp2_with (first | (at_builtin; refine app_int (w0 := w) w.heap.size rfl (.tmp 22) (.tmp 24) rfl _ (provTo ps s k) k rfl rfl HO1.out HB1.out HB1.out.size (by omega) ?_; intro v1 w2 hO hB hg))
        go_roundw
        case rel => exact ⟨k + 1, by omega, by go_num, ⟨by rw [hsucc.out]; exact hO⟩, ⟨hB⟩, ⟨HO1.out.other hg BK1.out (by decide)⟩⟩
        case measure => simp [intOf]; omega
    · go_wp2
      go_ret
      exact ⟨_, rfl, by have : k = ps.length := by omega
                        subst this; exact HO.out, HB.out⟩

end Go.Proofs.YtbahanlnkikpeaaGreat
