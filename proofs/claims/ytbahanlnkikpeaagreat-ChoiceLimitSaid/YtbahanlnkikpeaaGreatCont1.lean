import Derived.Test.YtbahanlnkikpeaaGreatRef10a
namespace Go.Proofs.YtbahanlnkikpeaaGreat
open Go.RowKit Go.Proofs.YtbahanlnkikpeaaGreatW.PrintWords Go.Proofs.YtbahanlnkikpeaaGreatW.PrintLast
set_option linter.unusedVariables false
set_option linter.unusedSimpArgs false
set_option maxRecDepth 100000
set_option maxHeartbeats 2000000
/-! The program's own: slices.Index, Contains, check.Find, Providers, needs.Targets. -/
def oix : Option Nat → Int
  | some i => i
  | none => -1
def idxS (l : List ByteArray) (s : ByteArray) : Int := oix (l.findIdx? (fun x => eqS s x))
def idxI (l : List Int) (s : Int) : Int := oix (l.findIdx? (fun x => s == x))
theorem idx_yes {α : Type} {p : α → Bool} {l : List α} {k : Nat} (hk : k < l.length) (h : p l[k] = true) (hno : ∀ j, (hj : j < l.length) → j < k → p l[j] = false) : oix (l.findIdx? p) = k := by
  have : l.findIdx? p = some k := by
    rw [List.findIdx?_eq_some_iff_getElem]
    exact ⟨hk, h, fun j hj => by rw [hno j (by omega) hj]; simp⟩
  rw [this]; rfl
theorem idx_no {α : Type} {p : α → Bool} {l : List α} (hno : ∀ j, (hj : j < l.length) → p l[j] = false) : oix (l.findIdx? p) = -1 := by
  have : l.findIdx? p = none := by
    rw [List.findIdx?_eq_none_iff]
    intro x hx
    obtain ⟨j, hj, rfl⟩ := List.getElem_of_mem hx
    exact hno j hj
  rw [this]; rfl
theorem idx_any {α : Type} {p : α → Bool} {l : List α} : decide (0 ≤ oix (l.findIdx? p)) = l.any p := by
  cases h : l.findIdx? p with
  | none =>
    rw [List.findIdx?_eq_none_iff] at h
    rw [List.any_eq_false.2 (fun x hx => by rw [h x hx]; simp)]
    rfl
  | some i =>
    obtain ⟨hi, hp, -⟩ := List.findIdx?_eq_some_iff_getElem.1 h
    rw [List.any_eq_true.2 ⟨l[i], List.getElem_mem hi, hp⟩]
    exact decide_eq_true (Int.natCast_nonneg i)
theorem IndexS_same (w : World) (A : Option Addr) (c : Nat) (l : List ByteArray) (s : ByteArray) (h : Kd.C Kd.string w A l.length l) :
   Calls Tryz.prog 119 #[.slice A l.length c, .string s] w (fun e w' => e = .returned (.int .i64 (idxS l s)) ∧ w' = w) := by
  have hm := Kd.C_max h
  have H := Aside0.mk h
  clear h
  go_enter Tryz.func119, Tryz.ntmps119
  go_wp2
  go_loop [8] (fun i => ∃ k : Nat, k ≤ l.length ∧ i = .int .i64 k ∧ Aside0 (∀ j, (hj : j < l.length) → j < k → eqS s l[j] = false)) (fun i => l.length - (intOf i).toNat)
  case atStart => exact ⟨0, by omega, rfl, ⟨fun j _ hj => by omega⟩⟩
  case round =>
    obtain ⟨k, hk, rfl, hno⟩ := hrel
    by_cases hlt : k < l.length
    · obtain ⟨ad, e, h0⟩ := at_str H.out k hlt
      subst e
      cases he : (s.toList == l[k].toList)
      · have HE := Aside0.mk he
        go_wp2
        go_round
        case rel => exact ⟨k + 1, by omega, by go_num, ⟨fun j hj hjk => by
          by_cases e : j = k
          · subst e; exact HE.out
          · exact hno.out j hj (by omega)⟩⟩
        case measure => simp [intOf] <;> omega
      · have HE := Aside0.mk he
        go_wp2
        go_ret
        exact ⟨ret_int (idx_yes (p := eqS s) hlt HE.out hno.out).symm, rfl⟩
    · go_wp2
      go_ret
      exact ⟨ret_int (idx_no (p := eqS s) fun j hj => hno.out j hj (by omega)).symm, rfl⟩
theorem eqS_comm (a b : ByteArray) : eqS a b = eqS b a := by
  rw [Bool.eq_iff_iff, eqS_iff, eqS_iff]
  exact eq_comm
theorem ContainsS_same (w : World) (A : Option Addr) (c : Nat) (l : List ByteArray) (s : ByteArray) (h : Kd.C Kd.string w A l.length l) :
   Calls Tryz.prog 103 #[.slice A l.length c, .string s] w (fun e w' => e = .returned (.bool (hasS l s)) ∧ w' = w) := by
  have HR : Aside0 (decide (0 ≤ idxS l s) = hasS l s) := ⟨by
    unfold idxS
    rw [idx_any]
    unfold hasS
    congr 1
    funext x
    exact eqS_comm _ _⟩
  have H := Aside0.mk h
  clear h
  go_enter Tryz.func103, Tryz.ntmps103
  go_wp2_with fail
  refine (IndexS_same _ _ _ _ _ H.out).mono ?_
  rintro e w1 ⟨rfl, rfl⟩
  go_wp2_with fail
  go_ret
  exact ⟨ret_bool HR.out, rfl⟩
theorem IndexI_same (w : World) (A : Option Addr) (c : Nat) (l : List Int) (s : Int) (h : Kd.C (Kd.int .i64) w A l.length l) :
   Calls Tryz.prog 72 #[.slice A l.length c, .int .i64 s] w (fun e w' => e = .returned (.int .i64 (idxI l s)) ∧ w' = w) := by
  have hm := Kd.C_max h
  have H := Aside0.mk h
  clear h
  go_enter Tryz.func72, Tryz.ntmps72
  go_wp2
  go_loop [8] (fun i => ∃ k : Nat, k ≤ l.length ∧ i = .int .i64 k ∧ Aside0 (∀ j, (hj : j < l.length) → j < k → (s == l[j]) = false)) (fun i => l.length - (intOf i).toNat)
  case atStart => exact ⟨0, by omega, rfl, ⟨fun j _ hj => by omega⟩⟩
  case round =>
    obtain ⟨k, hk, rfl, hno⟩ := hrel
    by_cases hlt : k < l.length
    · obtain ⟨ad, e, h0⟩ := at_i64 H.out k hlt
      subst e
      cases he : (s == l[k])
      · have HE := Aside0.mk he
        go_wp2
        go_round
        case rel => exact ⟨k + 1, by omega, by go_num, ⟨fun j hj hjk => by
          by_cases e : j = k
          · subst e; exact HE.out
          · exact hno.out j hj (by omega)⟩⟩
        case measure => simp [intOf] <;> omega
      · have HE := Aside0.mk he
        go_wp2
        go_ret
        exact ⟨ret_int (idx_yes (p := fun x => s == x) hlt HE.out hno.out).symm, rfl⟩
    · go_wp2
      go_ret
      exact ⟨ret_int (idx_no (p := fun x => s == x) fun j hj => hno.out j hj (by omega)).symm, rfl⟩
theorem ContainsI_same (w : World) (A : Option Addr) (c : Nat) (l : List Int) (s : Int) (h : Kd.C (Kd.int .i64) w A l.length l) :
   Calls Tryz.prog 47 #[.slice A l.length c, .int .i64 s] w (fun e w' => e = .returned (.bool (hasI l s)) ∧ w' = w) := by
  have HR : Aside0 (decide (0 ≤ idxI l s) = hasI l s) := ⟨by
    unfold idxI
    rw [idx_any]
    unfold hasI
    congr 1
    funext x
    rw [Bool.eq_iff_iff, beq_iff_eq, beq_iff_eq]
    exact eq_comm⟩
  have H := Aside0.mk h
  clear h
  go_enter Tryz.func47, Tryz.ntmps47
  go_wp2_with fail
  refine (IndexI_same _ _ _ _ _ H.out).mono ?_
  rintro e w1 ⟨rfl, rfl⟩
  go_wp2_with fail
  go_ret
  exact ⟨ret_bool HR.out, rfl⟩
/-- check.Find's predicate: a package, and where the name lies. -/
theorem FindP_calls (w : World) (x : DPackage) (cs : List Value) (h : kPackage.K w x cs) (b : Nat) (s : ByteArray) (hb : w.cell? ⟨b, 0, none⟩ = some (.string s)) :
   Calls Tryz.prog 102 #[.agg cs.toArray, .pointer (some ⟨b, 0, none⟩)] w (RetB w (.bool (eqS x.name s))) := by
  obtain ⟨A2, c2, A3, c3, A4, c4, A5, c5, A6, c6, A7, c7, rfl, -⟩ := kPackage_open h
  clear h
  have hlt := World.block_lt_of_cell? w _ hb
  go_enter Tryz.func102, Tryz.ntmps102
  go_wp2
  go_ret
  exact ⟨rfl, below_alloc (Below.refl _ _) _⟩
theorem IndexP_calls (w : World) (A : Option Addr) (c : Nat) (ps : List DPackage) (h : Kd.C kPackage w A ps.length ps) (b : Nat) (s : ByteArray) (hb : w.cell? ⟨b, 0, none⟩ = some (.string s)) :
   Calls Tryz.prog 101 #[.slice A ps.length c, .func (.func 102) #[] #[.pointer (some ⟨b, 0, none⟩)]] w (RetB w (.int .i64 (findI ps s))) := by
  have hm := Kd.C_max h
  have H := Aside0.mk h
  have HN := Aside0.mk hb
  clear h hb
  go_enter Tryz.func101, Tryz.ntmps101
  go_wp2
  go_loopw [8] (fun i wr => ∃ k : Nat, k ≤ ps.length ∧ i = .int .i64 k ∧ Aside0 (∀ j, (hj : j < ps.length) → j < k → eqS ps[j].name s = false) ∧ Aside0 (Below w.heap.size w wr)) (fun i _ => ps.length - (intOf i).toNat)
  case atStart => exact ⟨0, by omega, rfl, ⟨fun j _ hj => by omega⟩, ⟨Below.refl _ _⟩⟩
  case round =>
    obtain ⟨k, hk, rfl, hno, HB⟩ := hrel
    by_cases hlt : k < ps.length
    · obtain ⟨ad, A2, c2, A3, c3, A4, c4, A5, c5, A6, c6, A7, c7, e, h0, h1, h2, h3, h4, h5, h6, h7, hK⟩ := at_Package_K (Kd.C_below H.out HB.out) k hlt
      subst e
      have HK := Aside0.mk hK
      clear hK
      go_wp2_with fail
      refine (FindP_calls _ _ _ HK.out _ _ (pw_cell_below HB.out HN.out)).mono ?_
      rintro e w1 ⟨rfl, hb⟩
      cases hq : eqS ps[k].name s
      · have HQ := Aside0.mk hq
        clear hq
        go_wp2_with fail
        go_roundw
        case rel => exact ⟨k + 1, by omega, by go_num, ⟨fun j hj hjk => by
          by_cases e : j = k
          · subst e; exact HQ.out
          · exact hno.out j hj (by omega)⟩, ⟨below_step HB.out hb⟩⟩
        case measure => simp [intOf] <;> omega
      · have HQ := Aside0.mk hq
        clear hq
        go_wp2_with fail
        go_ret
        exact ⟨ret_int (findI_yes hlt HQ.out hno.out).symm, below_step HB.out hb⟩
    · go_wp2
      go_ret
      exact ⟨ret_int (findI_no fun j hj => hno.out j hj (by omega)).symm, HB.out⟩
theorem FindG_calls (w : World) (A : Option Addr) (c : Nat) (ps : List DPackage) (A2 : Option Addr) (n2 c2 : Nat) (s : ByteArray) (h : Kd.C kPackage w A ps.length ps) :
   Calls Tryz.prog 79 #[.agg #[.slice A ps.length c, .slice A2 n2 c2], .string s] w (RetB w (.int .i64 (findI ps s))) := by
  have H := Aside0.mk h
  clear h
  have HF := Aside0.mk (Fr2.mk0 w 25 #[.slice A ps.length c, .slice A2 n2 c2] 9 #[.string s])
  go_enter Tryz.func79, Tryz.ntmps79
  go_wp2_with fail
  refine (IndexP_calls _ _ _ _ (Kd.C_alloc (Kd.C_alloc H.out _) _) _ s (blk_cell HF.out.b1 0)).mono ?_
  rintro e w1 ⟨rfl, hb⟩
  go_wp2_with fail
  go_ret
  exact ⟨rfl, below_step HF.out.below hb⟩
theorem ProvidersG_calls (w : World) (A : Option Addr) (c : Nat) (ps : List DPackage) (A2 : Option Addr) (n2 c2 : Nat) (s : ByteArray) (h : Kd.C kPackage w A ps.length ps) (hps : ps.length < 1000000000000) :
   Calls Tryz.prog 80 #[.agg #[.slice A ps.length c, .slice A2 n2 c2], .string s] w (RetI w (prov ps s)) := by
  have hm := Kd.C_max h
  have H := Aside0.mk h
  clear h
  go_enter Tryz.func80, Tryz.ntmps80
  go_wp2
  go_loopw [5, 11] (fun v i wr => ∃ k : Nat, k ≤ ps.length ∧ i = .int .i64 k ∧ Aside0 (OwnI wr w.heap.size v (provTo ps s k)) ∧ Aside0 (Fr1 w 25 #[.slice A ps.length c, .slice A2 n2 c2] wr)) (fun _ i _ => ps.length - (intOf i).toNat)
  case atStart => exact ⟨0, by omega, rfl, ⟨OwnI.nil _ _⟩, ⟨Fr1.mk0 _ _ _⟩⟩
  case round =>
    obtain ⟨k, hk, rfl, HO, HF⟩ := hrel
    by_cases hlt : k < ps.length
    · have hlen := provTo_len ps s k
      have hsucc := provTo_succ ps s k hlt
      obtain ⟨ad, A2', c2', A3, c3, A4, c4, A5, c5, A6, c6, A7, c7, e, h0, h1, h2, h3, h4, h5, h6, h7, l2, g2, l3, g3, l4, g4, l5, g5, l6, g6, l7, g7⟩ := at_Package (Kd.C_below H.out HF.out.below) k hlt
      have G4 := Aside0.mk g4
      subst e
      clear l2 g2 l3 g3 l4 g4 l5 g5 l6 g6 l7 g7
      cases hh : hasS ps[k].provides s
      · rw [hh] at hsucc
        have hsucc := Aside0.mk hsucc
        go_wp2_with fail
        refine (ContainsS_same _ _ _ _ _ (Kd.C_alloc G4.out _)).mono ?_
        rintro e w1 ⟨rfl, rfl⟩
        rw [hh]
        go_wp2_with fail
        go_roundw
        case rel => exact ⟨k + 1, by omega, by go_num, ⟨by rw [hsucc.out]; simpa using HO.out.below (below_alloc (Below.refl _ _) _)⟩, ⟨HF.out.alloc _⟩⟩
        case measure => simp [intOf] <;> omega
      · rw [hh] at hsucc
        have hsucc := Aside0.mk hsucc
        go_wp2_with fail
        refine (ContainsS_same _ _ _ _ _ (Kd.C_alloc G4.out _)).mono ?_
        rintro e w1 ⟨rfl, hw1⟩
        have HO1 : Aside0 (OwnI w1 w.heap.size u5 (provTo ps s k)) := ⟨by rw [hw1]; exact HO.out.below (below_alloc (Below.refl _ _) _)⟩
        have HF1 : Aside0 (Fr1 w 25 #[.slice (some ad) ps.length c, .slice A2 n2 c2] w1) := ⟨by rw [hw1]; exact HF.out.alloc _⟩
        clear hw1
        rw [hh]
        go_wp2_with (first | (at_builtin; refine app_int (w0 := w) w.heap.size rfl (.tmp 20) (.tmp 22) rfl _ (provTo ps s k) k rfl rfl HO1.out HF1.out.below HF1.out.below.size (by omega) ?_; intro v1 w2 hO hB hg))
        go_roundw
        case rel => exact ⟨k + 1, by omega, by go_num, ⟨by rw [hsucc.out]; exact hO⟩, ⟨hB, HO1.out.other hg HF1.out.b0 (by decide)⟩⟩
        case measure => simp [intOf] <;> omega
    · go_wp2
      go_ret
      exact ⟨_, rfl, by have : k = ps.length := by omega
                        subst this; exact HO.out, HF.out.below⟩
theorem TargetsG_calls (w : World) (A : Option Addr) (c : Nat) (ps : List DPackage) (A2 : Option Addr) (n2 c2 : Nat) (s : ByteArray) (h : Kd.C kPackage w A ps.length ps) (hps : ps.length < 1000000000000) :
   Calls Tryz.prog 54 #[.agg #[.slice A ps.length c, .slice A2 n2 c2], .string s] w (RetI w (targets ps s)) := by
  have H := Aside0.mk h
  clear h
  have HF := Aside0.mk (Fr1.mk0 w 25 #[.slice A ps.length c, .slice A2 n2 c2])
  have HT : Aside0 (targets ps s = if 0 ≤ findI ps s then [findI ps s] else prov ps s) := ⟨rfl⟩
  go_enter Tryz.func54, Tryz.ntmps54
  go_wp2_with fail
  refine (FindG_calls _ _ _ _ _ _ _ _ (Kd.C_alloc H.out _)).mono ?_
  rintro e w1 ⟨rfl, hb⟩
  replace HF := Aside0.mk (HF.out.step hb)
  clear hb
  obtain ⟨x0, x1⟩ := cells2 HF.out.b0
  by_cases hf : 0 ≤ findI ps s
  · go_wp2_with fail
    go_ret
    refine ⟨_, rfl, ?_, below_alloc HF.out.below _⟩
    rw [HT.out, if_pos hf]
    exact OwnI.lit1 w1 _ HF.out.below.size _
  · go_wp2_with fail
    refine (ProvidersG_calls _ _ _ _ _ _ _ _ (Kd.C_below H.out HF.out.below) hps).mono ?_
    rintro e w2 ⟨v, rfl, hO, hb⟩
    go_wp2_with fail
    go_ret
    refine ⟨_, rfl, ?_, below_step HF.out.below hb⟩
    rw [HT.out, if_neg (by omega)]
    exact hO.lower HF.out.below.size

end Go.Proofs.YtbahanlnkikpeaaGreat
