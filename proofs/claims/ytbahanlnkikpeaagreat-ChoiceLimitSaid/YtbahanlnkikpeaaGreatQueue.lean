import Derived.Maps.OwnSet
import Derived.Maps.OwnOps
import Derived.Test.YtbahanlnkikpeaaGreatSortG
namespace Go.Proofs.YtbahanlnkikpeaaGreat
open Go.RowKit Go.Proofs.YtbahanlnkikpeaaGreatW.PrintWords Go.Proofs.YtbahanlnkikpeaaGreatW.PrintLast
set_option linter.unusedVariables false
set_option linter.unusedSimpArgs false
section
open Go.RowKit Go.Maps Go.Sort Go.Shelf
/-! A map from numbers to numbers, and what the closure keeps in it. -/
abbrev DM := DataW Unit
def MapI (w : World) (b n : Nat) (D : DM) : Prop := w.ownsMap Tryz.prog 3 (plainElem Tryz.prog 3) b n D
theorem keyedI : Keyed Tryz.prog 3 := int_keyed Tryz.underlying3
theorem zeroI (w : World) : (zeroValue 3).run Tryz.prog w = .ok (.int .i64 0) w := by kernel_rfl
theorem wf_small {x : Int} (h0 : 0 ≤ x) (h1 : x < 1000000) : (Lit.int .i64 x).wf = true := by
  have hm : IntKind.i64.min = -9223372036854775808 := by decide
  have hx : IntKind.i64.max = 9223372036854775807 := by decide
  simp only [Lit.wf, hm, hx, Bool.and_eq_true, decide_eq_true_eq]
  omega
/-- The map counts how often a place was named, at most n times in all; S holds the places named. -/
def Cnt (D : DM) (S : List Int) (n : Nat) : Prop :=
  ∀ x : Int, ∃ c : Nat, D.atKey (.int .i64 x) (.lit (.int .i64 0)) = .lit (.int .i64 c) ∧ c ≤ n ∧ (c = 0 ↔ x ∉ S) ∧ (Maps.has D (.int .i64 x) = true ↔ x ∈ S)
theorem cnt_nil : Cnt (.map []) [] 0 := fun x => ⟨0, rfl, Nat.le_refl _, by simp, by simp [Maps.has]⟩
theorem keylit {x : Int} : WideAt.IsKeyLit (.int .i64 x) := trivial
/-- Named once more. -/
theorem cnt_put {D : DM} {S : List Int} {n : Nat} (hm : IsMap D) (h : Cnt D S n) {x : Int} {c : Nat} (hc : D.atKey (.int .i64 x) (.lit (.int .i64 0)) = .lit (.int .i64 c)) :
    Cnt (D.put (.int .i64 x) (.lit (.int .i64 ((c : Int) + 1)))) (if x ∈ S then S else x :: S) (n + 1) := by
  intro y
  have hS : ∀ z : Int, z ∈ (if x ∈ S then S else x :: S) ↔ z = x ∨ z ∈ S := by
    intro z
    split
    · exact ⟨.inr, fun h => h.elim (fun e => e ▸ (by assumption)) id⟩
    · exact List.mem_cons
  rw [hS]
  by_cases e : y = x
  · subst e
    obtain ⟨c', hc', hn, -, -⟩ := h y
    have : c = c' := by rw [hc] at hc'; simp at hc'; omega
    subst this
    exact ⟨c + 1, by rw [atKey_put_same hm keylit]; simp, by omega, by simp, by rw [has_put_same hm keylit]; simp⟩
  · obtain ⟨c', hc', hn, h2, h3⟩ := h y
    have hne : (Lit.int .i64 y) ≠ (Lit.int .i64 x) := by intro he; injection he; exact e (by assumption)
    exact ⟨c', by rw [atKey_put_other hne]; exact hc', by omega, by rw [h2]; simp [e], by rw [has_put_other hne, h3]; simp [e]⟩
/-- The keys of the map are the places named. -/
theorem cnt_keys {w : World} {b n m : Nat} {D : DM} {S : List Int} (hown : MapI w b m D) (h : Cnt D S n) (hS : S.Nodup) : S.Perm (intKeys D) := by
  refine CollectedI.perm (left := fun _ => false) ⟨hS, fun x => ?_⟩ hown keyedI Tryz.underlying3 (fun _ => rfl)
  obtain ⟨_, _, _, _, h4⟩ := h x
  rw [h4]; simp
theorem keys_calls (m : Nat) (W : World) : Calls Tryz.prog 56 #[.map (some m)] W (fun e w' => e = .returned (.func (.func 83) #[] #[.pointer (some ⟨W.heap.size, 0, none⟩)]) ∧ w' = W.alloc (.cells #[.map (some m)] 125)) :=
  (callsIn_wide (n := 6)).1 (AnyZI.keys_in Tryz.keysA Fence.wide 6 trivial rfl (some m) W)
theorem sortsI (m : Nat) : AnyZI.SortsIn Tryz.prog Tryz.sortedA_ren Fence.wide m :=
  ⟨fun blk off cap ss W hH hblk hsz => callsIn_wide.2 (AnyM.slices_Sort_int Tryz.sortA blk off cap ss W hH hblk hsz),
   fun p cap W => callsIn_wide.2 (AnyM.slices_Sort_int_none Tryz.sortA p cap W)⟩
theorem cnt_sort {ss S : List Int} (h : ss.Perm S) (hS : S.Nodup) {ps : List DPackage} {rs : List DRoot} (hm : ∀ x, x ∈ S ↔ x ∈ clo ps rs) : ss.mergeSort (fun x y => decide (x ≤ y)) = clo ps rs := by
  have tr : ∀ a b c : Int, decide (a ≤ b) = true → decide (b ≤ c) = true → decide (a ≤ c) = true := fun a b c h1 h2 => by simp only [decide_eq_true_eq] at *; exact Int.le_trans h1 h2
  have tot : ∀ a b : Int, (decide (a ≤ b) || decide (b ≤ a)) = true := fun a b => by simp only [Bool.or_eq_true, decide_eq_true_eq]; exact Int.le_total a b
  have hp : (ss.mergeSort (fun x y => decide (x ≤ y))).Perm S := (List.mergeSort_perm ss _).trans h
  have hnd : (ss.mergeSort (fun x y => decide (x ≤ y))).Nodup := hp.nodup_iff.2 hS
  refine sorted_unique ?_ (clo_sorted ps rs) (fun x => by rw [hp.mem_iff, hm])
  have hle := List.pairwise_mergeSort tr tot ss
  exact (hle.and hnd).imp (fun ⟨h1, h2⟩ => by simp only [decide_eq_true_eq] at h1; omega)
/-- slices.Sorted of the map's keys. -/
theorem sorted_calls (m n nn : Nat) (D : DM) (S : List Int) (W : World) (hown : MapI W m nn D) (hc : Cnt D S n) (hS : S.Nodup) (hl : S.length ≤ 1000) (ps : List DPackage) (rs : List DRoot) (hm : ∀ x, x ∈ S ↔ x ∈ clo ps rs) :
    Calls Tryz.prog 55 #[.func (.func 83) #[] #[.pointer (some ⟨W.heap.size, 0, none⟩)]] (W.alloc (.cells #[.map (some m)] 125)) (RetI (W.alloc (.cells #[.map (some m)] 125)) (clo ps rs)) := by
  refine (callsIn_wide (n := 6)).1 ?_
  have hbl := hown.lt
  have hsz : Maps.size D ≤ 1000 := by
    have h1 := (cnt_keys hown hc hS).length_eq
    have h2 : (intKeys D).length = Maps.size D := by
      obtain ⟨es, rfl, -⟩ := hown.entries keyedI
      simp [intKeys, Maps.size]
    omega
  have hseq : SeqGives Fence.wide 3 Tryz.prog 83 #[.pointer (some ⟨W.heap.size, 0, none⟩)] encZ (fun ss => ss.Perm (intKeys D)) (Maps.size D) (W.alloc (.cells #[.map (some m)] 125)) :=
    AnyZI.keys_gives (ρ := Tryz.keysA_ren) { Tryz.keysA with } Fence.wide _ trivial rfl (by omega) W.heap.size m nn D _ (by simp) (by simp) (by
      obtain ⟨es, clock, hb, Ft, hs, hD⟩ := hown
      exact ⟨es, clock, (Below.heap_alloc _ _ m hbl).trans hb, Ft, hs, hD⟩)
  have cS := AnyZI.sorted_in Tryz.sortedA Fence.wide 6 trivial trivial trivial trivial rfl (by omega) (sortsI _) (enters_of Tryz.func82 (by kernel_rfl) rfl) 83 #[.pointer (some ⟨W.heap.size, 0, none⟩)] trivial (enters_of Tryz.func83 (by kernel_rfl) rfl) _ _ (show Maps.size D ≤ maxLen by simp only [maxLen]; omega) (by omega) _ hseq
  change CallsIn _ _ Tryz.prog 55 _ _ _ at cS
  refine cS.mono ?_
  rintro e w' ⟨v, ss, rfl, hp, hrow, hnil, hb⟩
  have hh := cnt_sort (hp.trans (cnt_keys hown hc hS).symm) hS hm
  have hl2 : ss.length = (clo ps rs).length := by rw [← hh, List.length_mergeSort]
  rw [hh, hl2] at hrow
  exact ⟨v, rfl, Kd.R_of_own hrow (fun _ _ => trivial), hb⟩

end
section
open Go.RowKit Go.Maps Go.Sort Go.Shelf
/-! needs.Closure: the queue of names, and what it keeps, in plain Lean. -/
def nsum (ps : List DPackage) (S : List Int) : Nat → Nat
  | 0 => 0
  | k + 1 => nsum ps S k + (if (k : Int) ∈ S then 0 else (ps.getD k zPackage).depends.length)
theorem nsum_new {ps : List DPackage} {S : List Int} {p : Nat} (hp : (p : Int) ∉ S) : ∀ k, nsum ps S k = nsum ps ((p : Int) :: S) k + (if p < k then (ps.getD p zPackage).depends.length else 0)
  | 0 => rfl
  | k + 1 => by
    have ih := nsum_new hp (ps := ps) k
    unfold nsum
    rw [ih]
    by_cases e : k = p
    · subst e
      rw [if_neg hp, if_pos (List.mem_cons_self), if_neg (Nat.lt_irrefl _), if_pos (Nat.lt_succ_self _)]
    · have h1 : ((k : Int) ∈ (p : Int) :: S) ↔ (k : Int) ∈ S := by
        rw [List.mem_cons]
        exact ⟨fun h => h.elim (fun h => absurd h (by omega)) id, .inr⟩
      have h2 : (p < k) ↔ (p < k + 1) := by omega
      by_cases h : (k : Int) ∈ S
      · rw [if_pos h, if_pos (h1.2 h)]
        by_cases h3 : p < k
        · rw [if_pos h3, if_pos (h2.1 h3)]; omega
        · rw [if_neg h3, if_neg (fun h => h3 (h2.2 h))]
      · rw [if_neg h, if_neg (fun hh => h (h1.1 hh))]
        by_cases h3 : p < k
        · rw [if_pos h3, if_pos (h2.1 h3)]; omega
        · rw [if_neg h3, if_neg (fun h => h3 (h2.2 h))]; omega
theorem nodup_le : ∀ (a b : List Int), a.Nodup → (∀ x ∈ a, x ∈ b) → a.length ≤ b.length
  | [], _, _, _ => by simp
  | x :: a, b, hn, hs => by
    rw [List.nodup_cons] at hn
    have hx := hs x List.mem_cons_self
    have ih := nodup_le a (b.erase x) hn.2 (fun y hy => (List.mem_erase_of_ne (by rintro rfl; exact hn.1 hy)).2 (hs y (List.mem_cons_of_mem _ hy)))
    rw [List.length_erase_of_mem hx] at ih
    have := List.length_pos_of_mem hx
    rw [List.length_cons]
    omega
theorem nsum_le {ps : List DPackage} {S : List Int} {B : Nat} (hB : ∀ p ∈ ps, p.depends.length ≤ B) : ∀ k, nsum ps S k ≤ k * B
  | 0 => by simp [nsum]
  | k + 1 => by
    have ih := nsum_le (S := S) hB k
    unfold nsum
    have h1 : (if (k : Int) ∈ S then 0 else (ps.getD k zPackage).depends.length) ≤ B := by
      split
      · omega
      · by_cases hk : k < ps.length
        · rw [getD_at _ _ hk]; exact hB _ (List.getElem_mem hk)
        · rw [List.getD_eq_getElem?_getD, List.getElem?_eq_none (by omega)]; simp [zPackage]
    rw [Nat.add_mul]; omega
/-- The places seen and the names to come. -/
structure QInv (ps : List DPackage) (rs : List DRoot) (S : List Int) (ah : List ByteArray) : Prop where
  nd : S.Nodup
  snd : ∀ x ∈ S, ∃ i : Nat, x = i ∧ Rch ps rs i
  ask : ∀ s ∈ ah, ∀ i : Nat, (i : Int) ∈ targets ps s → Rch ps rs i
  root : ∀ r ∈ rs, r.spec.name ∈ ah ∨ ∀ x ∈ targets ps r.spec.name, x ∈ S
  dep : ∀ k, (hk : k < ps.length) → (k : Int) ∈ S → ∀ d ∈ ps[k].depends, d.on_.name ∈ ah ∨ ∀ x ∈ targets ps d.on_.name, x ∈ S
theorem qinv_start (ps : List DPackage) (rs : List DRoot) : QInv ps rs [] (rs.map (fun r => r.spec.name)) :=
  ⟨List.nodup_nil, by simp, fun s hs i hi => by obtain ⟨r, hr, rfl⟩ := List.mem_map.1 hs; exact .root r i hr hi, fun r hr => .inl (List.mem_map.2 ⟨r, hr, rfl⟩), by simp⟩
theorem qinv_visit {ps : List DPackage} {rs : List DRoot} {S : List Int} {s : ByteArray} {ah : List ByteArray} (h : QInv ps rs S (s :: ah)) {p : Nat} (hp : p < ps.length) (ht : (p : Int) ∈ targets ps s) (hn : (p : Int) ∉ S) :
    QInv ps rs ((p : Int) :: S) (s :: (ah ++ ps[p].depends.map (fun d => d.on_.name))) := by
  have hr : Rch ps rs p := h.ask s (by simp) p ht
  have hin : ∀ t, t ∈ s :: ah → t ∈ s :: (ah ++ ps[p].depends.map (fun d => d.on_.name)) := by
    intro t ht
    rcases List.mem_cons.1 ht with e | e
    · exact e ▸ List.mem_cons_self
    · exact List.mem_cons_of_mem _ (List.mem_append_left _ e)
  refine ⟨List.nodup_cons.2 ⟨hn, h.nd⟩, ?_, ?_, ?_, ?_⟩
  · intro x hx
    rcases List.mem_cons.1 hx with e | e
    · exact ⟨p, e, hr⟩
    · exact h.snd x e
  · intro t ht' i hi
    rcases List.mem_cons.1 ht' with e | e
    · exact h.ask t (e ▸ List.mem_cons_self) i hi
    · rcases List.mem_append.1 e with e | e
      · exact h.ask t (List.mem_cons_of_mem _ e) i hi
      · obtain ⟨d, hd, rfl⟩ := List.mem_map.1 e
        exact .step p i d hp hr hd hi
  · intro r hr'
    rcases h.root r hr' with e | e
    · exact .inl (hin _ e)
    · exact .inr fun x hx => List.mem_cons_of_mem _ (e x hx)
  · intro k hk hkS d hd
    by_cases e : k = p
    · subst e
      exact .inl (List.mem_cons_of_mem _ (List.mem_append_right _ (List.mem_map.2 ⟨d, hd, rfl⟩)))
    · rcases List.mem_cons.1 hkS with e' | e'
      · exact absurd e' (by omega)
      · rcases h.dep k hk e' d hd with e | e
        · exact .inl (hin _ e)
        · exact .inr fun x hx => List.mem_cons_of_mem _ (e x hx)
theorem qinv_pop {ps : List DPackage} {rs : List DRoot} {S : List Int} {s : ByteArray} {ah : List ByteArray} (h : QInv ps rs S (s :: ah)) (hs : ∀ x ∈ targets ps s, x ∈ S) : QInv ps rs S ah := by
  refine ⟨h.nd, h.snd, fun t ht => h.ask t (List.mem_cons_of_mem _ ht), ?_, ?_⟩
  · intro r hr
    rcases h.root r hr with e | e
    · rcases List.mem_cons.1 e with e | e
      · exact .inr (e ▸ hs)
      · exact .inl e
    · exact .inr e
  · intro k hk hkS d hd
    rcases h.dep k hk hkS d hd with e | e
    · rcases List.mem_cons.1 e with e | e
      · exact .inr (e ▸ hs)
      · exact .inl e
    · exact .inr e
theorem qinv_end {ps : List DPackage} {rs : List DRoot} {S : List Int} (h : QInv ps rs S []) (x : Int) : x ∈ S ↔ x ∈ clo ps rs := by
  rw [mem_clo]
  refine ⟨h.snd x, ?_⟩
  rintro ⟨i, rfl, hi⟩
  refine rch_closed (p := fun k => (k : Int) ∈ S) ?_ hi
  rintro j (⟨r, hr, hj⟩ | ⟨k, hk, hkS, d, hd, hj⟩)
  · rcases h.root r hr with e | e
    · cases e
    · exact e _ hj
  · rcases h.dep k hk hkS d hd with e | e
    · cases e
    · exact e _ hj
theorem qinv_len {ps : List DPackage} {rs : List DRoot} {S : List Int} {ah : List ByteArray} (h : QInv ps rs S ah) : S.length ≤ ps.length := by
  have h1 : S.Nodup := h.nd
  have h2 : S ⊆ (List.range ps.length).map Int.ofNat := by
    intro x hx
    obtain ⟨i, rfl, hi⟩ := h.snd x hx
    exact List.mem_map.2 ⟨i, List.mem_range.2 (rch_lt hi), rfl⟩
  have h3 := nodup_le _ _ h1 (fun x hx => h2 hx)
  rwa [List.length_map, List.length_range] at h3
/-- The queue: never in the map's block m. -/
def OwnQ (m : Nat) (w : World) (B : Nat) (v : Value) (xs : List ByteArray) : Prop := Kd.Q Kd.string 9 w B (fun k => k ≠ m) v xs
theorem OwnQ.of {w : World} {B : Nat} {v : Value} {xs : List ByteArray} (h : OwnS w B v xs) : OwnQ w.heap.size w B v xs := by
  refine Kd.Q_mono (Kd.Q_bound (Kd.Q_of_R h)) (fun k hk => ?_)
  have := hk.2.2.1
  omega
theorem OwnQ.below {m : Nat} {w w1 : World} {B : Nat} {v : Value} {xs : List ByteArray} (h : OwnQ m w B v xs) (hb : Below w.heap.size w w1) : OwnQ m w1 B v xs := Kd.Q_below h hb
theorem OwnQ.grown {m : Nat} {w w1 : World} {B : Nat} {v : Value} {xs : List ByteArray} (h : OwnQ m w B v xs) (hg : w.grownBy w1 (some m)) : OwnQ m w1 B v xs := Kd.Q_grown h hg (fun k hk e => hk (by injection e))
theorem OwnQ.other {m : Nat} {w w1 : World} {B : Nat} {v : Value} {xs : List ByteArray} (h : OwnQ m w B v xs) (hg : w.grownBy w1 v.ownBlock) {g t : Nat} {cs : Array Value} (hb : w.heap[g]? = some (.cells cs t (0, 0))) (ht : 9 ≠ t) : w1.heap[g]? = some (.cells cs t (0, 0)) :=
  blk_grown hb hg (Kd.Q_ne h hb ht)
theorem OwnQ.map {m n : Nat} {D : DM} {w w1 : World} {B : Nat} {v : Value} {xs : List ByteArray} (h : OwnQ m w B v xs) (hg : w.grownBy w1 v.ownBlock) (hm : MapI w m n D) : MapI w1 m n D :=
  World.ownsMap.kept hm hg (fun e => h.1 m e.symm rfl)
section
variable {ops : Array Oper} {rest : List Oper} {o : Oper} {a : Act} {Q : Exit → Act → World → Prop}
theorem app_q {w0 W : World} (m base : Nat) (hgd : o.guard = none) (s x : Operand) (ho : o.op = .call { callee := .builtin .append, args := #[s, x], argTypes := #[39, 39] })
    (n : Nat) (v : Value) (xs : List ByteArray) (p : ByteArray) (hs : a.eval s = v) (hx : a.eval x = .slice (some ⟨n, 0, none⟩) 1 1) (hn : n = W.heap.size) (HO : OwnQ m W base v xs) (hm : m < W.heap.size) (HB : Below base w0 W) (hbase : base ≤ W.heap.size) (hl : xs.length < 1000000000000)
    (h : ∀ v1 w1, OwnQ m w1 base v1 (xs ++ [p]) → Below base w0 w1 → W.grownBy w1 v.ownBlock → wpList Tryz.prog ops Q rest (a.put o.dst v1) w1) :
    wpList Tryz.prog ops Q (o :: rest) a (W.alloc (.cells #[.string p] 9)) := by
  subst hn
  exact Kd.Q_append Kd.string (w0 := w0) base hgd s x 39 9 (.string ⟨#[]⟩) 16 ho Tryz.underlying39 info_str rfl (by decide) (by omega) v xs p [.string p] (fun k => k ≠ m) (fun _ => False) hs hx rfl (fun _ hk => hk.elim) (fun k hk => by omega) HO HB hbase (by omega) (fun v1 w1 h1 h2 h3 _ => h v1 w1 h1 h2 h3)
theorem app_str_at {w0 W : World} (base : Nat) (hgd : o.guard = none) (s x : Operand) (ho : o.op = .call { callee := .builtin .append, args := #[s, x], argTypes := #[39, 39] })
    (n : Nat) (v : Value) (xs : List ByteArray) (p : ByteArray) (hs : a.eval s = v) (hx : a.eval x = .slice (some ⟨n, 0, none⟩) 1 1) (hn : n = W.heap.size) (HO : OwnS W base v xs) (HB : Below base w0 W) (hbase : base ≤ W.heap.size) (hl : xs.length < 1000000000000)
    (h : ∀ v1 w1, OwnS w1 base v1 (xs ++ [p]) → Below base w0 w1 → W.grownBy w1 v.ownBlock → wpList Tryz.prog ops Q rest (a.put o.dst v1) w1) :
    wpList Tryz.prog ops Q (o :: rest) a (W.alloc (.cells #[.string p] 9)) := by
  subst hn
  exact app_str base hgd s x ho v xs p hs hx HO HB hbase hl h
end
theorem MapI.look {W : World} {m n : Nat} {D : DM} (hown : MapI W m n D) {x c : Int} (hx : (Lit.int .i64 x).wf = true) (hc : D.atKey (.int .i64 x) (.lit (.int .i64 0)) = .lit (.int .i64 c)) :
    (Instr.lookup 125 (.map (some m)) (.int .i64 x) false).run Tryz.prog W = .ok (.int .i64 c) W := by
  obtain ⟨c', hrun, hat, -⟩ := World.ownsMap.lookup_int hown keyedI Tryz.underlying125 Tryz.underlying3 (zeroI W) (keyOf_int_mk Tryz.underlying3 hx)
  rw [hc] at hat
  have : c = c' := by simpa using hat
  rw [hrun, this]
theorem MapI.upd {W : World} {m n : Nat} {D : DM} (hown : MapI W m n D) (hn : n < 1000000) {x c : Int} (hx : (Lit.int .i64 x).wf = true) (hc : (Lit.int .i64 c).wf = true) :
    ∃ W', (Instr.mapUpdate 125 (.map (some m)) (.int .i64 x) (.int .i64 c)).run Tryz.prog W = .ok () W' ∧ MapI W' m (n + 1) (D.put (.int .i64 x) (.lit (.int .i64 c))) ∧ W.grownBy W' (some m) :=
  World.ownsMap.update hown keyedI Tryz.underlying125 (by simp only [maxLen]; omega) (keyOf_int_mk Tryz.underlying3 hx) (plainElem_int Tryz.underlying3 hc)
theorem Fr2.grown {w W W' : World} {t t' m : Nat} {bx by_ : Array Value} (h : Fr2 w t bx t' by_ W) (hg : W.grownBy W' (some m)) (hm : w.heap.size + 1 < m) : Fr2 w t bx t' by_ W' :=
  ⟨h.below.grown hg h.below.size (fun k hk => by injection hk with hk; omega), blk_grown h.b0 hg (fun e => by injection e with e; omega), blk_grown h.b1 hg (fun e => by injection e with e; omega)⟩
theorem prov_len {ps : List DPackage} {s : ByteArray} : (prov ps s).length ≤ ps.length := by
  unfold prov
  exact provTo_len ps s ps.length
theorem targets_len {ps : List DPackage} {s : ByteArray} : (targets ps s).length ≤ ps.length := by
  unfold targets
  split
  · have := findI_lt ps s
    simp only [List.length_singleton]
    omega
  · exact prov_len
/-- The places that a name means: a row of one's own, never in the map's block. -/
def OwnT (m : Nat) (w : World) (B : Nat) (v : Value) (xs : List Int) : Prop := Kd.Q (Kd.int .i64) 3 w B (fun k => k ≠ m) v xs
theorem OwnT.of {m : Nat} {w : World} {B B' : Nat} {v : Value} {xs : List Int} (h : OwnI w B v xs) (hm : m < B) (hB : B' ≤ B) : OwnT m w B' v xs := by
  refine Kd.Q_lower (Kd.Q_mono (Kd.Q_bound (Kd.Q_of_R h)) (fun k hk => ?_)) hB
  have := hk.2.1
  omega
theorem OwnT.below {m : Nat} {w w1 : World} {B : Nat} {v : Value} {xs : List Int} (h : OwnT m w B v xs) (hb : Below w.heap.size w w1) : OwnT m w1 B v xs := Kd.Q_below h hb
theorem OwnT.grown {m : Nat} {w w1 : World} {B : Nat} {v : Value} {xs : List Int} (h : OwnT m w B v xs) (hg : w.grownBy w1 (some m)) : OwnT m w1 B v xs := Kd.Q_grown h hg (fun k hk e => hk (by injection e))
theorem OwnT.over {m : Nat} {w w1 : World} {B B' : Nat} {v u : Value} {xs : List Int} {ys : List ByteArray} (h : OwnT m w B v xs) (hq : OwnQ m w B' u ys) (hg : w.grownBy w1 u.ownBlock) : OwnT m w1 B v xs := by
  cases hu : u.ownBlock with
  | none => exact Kd.Q_grown h hg (fun k _ => by rw [hu]; simp)
  | some g =>
    obtain ⟨_, inner, hrow, _⟩ := hq
    obtain ⟨_, cells, hb⟩ := q_typed hrow g hu
    exact Kd.Q_mono (Kd.Q_grown (Kd.Q_types h hb (by intro q hq; simp [Kd.int, Kd.scalar] at hq; subst hq; decide)) hg (fun k hk e => hk.2 (by rw [hu] at e; injection e))) (fun _ h => h.1)
theorem OwnT.reads {m : Nat} {w : World} {B : Nat} {A : Option Addr} {n c : Nat} {xs : List Int} (h : OwnT m w B (.slice A n c) xs) : Kd.C (Kd.int .i64) w A xs.length xs := (Kd.Q_reads' h).2.2

end
end Go.Proofs.YtbahanlnkikpeaaGreat
