/- The document's answer (chartularyref06): New, Put, At, Take, as contracts. -/
import Derived.Test.YtaedfieilfmfhaaOnce
namespace Go.Proofs.Ytaedfieilfmfhaa
open Go.RowKit

/-- of what lay in w only ks may have turned; what is there now lies in ks or is new -/
def Step (ks ks' : List Nat) (w w' : World) : Prop := Fr ks w w' ∧ ∀ k ∈ ks', k ∈ ks ∨ w.heap.size ≤ k
theorem Step.drewN (ks : List Nat) (w : World) (n : Nat) : Step ks ks w (w.drewN n) := ⟨(Fr.refl _ _).drewN n, fun _ h => .inl h⟩
theorem Step.same (ks : List Nat) (w : World) : Step ks ks w w := ⟨Fr.refl _ _, fun _ h => .inl h⟩

/-- the document's bag: a room, and numbers -/
def RefF (w : World) (a : Nat) (ks : List Nat) (xs : List Int) (most : Nat) : Prop :=
  ∃ v, Blk w a 55 #[.int .i64 most, v] ∧ w.ownsRow 0 3 1 v xs.length (xs.map fun x => Value.int .i64 x) ∧ ks = a :: v.ownBlock.toList
section
variable {w w' : World} {a most : Nat} {ks js : List Nat} {xs : List Int}
theorem RefF.fr (h : RefF w a ks xs most) (hF : Fr js w w') (hd : ∀ k ∈ ks, k ∉ js) : RefF w' a ks xs most := by
  obtain ⟨v, hb, ho, rfl⟩ := h
  exact ⟨v, hF.blk hb (hd a (by simp)), own_fr ho hF (fun j hj => hd j (by simp [hj])), rfl⟩
theorem RefF.lt (h : RefF w a ks xs most) : ∀ k ∈ ks, k < w.heap.size := by
  obtain ⟨v, hb, ho, rfl⟩ := h
  intro k hk
  rcases List.mem_cons.1 hk with rfl | hk
  · exact hb.lt
  · exact (ho.lt k (by simpa [Option.mem_toList] using hk)).2
end

theorem refnew_bad (n : Int) (w : World) (h : n < 0 ∨ 2000 < n) :
    Calls Try.prog 17 #[.int .i64 n] w fun e w' => e = .returned (.tuple #[.pointer none, .int .i64 2]) ∧ w = w' := by
  rcases h with h | h
  · go_enter Try.func17, Try.ntmps17
    go_wp2
    go_ret2
    exact ⟨rfl, rfl⟩
  · have h0 : ¬ n < 0 := by omega
    go_enter Try.func17, Try.ntmps17
    go_wp2
    go_ret2
    exact ⟨rfl, rfl⟩
theorem refnew_ok (n : Int) (w : World) (h0 : 0 ≤ n) (h : n ≤ 2000) :
    Calls Try.prog 17 #[.int .i64 n] w fun e w' => e = .returned (.tuple #[.pointer (some ⟨w.heap.size, 0, none⟩), .int .i64 0]) ∧ RefF w' w.heap.size [w.heap.size] [] n.toNat ∧ Below w.heap.size w w' := by
  obtain ⟨k, rfl⟩ : ∃ k : Nat, n = k := ⟨n.toNat, by omega⟩
  go_enter Try.func17, Try.ntmps17
  go_wp2
  go_ret2
  exact ⟨rfl, ⟨.slice none 0 0, Blk.new _ _ _, World.ownsRow_nil _ _ _ _, rfl⟩, (Below.refl _ _).alloc (Nat.le_refl _) _⟩

theorem refat_out (a : Nat) (ks : List Nat) (xs : List Int) (most : Nat) (i : Int) (w : World) (h : RefF w a ks xs most) (hi : i < 0 ∨ (xs.length : Int) ≤ i) :
    Calls Try.prog 40 #[.pointer (some ⟨a, 0, none⟩), .int .i64 i] w fun e w' => e = .returned (.tuple #[.int .i64 0, .int .i64 5]) ∧ w = w' := by
  obtain ⟨v, hb, ho, rfl⟩ := h
  obtain ⟨A, c, rfl⟩ := own_shape ho
  have c1 : w.cell? ⟨a, 1, none⟩ = some (.slice A xs.length c) := hb.cell 1
  clear hb ho
  by_cases h0 : i < 0
  · go_enter Try.func40, Try.ntmps40
    go_wp2
    go_ret2
    exact ⟨rfl, rfl⟩
  · have h1 : (xs.length : Int) ≤ i := by omega
    clear hi
    go_enter Try.func40, Try.ntmps40
    go_wp2
    go_ret2
    exact ⟨rfl, rfl⟩
theorem refat_ok (a i : Nat) (ks : List Nat) (xs : List Int) (x : Int) (most : Nat) (w : World) (h : RefF w a ks xs most) (hx : xs[i]? = some x) :
    Calls Try.prog 40 #[.pointer (some ⟨a, 0, none⟩), .int .i64 i] w fun e w' => e = .returned (.tuple #[.int .i64 x, .int .i64 0]) ∧ w = w' := by
  obtain ⟨v, hb, ho, rfl⟩ := h
  have hi := (List.getElem?_eq_some_iff.1 hx).1
  obtain ⟨g, cap, rfl, _, _⟩ := ho.form (by omega)
  have c1 : w.cell? ⟨a, 1, none⟩ = some (.slice (some ⟨g, 0, none⟩) xs.length cap) := hb.cell 1
  have c2 : w.cell? ⟨g, i, none⟩ = some (.int .i64 x) := by
    have := ho.cells (g := g) rfl i (.int .i64 x) (by rw [List.getElem?_map, hx]; rfl)
    simpa [Addr.add_lit] using this
  clear hb ho
  have h0 : ¬ (i : Int) < 0 := by omega
  have h1 : ¬ (xs.length : Int) ≤ i := by omega
  go_enter Try.func40, Try.ntmps40
  go_wp2
  go_ret2
  exact ⟨rfl, rfl⟩

theorem refput_full (a : Nat) (ks : List Nat) (xs : List Int) (most : Nat) (x : Int) (w : World) (h : RefF w a ks xs most) (hf : most ≤ xs.length) :
    Calls Try.prog 38 #[.pointer (some ⟨a, 0, none⟩), .int .i64 x] w fun e w' => e = .returned (.int .i64 8) ∧ ∃ n, w' = w.drewN n := by
  obtain ⟨v, hb, ho, rfl⟩ := h
  obtain ⟨A, c, rfl⟩ := own_shape ho
  have c0 : w.cell? ⟨a, 0, none⟩ = some (.int .i64 most) := hb.cell 0
  have c1 : w.cell? ⟨a, 1, none⟩ = some (.slice A xs.length c) := hb.cell 1
  clear hb ho
  go_enter Try.func38, Try.ntmps38
  go_wp2
  go_quiet (fail)
  go_wp2
  go_ret
  exact ⟨rfl, _, rfl⟩

set_option maxHeartbeats 1000000 in
theorem refput_ok (a : Nat) (ks : List Nat) (xs : List Int) (most : Nat) (x : Int) (w : World) (h : RefF w a ks xs most) (hf : xs.length < most) (hm : most ≤ 2000) :
    Calls Try.prog 38 #[.pointer (some ⟨a, 0, none⟩), .int .i64 x] w fun e w' => e = .returned (.int .i64 0) ∧ ∃ ks', RefF w' a ks' (xs ++ [x]) most ∧ Step ks ks' w w' := by
  obtain ⟨i0, hi, hz0, hz1, hz2⟩ := info_parts infoEI
  obtain ⟨v, hb, ho, rfl⟩ := h
  obtain ⟨A, c, rfl⟩ := own_shape ho
  have c0 : w.cell? ⟨a, 0, none⟩ = some (.int .i64 most) := hb.cell 0
  have c1 : w.cell? ⟨a, 1, none⟩ = some (.slice A xs.length c) := hb.cell 1
  have hne := own_blk_ne ho hb (by decide)
  have HB := Lib.hid hb
  have HO := Lib.hid ho
  have hbl := hb.lt
  have HN := Lib.hid hne
  have hdc : decide (most ≤ xs.length) = false := by simp; omega
  have hrn : ∀ q, Reads ((w.drewN q).alloc (.cells #[.int .i64 x] 3)) (w.heap.size + 1) 1 (some ⟨w.heap.size, 0, none⟩) 1 [Value.int .i64 x] := by
    refine fun q => ⟨rfl, fun _ => ⟨_, rfl, by simp, fun j u hu => ?_⟩⟩
    match j, hu with
    | 0, hu => cases hu; exact World.cell?_alloc_new (w.drewN q) _ _ 0
  have RN := Lib.hid hrn
  clear hb ho hne hrn
  go_enter Try.func38, Try.ntmps38
  go_wp2
  go_quiet (fail)
  go_wp2_with (at_builtin; refine wpList_append_any _ rfl (.tmp 19) (.tmp 21) 51 rfl 0 3 i0 (.int .i64 0) 1 8 Try.underlying51 hi hz0 hz1 hz2 rfl (by omega) (.slice A xs.length c) xs.length (xs.map fun x => Value.int .i64 x) rfl ((show World.ownsRow (World.drewN w _) 0 3 1 _ _ _ from HO.out).alloc _) (w.heap.size + 1) (some ⟨w.heap.size, 0, none⟩) 1 1 [Value.int .i64 x] rfl (RN.out _) (by simp [Value.oneCell']) (by simp only [maxLen]; omega) (by omega) (by omega) ?_; intro v1 w1 hown1 hg1 hat1; obtain ⟨A1, c1', rfl⟩ := own_shape hown1; have hb1 : Blk w1 a 55 #[.int .i64 most, .slice A xs.length c] := (hg1.block a (by simp; omega) (fun e => HN.out e.symm)).trans (((HB.out.drewN _).alloc _) : Blk _ _ _ _); have d1 := hb1.cell 1; have f1 := hb1.frozen 1; have B1 := Lib.hid hb1; have H1 := Lib.hid hown1; have G1 := Lib.hid hg1; have T1 := Lib.hid hat1; clear hb1 hown1 hg1 hat1)
  go_ret
  have hsz : w.heap.size + 1 ≤ w1.heap.size := by have := G1.out.size; simpa using this
  have hne1 : (Value.slice A1 (xs.length + 1) c1').ownBlock ≠ some a := own_blk_ne H1.out B1.out (by decide)
  have hf1 : Fr (a :: (Value.slice A xs.length c).ownBlock.toList) w w1 := (((Fr.refl _ w).drewN _).alloc _).grown G1.out (fun k hk => .inl (by rw [hk]; simp))
  refine ⟨rfl, _, ⟨.slice A1 (xs.length + 1) c1', B1.out.set_ 1 _, ?_, rfl⟩, hf1.setCell (p := ⟨a, 1, none⟩) (.inl (by simp)) _, ?_⟩
  · have h1 := H1.out
    rw [List.length_append, List.map_append]
    exact own_fr h1 ((Fr.refl [a] w1).setCell (p := ⟨a, 1, none⟩) (.inl (by simp)) _) (fun j hj => by simp; rintro rfl; exact hne1 hj)
  · intro k hk
    rcases List.mem_cons.1 hk with rfl | hk
    · exact .inl (by simp)
    · rcases T1.out with h | h
      · rw [h] at hk; exact .inl (by simp [hk])
      · rw [h] at hk
        refine .inr ?_
        have : k = w.heap.size + 1 := by simpa using hk
        omega

theorem reftake_out (a : Nat) (ks : List Nat) (xs : List Int) (most : Nat) (i : Int) (w : World) (h : RefF w a ks xs most) (hi : i < 0 ∨ (xs.length : Int) ≤ i) :
    Calls Try.prog 39 #[.pointer (some ⟨a, 0, none⟩), .int .i64 i] w fun e w' => e = .returned (.tuple #[.int .i64 0, .int .i64 5]) ∧ w = w' := by
  go_enter Try.func39, Try.ntmps39
  go_wp2_with (go_at_call 40; refine (refat_out a ks xs most _ _ h hi).mono ?_; rintro e w' ⟨rfl, rfl⟩)
  go_ret2
  exact ⟨rfl, rfl⟩

theorem own_zero {w : World} {base : Nat} {e : TypeId} {size n : Nat} {v : Value} {xs : List Value} (h : w.ownsRow base e size v n xs) : w.ownsRow 0 e size v n xs := by
  refine ⟨h.1, ?_⟩
  rcases h.2 with h | ⟨g, cap, cur, h1, _, h2⟩
  · exact .inl h
  · exact .inr ⟨g, cap, cur, h1, Nat.zero_le _, h2⟩

set_option maxRecDepth 100000 in
set_option maxHeartbeats 2000000 in
theorem reftake_ok (a i : Nat) (ks : List Nat) (xs : List Int) (x : Int) (most : Nat) (w : World) (h : RefF w a ks xs most) (hx : xs[i]? = some x) (hm : xs.length ≤ 2000) :
    Calls Try.prog 39 #[.pointer (some ⟨a, 0, none⟩), .int .i64 i] w fun e w' => e = .returned (.tuple #[.int .i64 x, .int .i64 0]) ∧ ∃ ks', RefF w' a ks' (xs.eraseIdx i) most ∧ Step ks ks' w w' := by
  obtain ⟨i0, hi, hz0, hz1, hz2⟩ := info_parts infoEI
  have HAT := Lib.hid (refat_ok a i ks xs x most w h hx)
  obtain ⟨v, hb, ho, rfl⟩ := h
  have hk' := (List.getElem?_eq_some_iff.1 hx).1
  obtain ⟨A, c, rfl⟩ := own_shape ho
  obtain ⟨ad, rfl, hadb, hcell⟩ := (Reads.of_own ho).2 (by omega)
  obtain ⟨hnc, hcm⟩ : xs.length ≤ c ∧ c ≤ maxLen := by
    rcases ho.2 with ⟨h, _⟩ | ⟨g, cap, cur, h, _, _, h1, h2, _⟩
    · cases h
    · cases h; exact ⟨h1, h2⟩
  have c1 : w.cell? ⟨a, 1, none⟩ = some (.slice (some ad) xs.length c) := hb.cell 1
  have hbl := hb.lt
  have HB := Lib.hid hb
  have HX := Lib.hid hx
  have HC := Lib.hid hcell
  have i1 : (i : Int) + 1 ≤ xs.length := by omega
  have i2 : i + 1 ≤ xs.length := hk'
  have i3 : (xs.length : Int) ≤ c := by omega
  have i4 : (i : Int) ≤ c := by omega
  have i5 : i ≤ c := by omega
  have i6 : i + 1 ≤ c := by omega
  have i7 : (0 : Int) ≤ (i : Int) + 1 := by omega
  have i8 : ((i : Int) + 1).toNat = i + 1 := by omega
  have i9 : IntKind.i64.wrap ((i : Int) + 1) = i + 1 := IntWalk.i64_in _ (by omega)
  have hrd1 : Reads w w.heap.size 1 (some ad) i ((xs.take i).map fun x => Value.int .i64 x) := by
    refine ⟨by simp; omega, fun _ => ⟨ad, rfl, by omega, fun j u hu => ?_⟩⟩
    rw [List.getElem?_map] at hu
    obtain ⟨y, hy, rfl⟩ := Option.map_eq_some_iff.1 hu
    rw [List.getElem?_take] at hy
    split at hy
    · exact HC.out j _ (by rw [List.getElem?_map, hy]; rfl)
    · cases hy
  have hrd2 : ∀ AO : Option Addr, (¬ c = i + 1 → AO = some ⟨ad.block, ad.off + (i + 1), none⟩) → Reads w w.heap.size 1 AO (xs.length - (i + 1)) ((xs.drop (i + 1)).map fun x => Value.int .i64 x) := by
    intro AO hAO
    have hadd : ad.add (i + 1) = ⟨ad.block, ad.off + (i + 1), none⟩ := by simp [Addr.add]
    rw [← hadd] at hAO
    refine ⟨by simp, fun hp => ⟨ad.add (i + 1), hAO (by omega), by rw [block_of_add]; omega, fun j u hu => ?_⟩⟩
    rw [List.getElem?_map] at hu
    obtain ⟨y, hy, rfl⟩ := Option.map_eq_some_iff.1 hu
    rw [List.getElem?_drop] at hy
    rw [add_of_add]
    exact HC.out _ _ (by rw [List.getElem?_map, hy]; rfl)
  have hst : ∀ ys : List Int, ∀ u ∈ ys.map (fun x => Value.int .i64 x), u.oneCell' = true := by
    intro ys u hu
    obtain ⟨y, _, rfl⟩ := List.mem_map.1 hu
    rfl
  have R1 := Lib.hid hrd1
  have R2 := Lib.hid hrd2
  have ST := Lib.hid hst
  have hm6 : 0 + i + (xs.length - (i + 1)) = xs.length - 1 := by omega
  clear hb ho hx hcell hrd1 hrd2 hst hcm
  go_enter Try.func39, Try.ntmps39
  go_wp2_with (go_at_call 40; refine HAT.out.mono ?_; rintro e w' ⟨rfl, rfl⟩)
  go_region_law (first
    | (refine step_append_any _ rfl (.tmp 17) (.tmp 23) 51 rfl w.heap.size 3 i0 _ 1 8 Try.underlying51 hi hz0 hz1 hz2 rfl (by omega) (.slice (some ⟨w.heap.size, 0, none⟩) 0 0) 0 [] rfl ((World.ownsRow_made w #[] 0 (Nat.le_refl _) (by simp only [maxLen]; omega) (by simp)).drew) w.heap.size (some ad) i c ((xs.take i).map fun x => Value.int .i64 x) rfl ((R1.out.alloc (Nat.le_refl _) _).drew) (ST.out _) (by simp only [maxLen]; omega) (by omega) (by simp) ?_; intro v5 w5 hown5 hg5 hat5; have hb5 : Blk w5 a 55 #[.int .i64 most, .slice (some ad) xs.length c] := ((hg5.block a (by simp; omega) (by simp [Value.ownBlock]; omega)).trans ((HB.out.alloc _).drewN 1)); have d5 := hb5.cell 1; have f5 := hb5.frozen 1; have B5 := Lib.hid hb5; have R5 := Lib.hid (fun AO hAO => ((((R2.out AO hAO).alloc (Nat.le_refl _) (.cells #[] 3)).drew).grown hg5 (by simp) (by simp [Value.ownBlock]))); have H5 := Lib.hid hown5; have G5 := Lib.hid hg5; have A5 := Lib.hid hat5; have hs5 : w.heap.size + 1 ≤ w5.heap.size := (by have := hg5.size; simpa using this); clear hown5 hg5 hat5 hb5)
    | (refine step_append_any _ rfl (.tmp 24) (.tmp 31) 51 rfl w.heap.size 3 i0 _ 1 8 Try.underlying51 hi hz0 hz1 hz2 rfl (by omega) v5 (0 + i) _ rfl H5.out w.heap.size _ (xs.length - (i + 1)) _ ((xs.drop (i + 1)).map fun x => Value.int .i64 x) rfl (R5.out _ (by intro h; first | rfl | simp [h])) (ST.out _) (by simp only [maxLen]; omega) (by omega) (by omega) ?_; intro v6 w6 hown6 hg6 hat6; rw [hm6] at hown6; obtain ⟨A6, c6, rfl⟩ := own_shape hown6; have hb6 : Blk w6 a 55 #[.int .i64 most, .slice (some ad) xs.length c] := (hg6.block a (by omega) (fun e => by rcases A5.out with h | h <;> rw [h] at e <;> simp [Value.ownBlock] at e <;> omega)).trans B5.out; have d6 := hb6.cell 1; have f6 := hb6.frozen 1; have B6 := Lib.hid hb6; have H6 := Lib.hid hown6; have G6 := Lib.hid hg6; have Q6 := Lib.hid hat6; clear hown6 hg6 hat6 hb6))
  all_goals generalize (if c = i + 1 then some ad else some (⟨ad.block, ad.off + (i + 1), none⟩ : Addr)) = AO
  all_goals go_wp2
  all_goals go_ret2
  all_goals
    have hs5' : w.heap.size + 1 ≤ w5.heap.size := by have := G5.out.size; simpa using this
    have hs6' : w5.heap.size ≤ w6.heap.size := G6.out.size
    have hv5 : ∀ k, v5.ownBlock = some k → w.heap.size ≤ k := by
      intro k hk
      rcases A5.out with h | h
      · rw [h] at hk; simp [Value.ownBlock] at hk; omega
      · rw [h] at hk; simp at hk; omega
    have hv6 : ∀ k, (Value.slice A6 (xs.length - 1) c6).ownBlock = some k → w.heap.size ≤ k := by
      intro k hk
      rcases Q6.out with h | h
      · rw [h] at hk; exact hv5 k hk
      · rw [h] at hk; simp at hk; omega
    have hf : Fr (a :: (Value.slice (some ad) xs.length c).ownBlock.toList) w w6 := ((((Fr.refl _ w).alloc _).drew).grown G5.out (fun k hk => .inr (by simp [Value.ownBlock] at hk; omega))).grown G6.out (fun k hk => .inr (hv5 k hk))
    have hll : (xs.eraseIdx i).length = xs.length - 1 := List.length_eraseIdx_of_lt hk'
    have hls : [] ++ (xs.take i).map (fun x => Value.int .i64 x) ++ (xs.drop (i + 1)).map (fun x => Value.int .i64 x) = (xs.eraseIdx i).map fun x => Value.int .i64 x := by
      rw [List.nil_append, ← List.map_append, ← List.eraseIdx_eq_take_drop_succ]
    refine ⟨rfl, _, ⟨.slice A6 (xs.length - 1) c6, B6.out.set_ 1 _, ?_, rfl⟩, hf.setCell (p := ⟨a, 1, none⟩) (.inl (by simp)) _, ?_⟩
    · rw [← hls, hll]
      exact own_fr (own_zero H6.out) ((Fr.refl [a] w6).setCell (p := ⟨a, 1, none⟩) (.inl (by simp)) _) (fun j hj => by have := hv6 j hj; simp; omega)
    · intro k hk
      rcases List.mem_cons.1 hk with rfl | hk
      · exact .inl (by simp)
      · exact .inr (hv6 k (by simpa [Option.mem_toList] using hk))
end Go.Proofs.Ytaedfieilfmfhaa
