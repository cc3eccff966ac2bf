/- BagOnce: true, whatever comes. -/
import Derived.Test.YtaedfieilfmfhaaFill
import Derived.Deep.RegionLaw
namespace Go.Proofs.Ytaedfieilfmfhaa
open Go.RowKit

theorem IsS.reads {w : World} {A : Option Addr} {n : Nat} {xs : List ByteArray} (h : IsS w A n xs) : Reads w w.heap.size 1 A n (xs.map fun x => Value.string x) := by
  refine ⟨by simp [h.1], fun hn => ?_⟩
  obtain ⟨ad, e, hb, hc⟩ := h.2 hn
  refine ⟨ad, e, hb, fun j u hu => ?_⟩
  rw [List.getElem?_map] at hu
  obtain ⟨x, hx, rfl⟩ := Option.map_eq_some_iff.1 hu
  exact hc j x hx

theorem own_fr {w w' : World} {base n : Nat} {e : TypeId} {size : Nat} {v : Value} {xs : List Value} {ks : List Nat} (h : w.ownsRow base e size v n xs) (hF : Fr ks w w') (hk : ∀ j, v.ownBlock = some j → j ∉ ks) : w'.ownsRow base e size v n xs := by
  refine ⟨h.1, ?_⟩
  rcases h.2 with hn | ⟨g, cap, cur, rfl, hb, hgg, rest⟩
  · exact .inl hn
  · exact .inr ⟨g, cap, cur, rfl, hb, (hF.block g (lt_of_block hgg) (hk g rfl)).trans hgg, rest⟩
theorem grown_none {w w' : World} (h : Below w.heap.size w w') : w.grownBy w' none := ⟨h.os, h.tape, h.output, h.size, fun i hi _ => h.block i hi⟩

set_option maxHeartbeats 1000000 in
theorem once_small (A : Option Addr) (n c : Nat) (k : Int) (other : ByteArray) (w : World) (h : n = 0 ∨ 200 < n ∨ 40 < other.size) :
    Calls Try.prog 3 #[.slice A n c, .int .i64 k, .string other] w fun e w' => e = .returned (.bool true) ∧ Below w.heap.size w w' := by
  by_cases h1 : n = 0
  · subst h1
    go_enter Try.func3, Try.ntmps3
    go_wp2_with fail
    refine (awake_any w).mono ?_
    rintro e w1 ⟨rfl, hb⟩
    go_wp2_with fail
    go_ret
    exact ⟨rfl, hb⟩
  · by_cases h2 : 200 < n
    · have e1 : ((n : Int) == 0) = false := by simp; omega
      go_enter Try.func3, Try.ntmps3
      go_wp2_with fail
      refine (awake_any w).mono ?_
      rintro e w1 ⟨rfl, hb⟩
      go_wp2_with fail
      go_ret
      exact ⟨rfl, hb⟩
    · have h3 : 40 < other.size := by omega
      have e1 : ((n : Int) == 0) = false := by simp; omega
      have e2 : n ≤ 200 := by omega
      clear h
      go_enter Try.func3, Try.ntmps3
      go_wp2_with fail
      refine (awake_any w).mono ?_
      rintro e w1 ⟨rfl, hb⟩
      go_wp2_with fail
      go_ret
      exact ⟨rfl, hb⟩

set_option maxRecDepth 100000 in
set_option maxHeartbeats 2000000 in
theorem once_main (A : Option Addr) (c : Nat) (k0 : Int) (l : List ByteArray) (other : ByteArray) (w : World) (h : IsS w A l.length l) (hn : 0 < l.length) (hn2 : l.length ≤ 200) (hc : l.length ≤ c) (ho : other.size ≤ 40) :
    Calls Try.prog 3 #[.slice A l.length c, .int .i64 k0, .string other] w fun e w' => e = .returned (.bool true) ∧ Below w.heap.size w w' := by
  obtain ⟨i0, hi, hz0, hz1, hz2⟩ := info_parts infoES
  obtain ⟨ad, hA, hadb, hcell⟩ := h.2 hn
  subst hA
  have e1 : ((l.length : Int) == 0) = false := beq_eq_false_iff_ne.2 (by omega)
  have H := Lib.hid h
  have HC := Lib.hid hcell
  clear h hcell
  go_enter Try.func3, Try.ntmps3
  go_wp2_with fail
  refine (awake_any w).mono ?_
  rintro e w1 ⟨rfl, hb⟩
  have B1 := Lib.hid hb
  clear hb
  go_wp2_with fail
  refine (filled_any (some ad) c l w1 (H.out.below B1.out) hn2).mono ?_
  rintro e w2 ⟨rfl, hO, hb⟩
  have O2 := Lib.hid hO
  have B2 := Lib.hid hb
  clear hO hb
  go_wp2_with fail
  refine (pick_any k0 (l.length : Int) w2 (by omega) (by omega)).mono ?_
  rintro e w2' ⟨k, hk, rfl, rfl⟩
  have hk' : k < l.length := by omega
  go_wp2_with fail
  refine (putFullO_S _ _ _ _ other w2 O2.out (Nat.le_refl _)).mono ?_
  rintro e w3 ⟨rfl, q, hw⟩
  have O3 := Lib.hid (show OwnS _ w3 _ _ _ by rw [hw]; exact O2.out)
  have B3 := Lib.hid (show Below w1.heap.size w2 w3 by rw [hw]; exact below_drewN (Below.refl _ _) q)
  clear hw
  go_wp2_with fail
  refine (takeO_S _ _ k _ l[k] _ w3 O3.out (List.getElem?_eq_getElem hk')).mono ?_
  rintro e w4 ⟨rfl, hO, hb⟩
  have O4 := Lib.hid hO
  have B4 := Lib.hid hb
  have G4 := Lib.hid hO
  have BW := Lib.hid (show Below w.heap.size w w4 from ((B1.out.trans (B2.out.mono B1.out.size)).trans (B3.out.mono B1.out.size)).trans (hb.mono B1.out.size))
  clear hO hb
  have hs4 : w.heap.size ≤ w4.heap.size := BW.out.size
  have hs14 : w1.heap.size ≤ w4.heap.size := O4.out.size
  have i1 : (k : Int) + 1 ≤ l.length := by omega
  have i2 : k + 1 ≤ l.length := hk'
  have i3 : (l.length : Int) ≤ c := by omega
  have i4 : (k : Int) ≤ c := by omega
  have i5 : k ≤ c := by omega
  have i6 : k + 1 ≤ c := by omega
  have i7 : (0 : Int) ≤ (k : Int) + 1 := by omega
  have i8 : ((k : Int) + 1).toNat = k + 1 := by omega
  have i9 : IntKind.i64.wrap ((k : Int) + 1) = k + 1 := IntWalk.i64_in _ (by omega)
  go_wp2_with fail
  have hrd1 : Reads w4 w4.heap.size 1 (some ad) k ((l.take k).map fun x => Value.string x) := by
    refine ⟨by simp; omega, fun _ => ⟨ad, rfl, by omega, fun j u hu => ?_⟩⟩
    rw [List.getElem?_map] at hu
    obtain ⟨x, hx, rfl⟩ := Option.map_eq_some_iff.1 hu
    rw [List.getElem?_take] at hx
    split at hx
    · exact (BW.out.cell (by rw [block_of_add]; exact hadb)).trans (HC.out j x hx)
    · cases hx
  have hrd2 : ∀ AO : Option Addr, (¬ c = k + 1 → AO = some ⟨ad.block, ad.off + (k + 1), none⟩) → Reads w4 w4.heap.size 1 AO (l.length - (k + 1)) ((l.drop (k + 1)).map fun x => Value.string x) := by
    intro AO hAO
    have hadd : ad.add (k + 1) = ⟨ad.block, ad.off + (k + 1), none⟩ := by simp [Addr.add]
    rw [← hadd] at hAO
    refine ⟨by simp, fun hp => ⟨ad.add (k + 1), hAO (by omega), by rw [block_of_add]; omega, fun j u hu => ?_⟩⟩
    rw [List.getElem?_map] at hu
    obtain ⟨x, hx, rfl⟩ := Option.map_eq_some_iff.1 hu
    rw [List.getElem?_drop] at hx
    rw [add_of_add]
    exact (BW.out.cell (by rw [block_of_add]; exact hadb)).trans (HC.out _ x hx)
  have hst : ∀ ys : List ByteArray, ∀ u ∈ ys.map (fun x => Value.string x), u.oneCell' = true := by
    intro ys u hu
    obtain ⟨x, _, rfl⟩ := List.mem_map.1 hu
    rfl
  have R1 := Lib.hid hrd1
  have R2 := Lib.hid hrd2
  have ST := Lib.hid hst
  clear hrd1 hrd2 hst
  have hm6 : 0 + k + (l.length - (k + 1)) = l.length - 1 := by omega
  go_region_law (first
    | (refine step_append_any _ rfl (.tmp 47) (.tmp 50) 22 rfl w4.heap.size 9 i0 _ 1 16 Try.underlying22 hi hz0 hz1 hz2 rfl (by omega) (.slice (some ⟨w4.heap.size, 0, none⟩) 0 0) 0 [] rfl ((World.ownsRow_made w4 #[] 0 (Nat.le_refl _) (by simp only [maxLen]; omega) (by simp)).drew) w4.heap.size (some ad) k c ((l.take k).map fun x => Value.string x) rfl ((R1.out.alloc (Nat.le_refl _) _).drew) (ST.out _) (by simp only [maxLen]; omega) (by omega) (by simp) ?_; intro v5 w5 hown5 hg5 hat5; have R5 := Lib.hid (fun AO hAO => ((((R2.out AO hAO).alloc (Nat.le_refl _) (.cells #[] 9)).drew).grown hg5 (by simp) (by simp [Value.ownBlock]))); have H5 := Lib.hid hown5; have G5 := Lib.hid hg5; have A5 := Lib.hid hat5; have hs5 : w4.heap.size + 1 ≤ w5.heap.size := (by have := hg5.size; simpa using this); clear hown5 hg5 hat5)
    | (refine step_append_any _ rfl (.tmp 51) (.tmp 55) 22 rfl w4.heap.size 9 i0 _ 1 16 Try.underlying22 hi hz0 hz1 hz2 rfl (by omega) v5 (0 + k) _ rfl H5.out w4.heap.size _ (l.length - (k + 1)) _ ((l.drop (k + 1)).map fun x => Value.string x) rfl (R5.out _ (by intro h; first | rfl | simp [h])) (ST.out _) (by simp only [maxLen]; omega) (by omega) (by omega) ?_; intro v6 w6 hown6 hg6 hat6; rw [hm6] at hown6; obtain ⟨A6, c6, rfl⟩ := own_shape hown6; have H6 := Lib.hid hown6; have G6 := Lib.hid hg6; have Q6 := Lib.hid hat6; clear hown6 hg6 hat6))
  generalize (if c = k + 1 then some ad else some (⟨ad.block, ad.off + (k + 1), none⟩ : Addr)) = AO
  have hB6 : Below w4.heap.size w4 w6 := by
    have h5 : Below w4.heap.size w4 w5 := (((Below.refl _ _).alloc (Nat.le_refl _) _).drew).grown G5.out (by simp) (by simp [Value.ownBlock])
    refine h5.grown G6.out h5.size ?_
    intro j hj
    rcases A5.out with h | h
    · rw [h] at hj; simp [Value.ownBlock] at hj; omega
    · rw [h] at hj; simp at hj; omega
  have hll : (l.eraseIdx k).length = l.length - 1 := List.length_eraseIdx_of_lt hk'
  have hls : [] ++ (l.take k).map (fun x => Value.string x) ++ (l.drop (k + 1)).map (fun x => Value.string x) = (l.eraseIdx k).map fun x => Value.string x := by
    rw [List.nil_append, ← List.map_append, ← List.eraseIdx_eq_take_drop_succ]
  have ho6 : w6.ownsRow w4.heap.size 9 1 (.slice A6 (l.length - 1) c6) (l.length - 1) ((l.eraseIdx k).map fun x => Value.string x) := by
    rw [← hls]; exact H6.out
  have O6 := Lib.hid (O4.out.below hB6)
  have BW6 := Lib.hid (BW.out.trans (hB6.mono hs4))
  have W6 := Lib.hid ho6
  have cl : w6.cell? (ad.add k) = some (.string l[k]) := (BW6.out.cell (by rw [block_of_add]; exact hadb)).trans (HC.out k l[k] (List.getElem?_eq_getElem hk'))
  have LL := Lib.hid hll
  have B6 := Lib.hid hB6
  have hs6 : w4.heap.size ≤ w6.heap.size := hB6.size
  clear hB6 hll hls ho6 hs5
  go_wp2_with fail
  refine (allO_S _ _ _ _ w6 O6.out).mono ?_
  rintro e w7 ⟨A7, c7, rfl, hi7, _, hb7⟩
  have hw7 := (W6.out.kept (grown_none hb7) (by cases (Value.slice A6 (l.length - 1) c6).ownBlock <;> simp))
  have I6 := Lib.hid (IsS.of_own hw7)
  have W7 := Lib.hid hw7
  have O7 := Lib.hid (O6.out.below hb7)
  have I7 := Lib.hid hi7
  have B7 := Lib.hid hb7
  have hs7 : w6.heap.size ≤ w7.heap.size := hb7.size
  clear hi7 hb7 hw7
  go_wp2_with fail
  refine (Same_S A7 A6 _ (l.length - 1) c7 c6 (l.eraseIdx k) (l.eraseIdx k) w7 I7.out I6.out (by rw [LL.out]; omega)).mono ?_
  rintro e w8 ⟨rfl, q8, hw8⟩
  have O8 := Lib.hid (show OwnS _ w8 _ _ _ by rw [hw8]; exact O7.out)
  have W8 := Lib.hid (show w8.ownsRow w4.heap.size 9 1 (.slice A6 (l.length - 1) c6) (l.length - 1) ((l.eraseIdx k).map fun x => Value.string x) by rw [hw8]; exact W7.out)
  have BW8 := Lib.hid (show Below w.heap.size w w8 by rw [hw8]; exact below_drewN (BW6.out.trans (B7.out.mono (by omega))) q8)
  have B48 := Lib.hid (show Below w4.heap.size w4 w8 by rw [hw8]; exact below_drewN (B6.out.trans (B7.out.mono hs6)) q8)
  clear hw8
  have dt : decide (l.eraseIdx k = l.eraseIdx k) = true := by simp
  go_wp2_with fail
  have hltp : (l.eraseIdx k).length < l.length := by rw [LL.out]; omega
  obtain ⟨r4, hB4, _, hr4, _⟩ := G4.out
  have hB48 : Below w4.heap.size w4 w8 := B48.out
  have hB8 : BagS w8 w1.heap.size r4 (l.eraseIdx k) l.length := hB4.kept fun j hj => hB48.block j (by
    rcases hj with rfl | hj
    · exact hB4.lt.1
    · exact (hB4.lt.2 j hj).1)
  have hl4 := hB4.lt
  refine (Put_ok_S _ _ _ _ other w8 hB8 hltp).mono ?_
  rintro e w9 ⟨rfl, hput⟩
  obtain ⟨ho9, hb9⟩ := OwnS.step (Nat.le_refl _) hr4 O8.out.size hput
  obtain ⟨r9, hB9, hF9, hr9⟩ := id hput
  have hs8 : w.heap.size ≤ w8.heap.size := BW8.out.size
  have hown8 := W8.out
  have hw9 : w9.ownsRow w4.heap.size 9 1 (.slice A6 (l.length - 1) c6) (l.length - 1) ((l.eraseIdx k).map fun x => Value.string x) := by
    refine own_fr hown8 hF9 (fun j hj => ?_)
    have h1 := (hown8.lt j hj).1
    rw [List.mem_cons, not_or]
    refine ⟨by omega, fun hm => ?_⟩
    have := (hl4.2 j (by simpa [Option.mem_toList] using hm)).1
    omega
  have hsep : ∀ j, (Value.slice A6 (l.length - 1) c6).ownBlock = some j → j ≠ w1.heap.size ∧ r9 ≠ some j := by
    intro j hj
    have h1 := hown8.lt j hj
    refine ⟨by omega, fun e => ?_⟩
    rcases hr9 with h | ⟨g, h, hg⟩
    · rw [h] at e
      have := (hl4.2 j e).1
      omega
    · rw [h] at e
      cases e
      omega
  have SEP := Lib.hid hsep
  have Bg9 := Lib.hid hB9
  have O9 := Lib.hid ho9
  have BW9 := Lib.hid (BW8.out.trans (hb9.mono B1.out.size))
  have W9 := Lib.hid hw9
  have hs9 : w4.heap.size ≤ w9.heap.size := Nat.le_trans hB48.size hF9.size
  clear ho9 hb9 hw9 hown8 hF9 hB8 hB48 hB4 hr4 hl4 hput hsep hB9 hr9
  go_wp2_with fail
  refine (allO_S _ _ _ _ w9 O9.out).mono ?_
  rintro e w10 ⟨A10, c10, rfl, hi10, hal10, hb10⟩
  have AL10 := Lib.hid hal10
  clear hal10
  have hw10 := (W9.out.kept (grown_none hb10) (by cases (Value.slice A6 (l.length - 1) c6).ownBlock <;> simp))
  have W10 := Lib.hid hw10
  have O10 := Lib.hid (O9.out.below hb10)
  have I10 := Lib.hid hi10
  have B10 := Lib.hid hb10
  have hs10 : w9.heap.size ≤ w10.heap.size := hb10.size
  have hs40 : w4.heap.size ≤ w10.heap.size := by omega
  clear hi10 hb10 hw10
  have hml : l.length - 1 + 1 ≤ maxLen := by simp only [maxLen]; omega
  have hmb : (l.length - 1 + 1) * 16 ≤ 140737488355328 := by omega
  have hrn : Reads (w10.alloc (.cells #[Value.string other] 9)) (w10.heap.size + 1) 1 (some ⟨w10.heap.size, 0, none⟩) 1 [Value.string other] := by
    refine ⟨rfl, fun _ => ⟨_, rfl, by simp, fun j u hu => ?_⟩⟩
    match j, hu with
    | 0, hu => cases hu; rw [Addr.add_lit, World.cell?_alloc_new]; rfl
  have RN := Lib.hid hrn
  clear hrn
  go_wp2_with (at_builtin; refine wpList_append_w _ (by rfl) (.tmp 84) (.tmp 86) 22 rfl w4.heap.size 9 i0 _ 1 16 Try.underlying22 hi hz0 hz1 hz2 rfl (by omega) (.slice A6 (l.length - 1) c6) (l.length - 1) ((l.eraseIdx k).map fun x => Value.string x) rfl (W10.out.alloc _) (w10.heap.size + 1) (some ⟨w10.heap.size, 0, none⟩) 1 1 [Value.string other] rfl RN.out (by simp [Value.oneCell']) hml hmb (Nat.le_trans hs40 (by simp)) ?_; intro v11 w11 hown11 hg11 _; obtain ⟨A11, c11, rfl⟩ := own_shape hown11; have W11 := Lib.hid hown11; have G11 := Lib.hid hg11; clear hown11 hg11)
  have hlen : (l.eraseIdx k ++ [other]).length = (l.eraseIdx k).length + 1 := by simp
  have hB1011 : Below w10.heap.size w10 (w10.alloc (.cells #[Value.string other] 9)) := (Below.refl _ _).alloc (Nat.le_refl _) _
  have hbag11 : BagS w11 w1.heap.size r9 (l.eraseIdx k ++ [other]) l.length := by
    have h10 : BagS w10 w1.heap.size r9 (l.eraseIdx k ++ [other]) l.length := Bg9.out.kept fun j hj => B10.out.block j (by
      rcases hj with rfl | hj
      · exact Bg9.out.lt.1
      · exact (Bg9.out.lt.2 j hj).1)
    refine h10.kept fun j hj => ?_
    have hjl : j < w10.heap.size := by
      rcases hj with rfl | hj
      · exact h10.lt.1
      · exact (h10.lt.2 j hj).1
    refine (G11.out.block j (by simp; omega) (fun e => ?_)).trans (Below.heap_alloc _ _ _ hjl)
    have := SEP.out j e.symm
    rcases hj with h | h
    · exact this.1 h
    · exact this.2 h
  have hi10 : IsS w11 A10 ((l.eraseIdx k).length + 1) (l.eraseIdx k ++ [other]) := by
    have h1 : IsS w10 A10 ((l.eraseIdx k).length + 1) (l.eraseIdx k ++ [other]) := by rw [← hlen]; exact I10.out
    have h2 := h1.below hB1011
    refine h2.keep G11.out.size (fun ad2 hA2 => ?_)
    have hown10 := AL10.out
    rw [hA2] at hown10
    have hlt10 := hown10.lt ad2.block rfl
    refine G11.out.block ad2.block (by simp; omega) (fun e => ?_)
    have := (W9.out.lt ad2.block e.symm).2
    omega
  have hi11 : IsS w11 A11 (l.length - 1 + 1) (l.eraseIdx k ++ [other]) := by
    refine IsS.of_own (base := w4.heap.size) (c := c11) ?_
    rw [List.map_append]
    exact W11.out
  refine (Same_S A10 A11 ((l.eraseIdx k).length + 1) (l.length - 1 + 1) c10 c11 (l.eraseIdx k ++ [other]) (l.eraseIdx k ++ [other]) w11 hi10 hi11 (by rw [LL.out]; omega)).mono ?_
  rintro e w12 ⟨rfl, q12, hw12⟩
  have hbag12 : BagS w12 w1.heap.size r9 (l.eraseIdx k ++ [other]) l.length := by rw [hw12]; exact hbag11.kept fun _ _ => rfl
  have hbb : Below w.heap.size w w12 := by
    rw [hw12]
    refine below_drewN (((BW9.out.trans (B10.out.mono (by omega))).trans (hB1011.mono (by omega))).grown G11.out (by simp; omega) (fun j hj => ?_)) q12
    have := (W9.out.lt j hj).1
    omega
  have hfull : l.length ≤ (l.eraseIdx k ++ [other]).length := by rw [hlen, LL.out]; omega
  have BB := Lib.hid hbb
  have BG := Lib.hid hbag12
  have HFu := Lib.hid hfull
  have dt2 : decide (l.eraseIdx k ++ [other] = l.eraseIdx k ++ [other]) = true := by simp
  clear hlen hB1011 hbag11 hi10 hi11 hw12 hbag12 hbb hfull
  go_wp2_with fail
  refine (Put_full_S _ r9 _ _ other w12 BG.out HFu.out).mono ?_
  rintro e w13 ⟨rfl, q13, rfl⟩
  go_wp2_with fail
  go_ret
  exact ⟨rfl, below_drewN BB.out q13⟩

theorem once_any (A : Option Addr) (n c : Nat) (k0 : Int) (l : List ByteArray) (other : ByteArray) (w : World) (h : IsS w A n l) (hc : n ≤ c) :
    Calls Try.prog 3 #[.slice A n c, .int .i64 k0, .string other] w fun e w' => e = .returned (.bool true) ∧ Below w.heap.size w w' := by
  have hl := h.1
  subst hl
  by_cases h1 : l.length = 0 ∨ 200 < l.length ∨ 40 < other.size
  · exact once_small A l.length c k0 other w h1
  · exact once_main A c k0 l other w h (by omega) (by omega) hc (by omega)
end Go.Proofs.Ytaedfieilfmfhaa
