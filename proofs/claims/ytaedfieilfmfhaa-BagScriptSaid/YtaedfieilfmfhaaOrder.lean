/- BagOrder: true, whatever comes. -/
import Derived.Test.YtaedfieilfmfhaaOnce
namespace Go.Proofs.Ytaedfieilfmfhaa
open Go.RowKit

/-- a slice of bools that reads as bs -/
def IsB (w : World) (A : Option Addr) (n : Nat) (bs : List Bool) : Prop :=
  bs.length = n ∧ (0 < n → ∃ ad, A = some ad ∧ ad.block < w.heap.size ∧ ∀ j x, bs[j]? = some x → w.cell? (ad.add j) = some (.bool x))
theorem IsB.below {w w' : World} {A : Option Addr} {n : Nat} {bs : List Bool} (h : IsB w A n bs) (hb : Below w.heap.size w w') : IsB w' A n bs := by
  refine ⟨h.1, fun hn => ?_⟩
  obtain ⟨ad, hA, hl, hc⟩ := h.2 hn
  exact ⟨ad, hA, Nat.lt_of_lt_of_le hl hb.size, fun j x hx => (hb.cell (by rw [block_of_add]; exact hl)).trans (hc j x hx)⟩

/-- what is left of l between f and t -/
def Mid (l : List ByteArray) (f t : Nat) : List ByteArray := (l.drop f).take (t - f)
theorem mid_len {l : List ByteArray} {f t : Nat} (h : f ≤ t) (ht : t ≤ l.length) : (Mid l f t).length = t - f := by simp [Mid]; omega
theorem mid_front {l : List ByteArray} {f t : Nat} (h : f < t) (ht : t ≤ l.length) : (Mid l f t)[0]? = some (l[f]'(by omega)) := by
  simp only [Mid]
  rw [List.getElem?_take, if_pos (by omega), List.getElem?_drop, Nat.add_zero, List.getElem?_eq_getElem (by omega)]
theorem mid_back {l : List ByteArray} {f t : Nat} (h : f < t) (ht : t ≤ l.length) : (Mid l f t)[t - f - 1]? = some (l[t - 1]'(by omega)) := by
  simp only [Mid]
  rw [List.getElem?_take, if_pos (by omega), List.getElem?_drop, List.getElem?_eq_getElem (by omega)]
  congr 2; omega
theorem mid_front_out (l : List ByteArray) (f t : Nat) : (Mid l f t).eraseIdx 0 = Mid l (f + 1) t := by
  simp only [Mid]
  rw [List.eraseIdx_zero, ← List.drop_one, List.drop_take, List.drop_drop]
  congr 1
theorem mid_back_out {l : List ByteArray} {f t : Nat} (h : f < t) (ht : t ≤ l.length) : (Mid l f t).eraseIdx (t - f - 1) = Mid l f (t - 1) := by
  simp only [Mid]
  rw [List.eraseIdx_eq_take_drop_succ, List.drop_of_length_le (l := List.take (t - f) (List.drop f l)) (by simp; omega), List.append_nil, List.take_take, show min (t - f - 1) (t - f) = t - 1 - f by omega]
theorem mid_none (l : List ByteArray) (f : Nat) : Mid l f f = [] := by simp [Mid]
theorem mid_all (l : List ByteArray) : Mid l 0 l.length = l := by simp [Mid]

theorem order_big (A : Option Addr) (n c : Nat) (A2 : Option Addr) (n2 c2 : Nat) (w : World) (h : 200 < n) :
    Calls Try.prog 4 #[.slice A n c, .slice A2 n2 c2] w fun e w' => e = .returned (.bool true) ∧ Below w.heap.size w w' := by
  go_enter Try.func4, Try.ntmps4
  go_wp2_with fail
  refine (known_any w).mono ?_
  rintro e w1 ⟨rfl, hb⟩
  go_wp2_with fail
  go_ret
  exact ⟨rfl, hb⟩

set_option maxRecDepth 100000 in
set_option maxHeartbeats 2000000 in
theorem order_main (A : Option Addr) (c : Nat) (l : List ByteArray) (A2 : Option Addr) (n2 c2 : Nat) (bs : List Bool) (w : World) (h : IsS w A l.length l) (h2 : IsB w A2 n2 bs) (hn2 : l.length ≤ 200) :
    Calls Try.prog 4 #[.slice A l.length c, .slice A2 n2 c2] w fun e w' => e = .returned (.bool true) ∧ Below w.heap.size w w' := by
  have H := Lib.hid h
  have G := Lib.hid h2
  clear h h2
  go_enter Try.func4, Try.ntmps4
  go_wp2_with fail
  refine (known_any w).mono ?_
  rintro e w1 ⟨rfl, hb⟩
  have B1 := Lib.hid hb
  clear hb
  go_wp2_with fail
  go_loopw [6] (fun i wr => ∃ k : Nat, k ≤ l.length ∧ i = .int .i64 k ∧ wr = w1) (fun i _ => l.length - (intOf i).toNat)
  case atStart => exact ⟨0, by omega, rfl, rfl⟩
  case round =>
    obtain ⟨k, hk, rfl, rfl⟩ := hrel
    by_cases hlt : k < l.length
    · obtain ⟨ad, rfl, hbl, hc⟩ := H.out.2 (by omega)
      have c1 : wr.cell? (ad.add k) = some (.string l[k]) := (B1.out.cell (by rw [block_of_add]; exact hbl)).trans (hc k l[k] (List.getElem?_eq_getElem hlt))
      clear hc hbl
      by_cases hb40 : 40 < l[k].size
      · go_wp2_with fail
        go_ret
        exact ⟨rfl, B1.out⟩
      · have hb40' : l[k].size ≤ 40 := by omega
        go_wp2_with fail
        exact ⟨⟨k + 1, by omega, by go_num, trivial⟩, by simp [intOf]; omega⟩
    · obtain rfl : k = l.length := by omega
      obtain ⟨w1, rfl⟩ : ∃ w1 : World, w1 = wr := ⟨_, rfl⟩
      go_wp2_with fail
      refine (filled_any A c l w1 (H.out.below B1.out) hn2).mono ?_
      rintro e w2 ⟨rfl, ho, hb⟩
      have O2 := Lib.hid ho
      have B2 := Lib.hid (B1.out.trans (hb.mono B1.out.size))
      have hs2 : w.heap.size ≤ w1.heap.size := B1.out.size
      clear ho hb
      go_wp2_with fail
      refine (roomO_S _ _ _ _ w2 O2.out).mono ?_
      rintro e w3 ⟨rfl, q3, hw⟩
      rw [Int.sub_self]
      have O3 := Lib.hid (show OwnS _ w3 _ _ _ by rw [hw]; exact O2.out)
      have B3 := Lib.hid (show Below w.heap.size w w3 by rw [hw]; exact below_drewN B2.out q3)
      clear hw
      go_wp2_with fail
      refine (allO_S _ _ _ _ w3 O3.out).mono ?_
      rintro e w4 ⟨A4, c4, rfl, hi, _, hb⟩
      have O4 := Lib.hid (O3.out.below hb)
      have B4 := Lib.hid (B3.out.trans (hb.mono B3.out.size))
      have I4 := Lib.hid hi
      clear hi hb
      go_wp2_with fail
      refine (Same_S A4 A l.length l.length c4 c l l w4 I4.out (H.out.below B4.out) (by omega)).mono ?_
      rintro e w5 ⟨rfl, q5, hw⟩
      have O5 := Lib.hid (show OwnS _ w5 _ _ _ by rw [hw]; exact O4.out)
      have B5 := Lib.hid (show Below w.heap.size w w5 by rw [hw]; exact below_drewN B4.out q5)
      clear hw
      have dt : decide (l = l) = true := by simp
      go_wp2_with fail
      go_loopw [8, 9, 10] (fun vf vt vi wr => ∃ f t : Nat, f ≤ t ∧ t ≤ l.length ∧ vf = .int .i64 f ∧ vt = .int .i64 t ∧ vi = .int .i64 ((f + (l.length - t) : Nat) : Int) ∧ OwnS w1.heap.size wr w1.heap.size (Mid l f t) l.length ∧ Below w.heap.size w wr) (fun vf vt _ _ => (intOf vt).toNat - (intOf vf).toNat)
      case atStart =>
        refine ⟨0, l.length, by omega, by omega, rfl, rfl, by go_num, ?_, B5.out⟩
        rw [mid_all]; exact O5.out
      case round =>
        obtain ⟨f, t, hf, ht, rfl, rfl, rfl, ho, hb⟩ := hrel
        have OW := Lib.hid ho
        have BW := Lib.hid hb
        clear ho hb
        by_cases hft : f < t
        · obtain ⟨ad, rfl, hadb, hcell⟩ := H.out.2 (by omega)
          have HC := Lib.hid hcell
          clear hcell
          obtain ⟨i, hi⟩ : ∃ i : Nat, f + (l.length - t) = i := ⟨_, rfl⟩
          rw [hi]
          by_cases hil : i < n2
          · obtain ⟨ad2, rfl, hadb2, hcell2⟩ := G.out.2 (by omega)
            have hbl : i < bs.length := by rw [G.out.1]; exact hil
            have cb : wr.cell? (ad2.add i) = some (.bool bs[i]) := (BW.out.cell (by rw [block_of_add]; exact hadb2)).trans (hcell2 i bs[i] (List.getElem?_eq_getElem hbl))
            clear hcell2
            cases hbv : bs[i] with
            | false =>
              rw [hbv] at cb
              go_wp2_with fail
              refine (takeO_S _ _ 0 _ l[f] _ wr OW.out (mid_front hft ht)).mono ?_
              rintro e w6 ⟨rfl, ho, hb⟩
              rw [mid_front_out] at ho
              have O6 := Lib.hid ho
              have B6 := Lib.hid (BW.out.trans (hb.mono hs2))
              clear ho hb
              have c2 : w6.cell? (ad.add (f)) = some (.string l[f]) := (B6.out.cell (by rw [block_of_add]; exact hadb)).trans (HC.out (f) l[f] (List.getElem?_eq_getElem (by omega)))
              go_wp2_with fail
              refine (lenO_S _ _ _ _ w6 O6.out).mono ?_
              rintro e w7 ⟨rfl, rfl⟩
              rw [mid_len (by omega) (by omega), show ((t - (f + 1) : Nat) : Int) = (t : Int) - f - 1 by omega]
              go_wp2_with fail
              exact ⟨⟨(f + 1), t, by omega, by omega, by go_num, by go_num, by go_num, O6.out, B6.out⟩, by simp [intOf]; omega⟩
            | true =>
              rw [hbv] at cb
              by_cases hone : t - 1 = f
              · have k0 : (t : Int) - 1 = f := by omega
                have k1 : ((t : Int) - f - 1) = ((t - f - 1 : Nat) : Int) := by omega
                go_wp2_with fail
                refine (takeO_S _ _ (t - f - 1) _ l[f] _ wr OW.out (by rw [show t - f - 1 = 0 by omega]; exact mid_front hft ht)).mono ?_
                rintro e w6 ⟨rfl, ho, hb⟩
                rw [show t - f - 1 = 0 by omega, mid_front_out] at ho
                have O6 := Lib.hid ho
                have B6 := Lib.hid (BW.out.trans (hb.mono hs2))
                clear ho hb
                have c2 : w6.cell? (ad.add f) = some (.string l[f]) := (B6.out.cell (by rw [block_of_add]; exact hadb)).trans (HC.out f l[f] (List.getElem?_eq_getElem (by omega)))
                go_wp2_with fail
                refine (lenO_S _ _ _ _ w6 O6.out).mono ?_
                rintro e w7 ⟨rfl, rfl⟩
                rw [mid_len (by omega) (by omega), show ((t - (f + 1) : Nat) : Int) = (t : Int) - f - 1 by omega]
                go_wp2_with fail
                exact ⟨⟨(f + 1), t, by omega, by omega, by go_num, by go_num, by go_num, O6.out, B6.out⟩, by simp [intOf]; omega⟩
              · have k0 : ¬ (t : Int) - 1 = f := by omega
                have k1 : ((t : Int) - f - 1) = ((t - f - 1 : Nat) : Int) := by omega
                have k2 : ((t : Int) - 1) = ((t - 1 : Nat) : Int) := by omega
                go_wp2_with fail
                refine (takeO_S _ _ (t - f - 1) _ (l[t - 1]'(by omega)) _ wr OW.out (mid_back hft ht)).mono ?_
                rintro e w6 ⟨rfl, ho, hb⟩
                rw [mid_back_out hft ht] at ho
                have O6 := Lib.hid ho
                have B6 := Lib.hid (BW.out.trans (hb.mono hs2))
                clear ho hb
                have c2 : w6.cell? (ad.add (t - 1)) = some (.string (l[t - 1]'(by omega))) := (B6.out.cell (by rw [block_of_add]; exact hadb)).trans (HC.out (t - 1) (l[t - 1]'(by omega)) (List.getElem?_eq_getElem (by omega)))
                go_wp2_with fail
                refine (lenO_S _ _ _ _ w6 O6.out).mono ?_
                rintro e w7 ⟨rfl, rfl⟩
                rw [mid_len (by omega) (by omega), show (((t - 1) - f : Nat) : Int) = (t : Int) - f - 1 by omega]
                go_wp2_with fail
                exact ⟨⟨f, (t - 1), by omega, by omega, by go_num, by go_num, by go_num, O6.out, B6.out⟩, by simp [intOf]; omega⟩
          · have hil' : n2 ≤ i := by omega
            go_wp2_with fail
            refine (takeO_S _ _ 0 _ l[f] _ wr OW.out (mid_front hft ht)).mono ?_
            rintro e w6 ⟨rfl, ho, hb⟩
            rw [mid_front_out] at ho
            have O6 := Lib.hid ho
            have B6 := Lib.hid (BW.out.trans (hb.mono hs2))
            clear ho hb
            have c2 : w6.cell? (ad.add (f)) = some (.string l[f]) := (B6.out.cell (by rw [block_of_add]; exact hadb)).trans (HC.out (f) l[f] (List.getElem?_eq_getElem (by omega)))
            go_wp2_with fail
            refine (lenO_S _ _ _ _ w6 O6.out).mono ?_
            rintro e w7 ⟨rfl, rfl⟩
            rw [mid_len (by omega) (by omega), show ((t - (f + 1) : Nat) : Int) = (t : Int) - f - 1 by omega]
            go_wp2_with fail
            exact ⟨⟨(f + 1), t, by omega, by omega, by go_num, by go_num, by go_num, O6.out, B6.out⟩, by simp [intOf]; omega⟩
        · obtain rfl : f = t := by omega
          rw [mid_none] at OW
          have e7 : ((l.length : Int) - (0 : Nat)) = l.length := by omega
          go_wp2_with fail
          refine (takeOutO_S _ _ _ _ 0 wr OW.out (.inr (by simp))).mono ?_
          rintro e w6 ⟨rfl, q6, hw⟩
          have O6 := Lib.hid (show OwnS _ w6 _ _ _ by rw [hw]; exact OW.out)
          have B6 := Lib.hid (show Below w.heap.size w w6 by rw [hw]; exact below_drewN BW.out q6)
          clear hw
          go_wp2_with fail
          refine (roomO_S _ _ _ _ w6 O6.out).mono ?_
          rintro e w7 ⟨rfl, q7, hw⟩
          rw [List.length_nil, e7]
          have O7 := Lib.hid (show OwnS _ w7 _ _ _ by rw [hw]; exact O6.out)
          have B7 := Lib.hid (show Below w.heap.size w w7 by rw [hw]; exact below_drewN B6.out q7)
          clear hw
          go_wp2_with fail
          refine (allO_S _ _ _ _ w7 O7.out).mono ?_
          rintro e w8 ⟨A8, c8, rfl, _, _, hb⟩
          have B8 := Lib.hid (B7.out.trans (hb.mono B7.out.size))
          clear hb
          go_wp2_with fail
          go_ret
          exact ⟨rfl, B8.out⟩

theorem order_any (A : Option Addr) (n c : Nat) (l : List ByteArray) (A2 : Option Addr) (n2 c2 : Nat) (bs : List Bool) (w : World) (h : IsS w A n l) (h2 : IsB w A2 n2 bs) :
    Calls Try.prog 4 #[.slice A n c, .slice A2 n2 c2] w fun e w' => e = .returned (.bool true) ∧ Below w.heap.size w w' := by
  have hl := h.1
  subst hl
  by_cases h1 : 200 < l.length
  · exact order_big A l.length c A2 n2 c2 w h1
  · exact order_main A c l A2 n2 c2 bs w h h2 (by omega)
end Go.Proofs.Ytaedfieilfmfhaa
