/- The chapter's examples, as the law's text asks them (awake, BagKnown); Pick; filled. -/
import Derived.Test.YtaedfieilfmfhaaOwnI
import Derived.Test.YtaedfieilfmfhaaOwnS
namespace Go.Proofs.Ytaedfieilfmfhaa
open Go.RowKit

/-- a new list of the call's own, written out -/
theorem isLitI (w : World) (x y : Int) : IsI (w.alloc (.cells #[.int .i64 x, .int .i64 y] 3)) (some ⟨w.heap.size, 0, none⟩) 2 [x, y] :=
  ⟨rfl, fun _ => ⟨_, rfl, by simp, fun j z hz => by
    rw [Addr.add_lit, Nat.zero_add, World.cell?_alloc_new]
    match j, hz with
    | 0, hz => cases hz; rfl
    | 1, hz => cases hz; rfl⟩⟩

set_option maxRecDepth 100000 in
set_option maxHeartbeats 2000000 in
theorem awake_any (w : World) : Calls Try.prog 6 #[] w fun e w' => e = .returned (.bool true) ∧ Below w.heap.size w w' := by
  go_enter Try.func6, Try.ntmps6
  go_wp2_with fail
  refine (newO_I w.heap.size 2 w (by omega) (by omega) (Nat.le_refl _)).mono ?_
  rintro e w1 ⟨rfl, ho, hb⟩
  have H1 := Lib.hid ho
  have B1 := Lib.hid hb
  clear ho hb
  go_wp2_with fail
  refine (putO_I w.heap.size w.heap.size _ _ 7 w1 H1.out (by decide)).mono ?_
  rintro e w2 ⟨rfl, ho, hb⟩
  have H2 := Lib.hid ho
  have B2 := Lib.hid hb
  clear ho hb
  go_wp2_with fail
  refine (putO_I w.heap.size w.heap.size _ _ 8 w2 H2.out (by decide)).mono ?_
  rintro e w3 ⟨rfl, ho, hb⟩
  have H3 := Lib.hid ho
  have B3 := Lib.hid hb
  clear ho hb
  go_wp2_with fail
  refine (putFullO_I w.heap.size w.heap.size _ _ 9 w3 H3.out (by decide)).mono ?_
  rintro e w4 ⟨rfl, q, hw⟩
  have H4 := Lib.hid (show OwnI w.heap.size w4 _ _ _ by rw [hw]; exact H3.out)
  have B4 := Lib.hid (show Below w.heap.size w3 w4 by rw [hw]; exact below_drewN (Below.refl _ _) q)
  clear hw
  go_wp2_with fail
  refine (takeO_I w.heap.size w.heap.size 0 _ 7 _ w4 H4.out rfl).mono ?_
  rintro e w5 ⟨rfl, ho, hb⟩
  have H5 := Lib.hid ho
  have B5 := Lib.hid hb
  clear ho hb
  go_wp2_with fail
  refine (putO_I w.heap.size w.heap.size _ _ 9 w5 H5.out (by decide)).mono ?_
  rintro e w6 ⟨rfl, ho, hb⟩
  have H6 := Lib.hid ho
  have B6 := Lib.hid hb
  clear ho hb
  go_wp2_with fail
  refine (allO_I w.heap.size w.heap.size _ _ w6 H6.out).mono ?_
  rintro e w7 ⟨A, c, rfl, hi, _, hb⟩
  have H7 := Lib.hid (H6.out.below hb)
  have I7 := Lib.hid hi
  have B7 := Lib.hid (hb.mono H6.out.size)
  clear hi hb
  go_wp2_with fail
  refine (Same_I A (some ⟨w7.heap.size, 0, none⟩) 2 2 c 2 [8, 9] [8, 9] (w7.alloc (.cells #[.int .i64 8, .int .i64 9] 3)) (I7.out.below ((Below.refl _ _).alloc (Nat.le_refl _) _)) (isLitI _ _ _) (by decide)).mono ?_
  rintro e w8 ⟨rfl, q, hw⟩
  have hb : Below w7.heap.size w7 w8 := by rw [hw]; exact below_drewN ((Below.refl _ _).alloc (Nat.le_refl _) _) q
  have H8 := Lib.hid (H7.out.below hb)
  have B8 := Lib.hid (hb.mono H7.out.size)
  clear hw hb
  go_wp2_with fail
  refine (roomO_I w.heap.size w.heap.size _ _ w8 H8.out).mono ?_
  rintro e w9 ⟨rfl, q, hw⟩
  have H9 := Lib.hid (show OwnI w.heap.size w9 _ _ _ by rw [hw]; exact H8.out)
  have B9 := Lib.hid (show Below w.heap.size w8 w9 by rw [hw]; exact below_drewN (Below.refl _ _) q)
  clear hw
  go_wp2_with fail
  go_ret
  exact ⟨rfl, ((((((((B1.out.trans B2.out).trans B3.out).trans B4.out).trans B5.out).trans B6.out).trans B7.out).trans B8.out).trans B9.out)⟩

set_option maxRecDepth 100000 in
set_option maxHeartbeats 2000000 in
theorem known_any (w : World) : Calls Try.prog 13 #[] w fun e w' => e = .returned (.bool true) ∧ Below w.heap.size w w' := by
  go_enter Try.func13, Try.ntmps13
  go_wp2_with fail
  refine (newO_I w.heap.size 2 w (by omega) (by omega) (Nat.le_refl _)).mono ?_
  rintro e w1 ⟨rfl, ho, hb⟩
  have H1 := Lib.hid ho
  have B1 := Lib.hid hb
  clear ho hb
  go_wp2_with fail
  refine (putO_I w.heap.size w.heap.size _ _ 8 w1 H1.out (by decide)).mono ?_
  rintro e w2 ⟨rfl, ho, hb⟩
  have H2 := Lib.hid ho
  have B2 := Lib.hid hb
  clear ho hb
  go_wp2_with fail
  refine (putO_I w.heap.size w.heap.size _ _ 9 w2 H2.out (by decide)).mono ?_
  rintro e w3 ⟨rfl, ho, hb⟩
  have H3 := Lib.hid ho
  have B3 := Lib.hid hb
  clear ho hb
  go_wp2_with fail
  refine (atO_I w.heap.size w.heap.size 1 _ 9 _ w3 H3.out rfl).mono ?_
  rintro e w4 ⟨rfl, q, hw⟩
  have H4 := Lib.hid (show OwnI w.heap.size w4 _ _ _ by rw [hw]; exact H3.out)
  have B4 := Lib.hid (show Below w.heap.size w3 w4 by rw [hw]; exact below_drewN (Below.refl _ _) q)
  clear hw
  go_wp2_with fail
  refine (atOutO_I w.heap.size w.heap.size _ _ 2 w4 H4.out (by decide)).mono ?_
  rintro e w5 ⟨rfl, q, hw⟩
  have H5 := Lib.hid (show OwnI w.heap.size w5 _ _ _ by rw [hw]; exact H4.out)
  have B5 := Lib.hid (show Below w.heap.size w4 w5 by rw [hw]; exact below_drewN (Below.refl _ _) q)
  clear hw
  go_wp2_with fail
  refine (takeOutO_I w.heap.size w.heap.size _ _ (-1) w5 H5.out (by decide)).mono ?_
  rintro e w6 ⟨rfl, q, hw⟩
  have H6 := Lib.hid (show OwnI w.heap.size w6 _ _ _ by rw [hw]; exact H5.out)
  have B6 := Lib.hid (show Below w.heap.size w5 w6 by rw [hw]; exact below_drewN (Below.refl _ _) q)
  clear hw
  go_wp2_with fail
  refine (new_bad_I 2001 w6 (by omega)).mono ?_
  rintro e w7 ⟨rfl, hw⟩
  have H7 := Lib.hid (show OwnI w.heap.size w7 _ _ _ by rw [← hw]; exact H6.out)
  have B7 := Lib.hid (show Below w.heap.size w6 w7 by rw [← hw]; exact Below.refl _ _)
  clear hw
  go_wp2_with fail
  refine (awake_any w7).mono ?_
  rintro e w8 ⟨rfl, hb⟩
  have B8 := Lib.hid (hb.mono H7.out.size)
  clear hb
  go_wp2_with fail
  go_ret
  exact ⟨rfl, (((((((B1.out.trans B2.out).trans B3.out).trans B4.out).trans B5.out).trans B6.out).trans B7.out).trans B8.out)⟩

end Go.Proofs.Ytaedfieilfmfhaa
