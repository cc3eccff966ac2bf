/- does: the law's act of both. -/
import Derived.Test.YtaedfieilfmfhaaTwo
import Derived.Deep.RegionHeld3
namespace Go.Proofs.Ytaedfieilfmfhaa
open Go.RowKit

def Did (base : Nat) (b a room : Nat) (w : World) (e : Ending) (w' : World) : Prop := e = .returned (.bool true) ∧ ∃ xs', Two [] base w' b a xs' xs' room ∧ Below base w w'

/-- the act's box -/
theorem box_cells {g : Nat} {w : World} {k n : Int} (h : Blk w g 45 #[.int .i64 k, .int .i64 n]) : w.cell? ⟨g, 0, none⟩ = some (.int .i64 k) ∧ w.cell? ⟨g, 1, none⟩ = some (.int .i64 n) := ⟨h.cell 0, h.cell 1⟩

theorem Two.drew {K : List Nat} {base : Nat} {w : World} {b a room : Nat} {xs ys : List Int} (h : Two K base w b a xs ys room) : Two K base w.drew b a xs ys room := h
theorem Kept.drew {K : List Nat} {base : Nat} {w w' : World} (h : Kept K base w w') : Kept K base w w'.drew := ⟨h.1.drew, h.2⟩
theorem Kept.of_drew {K : List Nat} {base : Nat} {w w' : World} (h : Kept K base w.drew w') : Kept K base w w' := ⟨(Below.refl _ _).drew.trans h.1, h.2⟩

set_option maxRecDepth 100000 in
set_option maxHeartbeats 2000000 in
theorem does_put0 (base b a room : Nat) (xs : List Int) (n : Int) (w : World) (h : Two [] base w b a xs xs room) :
    Calls Try.prog 21 #[.pointer (some ⟨b, 0, none⟩), .pointer (some ⟨a, 0, none⟩), .agg #[.int .i64 0, .int .i64 n]] w (Did base b a room w) := by
  have h0 := h.also (.cells #[.int .i64 0, .int .i64 n] 45)
  have hb0 : Blk (w.alloc (.cells #[.int .i64 0, .int .i64 n] 45)) w.heap.size 45 #[.int .i64 0, .int .i64 n] := Blk.new _ _ _
  have hbel : Below base w (w.alloc (.cells #[.int .i64 0, .int .i64 n] 45)) := (Below.refl _ _).alloc h.size _
  have H0 := Lib.hid h0
  have B0 := Lib.hid hb0
  have E0 := Lib.hid hbel
  clear h0 hb0 hbel h
  go_enter Try.func21, Try.ntmps21
  go_wp2_with fail
  have b1 := (box_cells B0.out).2
  go_region_held3 (fun w' => w'.cell? ⟨w.heap.size, 1, none⟩ = some (.int .i64 n)) (go_keep)
    (first | (go_at_call 19; refine (t_bput n H0.out.drew).mono ?_; rintro e w1 ⟨rfl, ht, hk⟩; have c1 := (box_cells (show Blk w1 w.heap.size 45 #[.int .i64 0, .int .i64 n] from (hk.2 _ (by simp)).trans B0.out)).2; have T1 := Lib.hid ht; have K1 := Lib.hid hk; clear ht hk) | (go_at_call 38; refine (t_rput n T1.out).mono ?_; rintro e w2 ⟨rfl, ht, hk⟩; have c2 := (box_cells (show Blk w2 w.heap.size 45 #[.int .i64 0, .int .i64 n] from (hk.2 _ (by simp)).trans ((K1.out.2 _ (by simp)).trans B0.out))).2; have T2 := Lib.hid ht; have K2 := Lib.hid hk; clear ht hk))
  go_wp2
  go_ret
  exact ⟨rfl, _, T2.out.less (by simp), E0.out.trans (K1.out.of_drew.1.trans K2.out.1)⟩

set_option maxRecDepth 100000 in
set_option maxHeartbeats 2000000 in
theorem does_put1 (base b a room : Nat) (xs : List Int) (n : Int) (w : World) (h : Two [] base w b a xs xs room) :
    Calls Try.prog 21 #[.pointer (some ⟨b, 0, none⟩), .pointer (some ⟨a, 0, none⟩), .agg #[.int .i64 1, .int .i64 n]] w (Did base b a room w) := by
  have h0 := h.also (.cells #[.int .i64 1, .int .i64 n] 45)
  have hb0 : Blk (w.alloc (.cells #[.int .i64 1, .int .i64 n] 45)) w.heap.size 45 #[.int .i64 1, .int .i64 n] := Blk.new _ _ _
  have hbel : Below base w (w.alloc (.cells #[.int .i64 1, .int .i64 n] 45)) := (Below.refl _ _).alloc h.size _
  have H0 := Lib.hid h0
  have B0 := Lib.hid hb0
  have E0 := Lib.hid hbel
  clear h0 hb0 hbel h
  go_enter Try.func21, Try.ntmps21
  go_wp2_with fail
  have b1 := (box_cells B0.out).2
  go_region_held3 (fun w' => w'.cell? ⟨w.heap.size, 1, none⟩ = some (.int .i64 n)) (go_keep)
    (first | (go_at_call 19; refine (t_bput n H0.out.drew).mono ?_; rintro e w1 ⟨rfl, ht, hk⟩; have c1 := (box_cells (show Blk w1 w.heap.size 45 #[.int .i64 1, .int .i64 n] from (hk.2 _ (by simp)).trans B0.out)).2; have T1 := Lib.hid ht; have K1 := Lib.hid hk; clear ht hk) | (go_at_call 38; refine (t_rput n T1.out).mono ?_; rintro e w2 ⟨rfl, ht, hk⟩; have c2 := (box_cells (show Blk w2 w.heap.size 45 #[.int .i64 1, .int .i64 n] from (hk.2 _ (by simp)).trans ((K1.out.2 _ (by simp)).trans B0.out))).2; have T2 := Lib.hid ht; have K2 := Lib.hid hk; clear ht hk))
  go_wp2
  go_ret
  exact ⟨rfl, _, T2.out.less (by simp), E0.out.trans (K1.out.of_drew.1.trans K2.out.1)⟩

set_option maxRecDepth 100000 in
set_option maxHeartbeats 2000000 in
theorem does_take (base b a room : Nat) (xs : List Int) (n : Int) (w : World) (h : Two [] base w b a xs xs room) :
    Calls Try.prog 21 #[.pointer (some ⟨b, 0, none⟩), .pointer (some ⟨a, 0, none⟩), .agg #[.int .i64 2, .int .i64 n]] w (Did base b a room w) := by
  have h0 := h.also (.cells #[.int .i64 2, .int .i64 n] 45)
  have hb0 : Blk (w.alloc (.cells #[.int .i64 2, .int .i64 n] 45)) w.heap.size 45 #[.int .i64 2, .int .i64 n] := Blk.new _ _ _
  have hbel : Below base w (w.alloc (.cells #[.int .i64 2, .int .i64 n] 45)) := (Below.refl _ _).alloc h.size _
  have hle : xs.length ≤ 2000 := by have := h.le; omega
  have H0 := Lib.hid h0
  have B0 := Lib.hid hb0
  have E0 := Lib.hid hbel
  clear h0 hb0 hbel h
  have b1 := (box_cells B0.out).2
  go_enter Try.func21, Try.ntmps21
  go_wp2_with fail
  refine (t_btake n H0.out).mono ?_
  rintro e w1 ⟨rfl, ht, hk⟩
  have c1 := (box_cells (show Blk w1 w.heap.size 45 #[.int .i64 2, .int .i64 n] from (hk.2 _ (by simp)).trans B0.out)).2
  have T1 := Lib.hid ht
  have K1 := Lib.hid hk
  clear ht hk
  go_wp2_with fail
  refine (t_rtake n T1.out hle).mono ?_
  rintro e w2 ⟨rfl, ht, hk⟩
  have T2 := Lib.hid ht
  have K2 := Lib.hid hk
  clear ht hk
  go_wp2_with fail
  go_ret
  exact ⟨rfl, _, T2.out.less (by simp), E0.out.trans (K1.out.1.trans K2.out.1)⟩

set_option maxRecDepth 100000 in
set_option maxHeartbeats 2000000 in
theorem does_at (base b a room : Nat) (xs : List Int) (n : Int) (w : World) (h : Two [] base w b a xs xs room) :
    Calls Try.prog 21 #[.pointer (some ⟨b, 0, none⟩), .pointer (some ⟨a, 0, none⟩), .agg #[.int .i64 3, .int .i64 n]] w (Did base b a room w) := by
  have h0 := h.also (.cells #[.int .i64 3, .int .i64 n] 45)
  have hb0 : Blk (w.alloc (.cells #[.int .i64 3, .int .i64 n] 45)) w.heap.size 45 #[.int .i64 3, .int .i64 n] := Blk.new _ _ _
  have hbel : Below base w (w.alloc (.cells #[.int .i64 3, .int .i64 n] 45)) := (Below.refl _ _).alloc h.size _
  have H0 := Lib.hid h0
  have B0 := Lib.hid hb0
  have E0 := Lib.hid hbel
  clear h0 hb0 hbel h
  have b1 := (box_cells B0.out).2
  go_enter Try.func21, Try.ntmps21
  go_wp2_with fail
  refine (t_bat n H0.out).mono ?_
  rintro e w1 ⟨rfl, ht, hk⟩
  have c1 := (box_cells (show Blk w1 w.heap.size 45 #[.int .i64 3, .int .i64 n] from (hk.2 _ (by simp)).trans B0.out)).2
  have T1 := Lib.hid ht
  have K1 := Lib.hid hk
  clear ht hk
  go_wp2_with fail
  refine (t_rat n T1.out).mono ?_
  rintro e w2 ⟨rfl, ht, hk⟩
  have T2 := Lib.hid ht
  have K2 := Lib.hid hk
  clear ht hk
  go_wp2_with fail
  go_ret
  exact ⟨rfl, _, T2.out.less (by simp), E0.out.trans (K1.out.1.trans K2.out.1)⟩

set_option maxRecDepth 100000 in
set_option maxHeartbeats 2000000 in
theorem does_other (base b a room : Nat) (xs : List Int) (k : Int) (n : Int) (w : World) (h : Two [] base w b a xs xs room) (h0 : ¬ k = 0) (h1 : ¬ k = 1) (h2 : ¬ k = 2) (h3 : ¬ k = 3) :
    Calls Try.prog 21 #[.pointer (some ⟨b, 0, none⟩), .pointer (some ⟨a, 0, none⟩), .agg #[.int .i64 k, .int .i64 n]] w (Did base b a room w) := by
  have h9 := h.also (.cells #[.int .i64 k, .int .i64 n] 45)
  have hbel : Below base w (w.alloc (.cells #[.int .i64 k, .int .i64 n] 45)) := (Below.refl _ _).alloc h.size _
  have H0 := Lib.hid h9
  have E0 := Lib.hid hbel
  have e0 : (k == 0) = false := by simpa using h0
  have e1 : (k == 1) = false := by simpa using h1
  have e2 : (k == 2) = false := by simpa using h2
  have e3 : (k == 3) = false := by simpa using h3
  clear h9 hbel h
  go_enter Try.func21, Try.ntmps21
  go_wp2_with fail
  go_ret
  exact ⟨rfl, _, H0.out.less (by simp), E0.out⟩

theorem does_any (base b a room : Nat) (xs : List Int) (k n : Int) (w : World) (h : Two [] base w b a xs xs room) :
    Calls Try.prog 21 #[.pointer (some ⟨b, 0, none⟩), .pointer (some ⟨a, 0, none⟩), .agg #[.int .i64 k, .int .i64 n]] w (Did base b a room w) := by
  by_cases h0 : k = 0
  · subst h0; exact does_put0 base b a room xs n w h
  by_cases h1 : k = 1
  · subst h1; exact does_put1 base b a room xs n w h
  by_cases h2 : k = 2
  · subst h2; exact does_take base b a room xs n w h
  by_cases h3 : k = 3
  · subst h3; exact does_at base b a room xs n w h
  exact does_other base b a room xs k n w h h0 h1 h2 h3
end Go.Proofs.Ytaedfieilfmfhaa
