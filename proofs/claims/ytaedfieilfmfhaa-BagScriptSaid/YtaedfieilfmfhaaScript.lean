/- BagScript: true, whatever comes. -/
import Derived.Test.YtaedfieilfmfhaaDoes
import Derived.Test.YtaedfieilfmfhaaOrder
namespace Go.Proofs.Ytaedfieilfmfhaa
open Go.RowKit

/-- a slice of acts that reads as l -/
def IsActs (w : World) (A : Option Addr) (n : Nat) (l : List (Int × Int)) : Prop :=
  l.length = n ∧ (0 < n → ∃ ad, A = some ad ∧ ad.block < w.heap.size ∧ ∀ j x, l[j]? = some x → w.cell? (ad.add (j * 2)) = some (.int .i64 x.1) ∧ w.cell? (ad.add (j * 2 + 1)) = some (.int .i64 x.2))

/-- the document's bag, as the walk reads it -/
theorem RefF.form {w : World} {a most : Nat} {ks : List Nat} {ys : List Int} (h : RefF w a ks ys most) : ∃ A c, w.cell? ⟨a, 0, none⟩ = some (.int .i64 most) ∧ w.cell? ⟨a, 1, none⟩ = some (.slice A ys.length c) ∧ IsI w A ys.length ys := by
  obtain ⟨v, hb, ho, rfl⟩ := h
  obtain ⟨A, c, rfl⟩ := own_shape ho
  exact ⟨A, c, hb.cell 0, hb.cell 1, IsI.of_own ho⟩
theorem Two.form {K : List Nat} {base : Nat} {w : World} {b a room : Nat} {xs ys : List Int} (h : Two K base w b a xs ys room) : ∃ A c, w.cell? ⟨a, 0, none⟩ = some (.int .i64 room) ∧ w.cell? ⟨a, 1, none⟩ = some (.slice A ys.length c) ∧ IsI w A ys.length ys := by
  obtain ⟨_, _, _, hR, _⟩ := h
  exact hR.form

/-- what All makes: new, all of ints -/
def Fresh (w w' : World) (xs : List Int) (v : Value) : Prop := w'.ownsRow w.heap.size 3 1 v xs.length (xs.map fun x => Value.int .i64 x) ∧ RowQ IntV w' 3 v
theorem t_all {K : List Nat} {base : Nat} {w : World} {b a room : Nat} {xs ys : List Int} (h : Two K base w b a xs ys room) :
    Calls Try.prog 22 #[.pointer (some ⟨b, 0, none⟩)] w fun e w' => ∃ A c, e = .returned (.slice A xs.length c) ∧ Fresh w w' xs (.slice A xs.length c) ∧ Below w.heap.size w w' := by
  obtain ⟨_, _, ⟨r, hB, _⟩, _⟩ := h
  refine (AllQ_I b r xs room w hB).mono ?_
  rintro e w' ⟨v, rfl, ho, hq, hb⟩
  obtain ⟨A, c, rfl⟩ := own_shape ho
  exact ⟨A, c, rfl, ⟨ho, hq⟩, hb⟩
theorem over_any {w0 w : World} {xs : List Int} {v : Value} (h : Fresh w0 w xs v) :
    Calls Try.prog 26 #[v] w fun e w' => e = .returned (.tuple #[]) ∧ ∃ js, Fr js w w' ∧ ∀ j ∈ js, w0.heap.size ≤ j := by
  obtain ⟨ho, hq⟩ := h
  rcases ho.2 with ⟨rfl, _⟩ | ⟨g, cap, cur, rfl, hbg, hg, hnc, hcm, hcs, _⟩
  · refine (over_none w).mono ?_
    rintro e w' ⟨rfl, rfl⟩
    exact ⟨rfl, [], Fr.refl _ _, by simp⟩
  · obtain ⟨cs, hb, hqc⟩ := hq g rfl
    have hce : cs = cur := by
      have := hb.symm.trans hg
      injection this with this
      injection this
    subst hce
    refine (over_row g xs.length cap cs w hb (by omega) hnc hcm hqc).mono ?_
    rintro e w' ⟨rfl, hF⟩
    exact ⟨rfl, [g], hF, by intro j hj; rw [List.mem_singleton.1 hj]; exact hbg⟩
/-- writing over what is younger than all that the two hold -/
theorem Two.over {K : List Nat} {base : Nat} {w0 w w' : World} {b a room : Nat} {xs ys : List Int} {js : List Nat} (h0 : Two K base w0 b a xs ys room) (hb : Below w0.heap.size w0 w) (hF : Fr js w w') (hj : ∀ j ∈ js, w0.heap.size ≤ j) :
    Two K base w' b a xs ys room ∧ Below base w w' := by
  obtain ⟨kb, ka, hB, hR, hd, h1, h2, h3, hK⟩ := h0
  have hb' : Below w0.heap.size w0 w' := hb.trans (hF.toBelow hb.size hj)
  refine ⟨((show Two K base w0 b a xs ys room from ⟨kb, ka, hB, hR, hd, h1, h2, h3, hK⟩).below hb').1, (hF.toBelow hb.size hj).mono h3⟩

/-- a Copy in the bag's place; the old one is filled -/
theorem t_copy {base : Nat} {w : World} {b a room : Nat} {xs ys : List Int} (h : Two [] base w b a xs ys room) :
    Calls Try.prog 18 #[.pointer (some ⟨b, 0, none⟩)] w fun e w' => e = .returned (.pointer (some ⟨w.heap.size, 0, none⟩)) ∧ ∃ kn, Two kn base w' b a xs ys room ∧ BagF w' w.heap.size kn xs room ∧ (∀ k ∈ kn, base ≤ k) ∧ Below base w w' := by
  obtain ⟨kb, ka, hB, hR, hd, h1, h2, h3, hK⟩ := id h
  obtain ⟨r, hBr, hkb⟩ := id hB
  refine (copy_any b r xs room w hBr).mono ?_
  rintro e w' ⟨rfl, r', hB', hr', hb'⟩
  have hF : Fr [] w w' := Fr.of_below hb'
  have hnew : ∀ k ∈ w.heap.size :: r'.toList, w.heap.size ≤ k := by
    intro k hk
    rcases List.mem_cons.1 hk with rfl | hk
    · exact Nat.le_refl _
    · exact hr' k (by simpa [Option.mem_toList] using hk)
  have hBF : BagF w' w.heap.size (w.heap.size :: r'.toList) xs room := ⟨r', hB', rfl⟩
  refine ⟨rfl, w.heap.size :: r'.toList, ⟨kb, ka, hB.fr hF (by simp), hR.fr hF (by simp), hd, h1, h2, Nat.le_trans h3 hb'.size, fun k hk => ⟨hBF.lt k hk, fun hm => ?_, fun hm => ?_⟩⟩, hBF, fun k hk => Nat.le_trans h3 (hnew k hk), hb'.mono h3⟩
  · have := hnew k hk; have := hB.lt k hm; omega
  · have := hnew k hk; have := hR.lt k hm; omega
theorem BagF.kept {w w' : World} {b room : Nat} {ks : List Nat} {xs : List Int} (h : BagF w b ks xs room) (hk : ∀ k ∈ ks, w'.heap[k]? = w.heap[k]?) : BagF w' b ks xs room := by
  obtain ⟨r, hB, rfl⟩ := h
  exact ⟨r, hB.kept fun k hk' => hk k (by rcases hk' with rfl | h <;> simp [*]), rfl⟩
theorem two_swap {kn : List Nat} {base : Nat} {w : World} {b b' a room : Nat} {xs ys zs : List Int} (h : Two kn base w b a zs ys room) (hB : BagF w b' kn xs room) (hb : ∀ k ∈ kn, base ≤ k) : Two [] base w b' a xs ys room := by
  obtain ⟨kb, ka, _, hR, hd, h1, h2, h3, hK⟩ := h
  exact ⟨kn, ka, hB, hR, fun k hk => (hK k hk).2.2, hb, h2, h3, by simp⟩

theorem same_quiet (A A' : Option Addr) (n m c c' : Nat) (xs : List Int) (w : World) (q : Nat) (hx : IsI w A n xs) (hy : IsI w A' m xs) (hn : n ≤ 1000000) :
    Calls Try.prog 23 #[.slice A n c, .slice A' m c'] (w.drewN q) fun e w' => e = .returned (.bool true) ∧ ∃ m, w' = w.drewN m := by
  refine Calls.quiet_of ((Same_I A A' n m c c' xs xs (w.drewN q) hx hy hn).mono ?_)
  rintro e w' ⟨rfl, h⟩
  exact ⟨by simp, h⟩
theorem len_quiet {K : List Nat} {base b a room : Nat} {xs ys : List Int} (w : World) (q : Nat) (h : Two K base w b a xs ys room) :
    Calls Try.prog 24 #[.pointer (some ⟨b, 0, none⟩)] (w.drewN q) fun e w' => e = .returned (.int .i64 xs.length) ∧ ∃ m, w' = w.drewN m := by
  obtain ⟨_, _, ⟨r, hB, _⟩, _⟩ := h
  refine (Len_I b r xs room (w.drewN q) (hB.kept fun _ _ => rfl)).mono ?_
  rintro e w' ⟨rfl, rfl⟩
  exact ⟨rfl, q, rfl⟩
theorem room_quiet {K : List Nat} {base b a room : Nat} {xs ys : List Int} (w : World) (q : Nat) (h : Two K base w b a xs ys room) :
    Calls Try.prog 25 #[.pointer (some ⟨b, 0, none⟩)] (w.drewN q) fun e w' => e = .returned (.int .i64 ((room : Int) - xs.length)) ∧ ∃ m, w' = w.drewN m := by
  obtain ⟨_, _, ⟨r, hB, _⟩, _⟩ := h
  exact Calls.quiet_of (Room_I b r xs room (w.drewN q) (hB.kept fun _ _ => rfl))

theorem script_bad (room : Int) (A : Option Addr) (n c : Nat) (w : World) (h : room < 0 ∨ 2000 < room) :
    Calls Try.prog 5 #[.int .i64 room, .slice A n c] w fun e w' => e = .returned (.bool true) ∧ Below w.heap.size w w' := by
  go_enter Try.func5, Try.ntmps5
  go_wp2_with fail
  refine (new_bad_I room w h).mono ?_
  rintro e w1 ⟨rfl, rfl⟩
  go_wp2_with fail
  refine (refnew_bad room w h).mono ?_
  rintro e w1 ⟨rfl, rfl⟩
  go_wp2_with fail
  refine (awake_any w).mono ?_
  rintro e w1 ⟨rfl, hb⟩
  go_wp2_with fail
  go_ret
  exact ⟨rfl, hb⟩

/-- both made -/
theorem two_new {w w1 w2 : World} {n : Nat} (hB : BagI w1 w.heap.size none [] n) (hb1 : Below w.heap.size w w1) (hR : RefF w2 w1.heap.size [w1.heap.size] [] n) (hb2 : Below w1.heap.size w1 w2) : Two [] w.heap.size w2 w.heap.size w1.heap.size [] [] n ∧ Below w.heap.size w w2 := by
  have hs := hb1.size
  have hl := hB.lt.1
  refine ⟨⟨[w.heap.size], [w1.heap.size], ⟨none, hB.fr (Fr.of_below (ks := []) hb2) (by simp) (by simp), rfl⟩, hR, ?_, ?_, ?_, Nat.le_trans hs hb2.size, by simp⟩, hb1.trans (hb2.mono hs)⟩
  · intro k hk hm
    rw [List.mem_singleton] at hk hm
    omega
  · intro k hk; rw [List.mem_singleton] at hk; omega
  · intro k hk; rw [List.mem_singleton] at hk; omega

theorem script_long (room : Int) (A : Option Addr) (n c : Nat) (w : World) (h0 : 0 ≤ room) (h : room ≤ 2000) (hn : 200 < n) :
    Calls Try.prog 5 #[.int .i64 room, .slice A n c] w fun e w' => e = .returned (.bool true) ∧ Below w.heap.size w w' := by
  go_enter Try.func5, Try.ntmps5
  go_wp2_with fail
  refine (new_ok_I room w h0 h).mono ?_
  rintro e w1 ⟨rfl, _, hb1⟩
  go_wp2_with fail
  refine (refnew_ok room w1 h0 h).mono ?_
  rintro e w2 ⟨rfl, _, hb2⟩
  go_wp2_with fail
  refine (awake_any w2).mono ?_
  rintro e w3 ⟨rfl, hb3⟩
  go_wp2_with fail
  go_ret
  have h1 := hb1.size
  have h2 := hb2.size
  exact ⟨rfl, (hb1.trans (hb2.mono h1)).trans (hb3.mono (by omega))⟩

set_option maxRecDepth 100000 in
set_option maxHeartbeats 4000000 in
theorem script_main (room : Nat) (A : Option Addr) (c : Nat) (l : List (Int × Int)) (w : World) (h : room ≤ 2000) (hn : l.length ≤ 200) (hl : IsActs w A l.length l) :
    Calls Try.prog 5 #[.int .i64 room, .slice A l.length c] w fun e w' => e = .returned (.bool true) ∧ Below w.heap.size w w' := by
  have HL := Lib.hid hl
  clear hl
  go_enter Try.func5, Try.ntmps5
  go_wp2_with fail
  refine (new_ok_I room w (by omega) (by omega)).mono ?_
  rintro e w1 ⟨rfl, hB1, hb1⟩
  rw [Int.toNat_natCast] at hB1
  have HB1 := Lib.hid hB1
  have Hb1 := Lib.hid hb1
  clear hB1 hb1
  go_wp2_with fail
  refine (refnew_ok room w1 (by omega) (by omega)).mono ?_
  rintro e w2 ⟨rfl, hR2, hb2⟩
  rw [Int.toNat_natCast] at hR2
  obtain ⟨ht, hbw⟩ := two_new HB1.out Hb1.out hR2 hb2
  have T2 := Lib.hid ht
  have E2 := Lib.hid hbw
  clear hR2 hb2 ht hbw HB1 Hb1
  obtain ⟨a, ha⟩ : ∃ a, w1.heap.size = a := ⟨_, rfl⟩
  rw [ha] at T2 ⊢
  clear ha
  go_wp2_with fail
  go_loopw [5, 9] (fun vb vi wr => ∃ (k b : Nat) (xs : List Int), k ≤ l.length ∧ vi = .int .i64 k ∧ vb = .pointer (some ⟨b, 0, none⟩) ∧ Two [] w.heap.size wr b a xs xs room ∧ Below w.heap.size w wr) (fun _ vi _ => l.length - (intOf vi).toNat)
  case atStart => exact ⟨0, w.heap.size, [], by omega, rfl, rfl, T2.out, E2.out⟩
  case round =>
    obtain ⟨k, b, xs, hk, rfl, rfl, ht, hb⟩ := hrel
    by_cases hlt : k < l.length
    · obtain ⟨ad, rfl, hadb, hc⟩ := HL.out.2 (by omega)
      obtain ⟨x, hx⟩ : ∃ x, l[k] = x := ⟨_, rfl⟩
      obtain ⟨hc0, hc1⟩ := hc k l[k] (List.getElem?_eq_getElem hlt)
      rw [hx] at hc0 hc1
      obtain ⟨kd, nn⟩ := x
      simp only at hc0 hc1
      have c0 : wr.cell? (ad.add (k * 2)) = some (.int .i64 kd) := (hb.cell (by rw [block_of_add]; exact hadb)).trans hc0
      have hc2 : w.cell? ⟨(ad.add (k * 2)).block, (ad.add (k * 2)).off + 1, none⟩ = some (.int .i64 nn) := by
        rw [← hc1, ← add_of_add]; rfl
      have c1 : wr.cell? ⟨(ad.add (k * 2)).block, (ad.add (k * 2)).off + 1, none⟩ = some (.int .i64 nn) := (hb.cell (by show (ad.add (k * 2)).block < _; rw [block_of_add]; exact hadb)).trans hc2
      have C0 := Lib.hid hc0
      have C1 := Lib.hid hc2
      have TR := Lib.hid ht
      have ER := Lib.hid hb
      clear hc0 hc1 hc2 ht hb hc hx
      by_cases h4 : kd = 4
      · subst h4
        go_wp2_with fail
        refine (t_copy TR.out).mono ?_
        rintro e w5 ⟨rfl, kn, ht5, hB5, hkn, hb5⟩
        have T5 := Lib.hid ht5
        have P5 := Lib.hid hB5
        have N5 := Lib.hid hkn
        have E5 := Lib.hid (ER.out.trans hb5)
        clear ht5 hB5 hkn hb5
        go_wp2_with fail
        refine (t_bput 77 T5.out).mono ?_
        rintro e w6 ⟨rfl, ht6, hk6⟩
        have T6 := Lib.hid ht6
        have K6 := Lib.hid hk6
        clear ht6 hk6
        go_wp2_with fail
        refine (t_btake 0 T6.out).mono ?_
        rintro e w7 ⟨rfl, ht7, hk7⟩
        have P7 := Lib.hid (P5.out.kept fun j hj => (hk7.2 j hj).trans (K6.out.2 j hj))
        have TX := Lib.hid (two_swap ht7 P7.out N5.out)
        have EX := Lib.hid ((E5.out.trans K6.out.1).trans hk7.1)
        clear ht7 hk7
        obtain ⟨wx, rfl⟩ : ∃ wx : World, wx = w7 := ⟨_, rfl⟩
        obtain ⟨b2, hb2⟩ : ∃ b2, wr.heap.size = b2 := ⟨_, rfl⟩
        rw [hb2] at TX ⊢
        obtain ⟨xs2, rfl⟩ : ∃ xs2, xs2 = xs := ⟨_, rfl⟩
        have d0 : wx.cell? (ad.add (k * 2)) = some (.int .i64 4) := (EX.out.cell (by rw [block_of_add]; exact hadb)).trans C0.out
        have d1 : wx.cell? ⟨(ad.add (k * 2)).block, (ad.add (k * 2)).off + 1, none⟩ = some (.int .i64 nn) := (EX.out.cell (by show (ad.add (k * 2)).block < _; rw [block_of_add]; exact hadb)).trans C1.out
        clear c0 c1 hb2
        go_wp2_with fail
        refine (does_any _ b2 a room xs2 _ nn wx TX.out).mono ?_
        rintro e w3 ⟨rfl, xs3, ht, hb⟩
        have T3 := Lib.hid ht
        have E3 := Lib.hid (EX.out.trans hb)
        clear ht hb
        go_wp2_with fail
        refine (t_all T3.out).mono ?_
        rintro e w4 ⟨A4, c4, rfl, hf, hb⟩
        have F4 := Lib.hid hf
        have N4 := Lib.hid hb
        obtain ⟨ht, hk⟩ := T3.out.below hb
        have E4 := Lib.hid (E3.out.trans hk.1)
        obtain ⟨A5, c5, r0, r1, r2⟩ := ht.form
        have T4 := Lib.hid ht
        have I4 := Lib.hid r2
        have J4 := Lib.hid (IsI.of_own hf.1)
        clear hf hb ht hk r2
        have hle := T3.out.le
        have hww : IntKind.i64.wrap ((room : Int) - xs3.length) = (room : Int) - xs3.length := IntWalk.i64_in _ (by omega)
        have S4 := Lib.hid (fun q => same_quiet A4 A5 xs3.length xs3.length c4 c5 xs3 w4 q J4.out I4.out (by omega))
        have L4 := Lib.hid (fun q => len_quiet w4 q T4.out)
        have M4 := Lib.hid (fun q => room_quiet w4 q T4.out)
        go_wp2_with fail
        go_quiet (first | (go_at_call 23; exact S4.out _) | (go_at_call 24; exact L4.out _) | (go_at_call 25; exact M4.out _))
        go_wp2_with fail
        refine (over_any (w0 := w3) (show Fresh w3 (World.drewN w4 _) xs3 (.slice A4 xs3.length c4) from F4.out)).mono ?_
        rintro e w8 ⟨rfl, js, hF, hj⟩
        obtain ⟨ht, hb⟩ := T3.out.over (below_drewN N4.out _) hF hj
        obtain ⟨A8, c8, r0, r1, r2⟩ := ht.form
        have T8 := Lib.hid ht
        have E8 := Lib.hid ((below_drewN E4.out _).trans hb)
        have I8 := Lib.hid r2
        clear ht hb hF hj r2 r0
        go_wp2_with fail
        go_region_held3 (fun w' => w'.cell? ⟨a, 1, none⟩ = some (.slice A8 xs3.length c8)) (go_keep)
          (first | (go_at_call 22; refine (t_all T8.out.drew).mono ?_; rintro e w9 ⟨A9, c9, rfl, hf, hb⟩; have q1 : w9.cell? ⟨a, 1, none⟩ = some (.slice A8 xs3.length c8) := (hb.cell (World.block_lt_of_cell? _ _ r1)).trans r1; have T9 := Lib.hid (T8.out.drew.below hb).1; have N9 := Lib.hid hb; have J9 := Lib.hid (IsI.of_own hf.1); clear hf hb) | (go_at_call 23; refine (Same_I A9 A8 xs3.length xs3.length c9 c8 xs3 xs3 _ J9.out (IsI.below (w := World.drew w8) I8.out N9.out) (by omega)).mono ?_; rintro e w10 ⟨rfl, q10, rfl⟩))
        go_wp2
        exact ⟨⟨k + 1, b2, xs3, by omega, by go_num, rfl, T9.out, below_drewN (E8.out.drew.trans (T8.out.drew.below N9.out).2.1) q10⟩, by simp [intOf]; omega⟩
      · have h4b : (kd == 4) = false := by simpa using h4
        obtain ⟨wx, rfl⟩ : ∃ wx : World, wx = wr := ⟨_, rfl⟩
        obtain ⟨b2, rfl⟩ : ∃ b2, b2 = b := ⟨_, rfl⟩
        obtain ⟨xs2, rfl⟩ : ∃ xs2, xs2 = xs := ⟨_, rfl⟩
        have TX := TR
        have EX := ER
        go_wp2_with fail
        refine (does_any _ b2 a room xs2 _ nn wx TX.out).mono ?_
        rintro e w3 ⟨rfl, xs3, ht, hb⟩
        have T3 := Lib.hid ht
        have E3 := Lib.hid (EX.out.trans hb)
        clear ht hb
        go_wp2_with fail
        refine (t_all T3.out).mono ?_
        rintro e w4 ⟨A4, c4, rfl, hf, hb⟩
        have F4 := Lib.hid hf
        have N4 := Lib.hid hb
        obtain ⟨ht, hk⟩ := T3.out.below hb
        have E4 := Lib.hid (E3.out.trans hk.1)
        obtain ⟨A5, c5, r0, r1, r2⟩ := ht.form
        have T4 := Lib.hid ht
        have I4 := Lib.hid r2
        have J4 := Lib.hid (IsI.of_own hf.1)
        clear hf hb ht hk r2
        have hle := T3.out.le
        have hww : IntKind.i64.wrap ((room : Int) - xs3.length) = (room : Int) - xs3.length := IntWalk.i64_in _ (by omega)
        have S4 := Lib.hid (fun q => same_quiet A4 A5 xs3.length xs3.length c4 c5 xs3 w4 q J4.out I4.out (by omega))
        have L4 := Lib.hid (fun q => len_quiet w4 q T4.out)
        have M4 := Lib.hid (fun q => room_quiet w4 q T4.out)
        go_wp2_with fail
        go_quiet (first | (go_at_call 23; exact S4.out _) | (go_at_call 24; exact L4.out _) | (go_at_call 25; exact M4.out _))
        go_wp2_with fail
        refine (over_any (w0 := w3) (show Fresh w3 (World.drewN w4 _) xs3 (.slice A4 xs3.length c4) from F4.out)).mono ?_
        rintro e w8 ⟨rfl, js, hF, hj⟩
        obtain ⟨ht, hb⟩ := T3.out.over (below_drewN N4.out _) hF hj
        obtain ⟨A8, c8, r0, r1, r2⟩ := ht.form
        have T8 := Lib.hid ht
        have E8 := Lib.hid ((below_drewN E4.out _).trans hb)
        have I8 := Lib.hid r2
        clear ht hb hF hj r2 r0
        go_wp2_with fail
        go_region_held3 (fun w' => w'.cell? ⟨a, 1, none⟩ = some (.slice A8 xs3.length c8)) (go_keep)
          (first | (go_at_call 22; refine (t_all T8.out.drew).mono ?_; rintro e w9 ⟨A9, c9, rfl, hf, hb⟩; have q1 : w9.cell? ⟨a, 1, none⟩ = some (.slice A8 xs3.length c8) := (hb.cell (World.block_lt_of_cell? _ _ r1)).trans r1; have T9 := Lib.hid (T8.out.drew.below hb).1; have N9 := Lib.hid hb; have J9 := Lib.hid (IsI.of_own hf.1); clear hf hb) | (go_at_call 23; refine (Same_I A9 A8 xs3.length xs3.length c9 c8 xs3 xs3 _ J9.out (IsI.below (w := World.drew w8) I8.out N9.out) (by omega)).mono ?_; rintro e w10 ⟨rfl, q10, rfl⟩))
        go_wp2
        exact ⟨⟨k + 1, b2, xs3, by omega, by go_num, rfl, T9.out, below_drewN (E8.out.drew.trans (T8.out.drew.below N9.out).2.1) q10⟩, by simp [intOf]; omega⟩
    · obtain rfl : k = l.length := by omega
      have ER := Lib.hid hb
      clear hb ht
      go_wp2_with fail
      refine (awake_any wr).mono ?_
      rintro e w3 ⟨rfl, hb3⟩
      go_wp2_with fail
      go_ret
      exact ⟨rfl, ER.out.trans (hb3.mono ER.out.size)⟩
end Go.Proofs.Ytaedfieilfmfhaa
