/- Take: every bag, every place. -/
import Derived.Test.YtaedfieilfmfhaaDelS
import Derived.Deep.RegionLaw
namespace Go.Proofs.Ytaedfieilfmfhaa
open Go.RowKit

set_option maxHeartbeats 400000 in
theorem Take_out_S (b : Nat) (r : Option Nat) (xs : List ByteArray) (room : Nat) (i : Int) (w : World) (h : BagS w b r xs room) (hi : i < 0 ∨ (xs.length : Int) ≤ i) :
    Calls Try.prog 10 #[.pointer (some ⟨b, 0, none⟩), .int .i64 i] w fun e w' => e = .returned (.tuple #[Value.string ByteArray.empty, .int .i64 5]) ∧ ∃ n, w' = w.drewN n := by
  go_enter Try.func10, Try.ntmps10
  go_wp2_with (go_at_call 30; refine (At_out_S _ r xs room _ _ h hi).mono ?_; rintro e w' ⟨rfl, n, rfl⟩)
  go_ret2
  exact ⟨rfl, _, rfl⟩

/-- behind a Take -/
def TakeOkS (w : World) (b : Nat) (r : Option Nat) (ys : List ByteArray) (room : Nat) (w' : World) : Prop :=
  ∃ r', BagS w' b r' ys room ∧ Fr (b :: r.toList) w w' ∧ (r' = r ∨ ∃ g, r' = some g ∧ w.heap.size ≤ g)

set_option maxHeartbeats 1000000 in
theorem take0_S (b g n cap : Nat) (first room : Nat) (cur : Array Value) (xs : List ByteArray) (x : ByteArray) (w : World) (hB : BagS w b (some g) (x :: xs) room) (hh : HeadS w b (.slice (some ⟨g, 0, none⟩) n cap) first (xs.length + 1) room)
    (hg : Blk w g 9 cur) (hcs : cur.size = cap) (hnc : n ≤ cap) (hcm : cap ≤ maxLen) (hf : first < n) (hn : n ≤ 4001) (hl : xs.length + 1 ≤ n) (hx : ∀ i y, (x :: xs)[i]? = some y → cur[(first + i) % n]? = some (Value.string y)) :
    Calls Try.prog 10 #[.pointer (some ⟨b, 0, none⟩), .int .i64 0] w fun e w' => e = .returned (.tuple #[Value.string x, .int .i64 0]) ∧ TakeOkS w b (some g) xs room w' := by
  have HA := Lib.hid (At_S b (some g) (x :: xs) room 0 x w hB rfl)
  have hroom : xs.length + 1 ≤ room ∧ room ≤ 2000 := by
    obtain ⟨_, _, _, _, h1, h2⟩ := hB
    simp at h1
    omega
  have HR := Lib.hid hroom
  have HX := Lib.hid hx
  have HC := Lib.hid hcs
  have HG := Lib.hid hg
  have hgb : g ≠ b := Blk.ne_ hg hh (by decide)
  clear hB hroom hx hcs hg
  go_enter Try.func10, Try.ntmps10
  go_wp2_with fail
  refine HA.out.mono ?_
  rintro e w1 ⟨rfl, nq, hw1⟩
  have hh1 : HeadS w1 b (.slice (some ⟨g, 0, none⟩) n cap) first (xs.length + 1) room := by rw [hw1]; exact hh
  have HW := Lib.hid hw1
  have HH := Lib.hid hh1
  have c0 := hh1.c0
  have c1 := hh1.c1
  have c2 := hh1.c2
  have f1 := Blk.frozen hh1 1
  have f2 := Blk.frozen hh1 2
  have e1 : IntKind.i64.wrap ((first : Int) + 1) = first + 1 := IntWalk.i64_in _ (by omega)
  have e2 : ((first : Int) + 1).tmod n = (((first + 1) % n : Nat) : Int) := by rw [Int.tmod_eq_emod_of_nonneg (by omega)]; rfl
  have e7 : ¬ n = 0 := by omega
  clear hw1 hh hh1
  go_wp2
  go_still_tail 14, (by kernel_rfl)
  change wpList _ _ _ _ _ w1.drew
  go_wp2
  go_ret2
  refine ⟨rfl, some g, ?_, ?_, .inl rfl⟩
  · refine ⟨.slice (some ⟨g, 0, none⟩) n cap, (first + 1) % n, ?_, .inr ⟨g, n, cap, cur, rfl, rfl, ?_, HC.out, hnc, hcm, hn, Nat.mod_lt _ (by omega), by omega, ?_⟩, by have := HR.out; omega, HR.out.2⟩
    · have h := (HH.out.set_ 1 (.int .i64 (((first + 1) % n : Nat) : Int))).set_ 2 (.int .i64 (xs.length : Int))
      have e3 : (((xs.length + 1 : Nat) : Int)) - 1 = xs.length := by omega
      have e4 : ((first : Int) + 1) % n = (((first + 1) % n : Nat) : Int) := by rfl
      first
        | exact h
        | (rw [e4]; simp only [Int.add_sub_cancel]; exact h)
    · refine Blk.far (Blk.far ?_ hgb _) hgb _
      show w1.heap[g]? = _
      rw [HW.out]; exact HG.out
    · intro i y hy
      rw [Nat.mod_add_mod, show first + 1 + i = first + (i + 1) by omega]
      exact HX.out (i + 1) y (by simpa using hy)
  · have h0 : Fr (b :: (some g).toList) w w1 := by rw [HW.out]; exact (Fr.refl _ _).drewN _
    exact ((h0.setCell (p := ⟨b, 1, none⟩) (.inl (by simp)) _).setCell (p := ⟨b, 2, none⟩) (.inl (by simp)) _).drew

theorem take_fin_S {w w4 : World} {b gg gcap p room first m B : Nat} {q : Int} {ring : Value} {r : Option Nat} {xs : List ByteArray} {x : ByteArray} {i : Nat} (hq : q = p) (hi : i < xs.length) (hp : xs.length = p + 1) (hpr : p + 1 ≤ room) (hr : room ≤ 2000) (hF : Fr (b :: r.toList) w w4)
    (hH : HeadS w4 b ring first m room) (hO : w4.ownsRow B 9 1 (.slice (some ⟨gg, 0, none⟩) (p + 1) gcap) (p + 1) ((xs.map fun x => Value.string x).take i ++ (xs.map fun x => Value.string x).drop (i + 1) ++ [Value.string x])) (hB : w.heap.size ≤ B) (hb : b < w.heap.size) :
    TakeOkS w b r (xs.eraseIdx i) room (((w4.setCell ⟨b, 0, none⟩ (.slice (some ⟨gg, 0, none⟩) (p + 1) gcap)).setCell ⟨b, 1, none⟩ (.int .i64 0)).setCell ⟨b, 2, none⟩ (.int .i64 q)) := by
  subst hq
  obtain ⟨cur, hbk, hcs, hnc, hcm, hbg, _, _, hcell, _⟩ := own_cells hO
  have hne : gg ≠ b := by omega
  have hlen : (xs.eraseIdx i).length = p := by rw [List.length_eraseIdx_of_lt hi, hp]; omega
  refine ⟨some gg, ⟨.slice (some ⟨gg, 0, none⟩) (p + 1) gcap, 0, ?_, .inr ⟨gg, p + 1, gcap, cur, rfl, rfl, ((hbk.far (p := ⟨b, 0, none⟩) hne _).far (p := ⟨b, 1, none⟩) hne _).far (p := ⟨b, 2, none⟩) hne _, hcs, hnc, hcm, by omega, by omega, by omega, ?_⟩, by omega, hr⟩, ?_, .inr ⟨gg, rfl, by omega⟩⟩
  · unfold HeadS
    rw [hlen]
    exact Blk.set_ (Blk.set_ (Blk.set_ hH 0 _) 1 _) 2 _
  · intro j y hy
    have hjl := (List.getElem?_eq_some_iff.1 hy).1
    rw [Nat.zero_add, Nat.mod_eq_of_lt (by omega)]
    refine hcell j _ ?_
    have he : (xs.map fun x => Value.string x).take i ++ (xs.map fun x => Value.string x).drop (i + 1) = (xs.eraseIdx i).map fun x => Value.string x := by
      rw [List.eraseIdx_eq_take_drop_succ, List.map_append, List.map_take, List.map_drop]
    rw [he, List.getElem?_append_left (by simpa using hjl), List.getElem?_map, hy]
    rfl
  · exact ((hF.setCell (p := ⟨b, 0, none⟩) (.inl (by simp)) _).setCell (p := ⟨b, 1, none⟩) (.inl (by simp)) _).setCell (p := ⟨b, 2, none⟩) (.inl (by simp)) _

set_option maxRecDepth 100000 in
set_option maxHeartbeats 2000000 in
theorem takeN_S (b i : Nat) (r : Option Nat) (xs : List ByteArray) (x : ByteArray) (room : Nat) (ring : Value) (first : Nat) (w : World) (hB : BagS w b r xs room) (hh : HeadS w b ring first xs.length room) (hi0 : 0 < i) (hx : xs[i]? = some x) :
    Calls Try.prog 10 #[.pointer (some ⟨b, 0, none⟩), .int .i64 i] w fun e w' => e = .returned (.tuple #[Value.string x, .int .i64 0]) ∧ TakeOkS w b r (xs.eraseIdx i) room w' := by
  obtain ⟨i0, hi', hz0, hz1, hz2⟩ := info_parts infoES
  have HA := Lib.hid (At_S b r xs room i x w hB hx)
  have hroom : xs.length ≤ room ∧ room ≤ 2000 := by
    obtain ⟨_, _, _, _, h1, h2⟩ := hB
    omega
  have hlt : i < xs.length := (List.getElem?_eq_some_iff.1 hx).1
  obtain ⟨p, hp⟩ : ∃ p, xs.length = p + 1 := ⟨xs.length - 1, by omega⟩
  have hbl := hB.lt.1
  have HB := Lib.hid hB
  have HX := Lib.hid hx
  have HP := Lib.hid hp
  have hpb : p ≤ 1999 := by omega
  have hip : i ≤ p := by omega
  have hineq : ((i : Int) == 0) = false := by simp; omega
  rw [hp] at hh
  clear hB hx hp hroom
  go_enter Try.func10, Try.ntmps10
  go_wp2_with fail
  refine HA.out.mono ?_
  rintro e w1 ⟨rfl, nq, hw1⟩
  have hh1 : HeadS w1 b ring first (p + 1) room := by rw [hw1]; exact hh
  have hB1 : BagS w1 b r xs room := by rw [hw1]; exact HB.out.kept fun k _ => rfl
  have hsz1 : w1.heap.size = w.heap.size := by rw [hw1]; rfl
  have hf1 : Fr (b :: r.toList) w w1 := by rw [hw1]; exact (Fr.refl _ _).drewN _
  have HH1 := Lib.hid hh1
  have HF1 := Lib.hid hf1
  have HS1 := Lib.hid hsz1
  have HA1 := Lib.hid (All_S b r xs room w1 hB1)
  clear hw1 hh hh1 hB1 hsz1 hf1
  go_wp2_with fail
  refine HA1.out.mono ?_
  rintro e w2 ⟨v, rfl, hown, _, hb2⟩
  rw [HP.out] at hown
  obtain ⟨g, cap, rfl⟩ := ownsRow_succ hown
  have hl2 := hown.lt g rfl
  have HD := Lib.hid (delete_S g p cap i w1.heap.size (xs.map fun x => Value.string x) w2 hown (by intro u hu; obtain ⟨y, _, rfl⟩ := List.mem_map.1 hu; rfl) hip (by omega))
  have HH2 := Lib.hid (show HeadS w2 b ring first (p + 1) room from (hb2.block b (by rw [HS1.out]; exact hbl)).trans HH1.out)
  have hs9 : w1.heap.size = w.heap.size := HS1.out
  have hb1 : b < w1.heap.size := by omega
  clear hs9
  have hbg : g ≠ b := by omega
  have HB2 := Lib.hid hb2
  have hcap : p + 1 ≤ cap := by
    obtain ⟨_, _, _, h, _⟩ := own_cells hown
    exact h
  clear hown hb2
  go_wp2_with fail
  refine HD.out.mono ?_
  rintro e w3 ⟨rfl, hown3, hg3⟩
  have hh3 : HeadS w3 b ring first (p + 1) room := (hg3.block b (by omega) (fun e => by cases e; exact hbg rfl)).trans HH2.out
  have c2 := hh3.c2
  have f0 := Blk.frozen hh3 0
  have f1 := Blk.frozen hh3 1
  have f2 := Blk.frozen hh3 2
  have d0 := hh3.c0
  have d1 := hh3.c1
  have hsz3 := hg3.size
  have hb3 : b < w3.heap.size := by omega
  have HO3 := Lib.hid hown3
  have HG3 := Lib.hid hg3
  have HH3 := Lib.hid hh3
  have hbase : w1.heap.size ≤ w3.heap.size := by omega
  have w0 : IntKind.i64.wrap ((p : Int) + 1 - 1) = p := by rw [IntWalk.i64_in _ (by omega)]; omega
  clear hown3 hg3 hh3
  go_wp2_with fail
  go_region_law ((refine step_append_lies _ (by rfl) (.tmp 52) (.tmp 54) 22 (by rfl) w1.heap.size 9 i0 _ 1 16 Try.underlying22 hi' hz0 hz1 hz2 rfl (by omega) (.slice (some ⟨g, 0, none⟩) p cap) p _ (by rfl) ((HO3.out.alloc _).drew) ⟨w3.heap.size, 0, none⟩ 1 1 [Value.string x] (by rfl) (by rfl) (World.news_of_block (cs := #[Value.string x]) (t := 9) (fr := (0, 0)) (heap_alloc_new w3 _)) (by simp [Value.oneCell']) (by omega) (by simp only [maxLen]; omega) (by omega) (by simp; omega) (w3.heap.size + 1) (by simp) ?_; intro gg gcap w4 hown4 hgrow hat hlt4; have hh4 : HeadS w4 b ring first (p + 1) room := (hgrow.block b (by simp; omega) (fun e => by cases e; exact hbg rfl)).trans (HH3.out.alloc _); have k2 := hh4.c2; have k0 := hh4.c0; have k1 := hh4.c1; have l0 := Blk.frozen hh4 0; have l1 := Blk.frozen hh4 1; have l2 := Blk.frozen hh4 2; have HO4 := Lib.hid hown4; have HG4 := Lib.hid hgrow; have HA4 := Lib.hid hat; have HH4 := Lib.hid hh4; clear hown4 hgrow hat hh4))
  all_goals go_wp2
  all_goals go_ret2
  all_goals
    have hs9 : w1.heap.size = w.heap.size := HS1.out
    have hr9 : xs.length ≤ room ∧ room ≤ 2000 := by
      obtain ⟨_, _, _, _, h1, h2⟩ := HB.out
      omega
    have hp9 : xs.length = p + 1 := HP.out
    have hF : Fr (b :: r.toList) w w4 := (((HF1.out.below HB2.out (by omega)).grown HG3.out (fun k hk => by cases hk; exact .inr (show w.heap.size ≤ g by omega))).alloc _).drew.grown HG4.out (fun k hk => by cases hk; exact .inr (show w.heap.size ≤ g by omega))
    exact ⟨rfl, take_fin_S (by first | rfl | exact IntWalk.i64_in _ (by omega)) (by omega) hp9 (by omega) hr9.2 hF HH4.out HO4.out (by omega) hbl⟩

theorem Take_ok_S (b i : Nat) (r : Option Nat) (xs : List ByteArray) (x : ByteArray) (room : Nat) (w : World) (hB : BagS w b r xs room) (hx : xs[i]? = some x) :
    Calls Try.prog 10 #[.pointer (some ⟨b, 0, none⟩), .int .i64 i] w fun e w' => e = .returned (.tuple #[Value.string x, .int .i64 0]) ∧ TakeOkS w b r (xs.eraseIdx i) room w' := by
  obtain ⟨ring, first, hh, hr, h1, h2⟩ := id hB
  rcases Nat.eq_zero_or_pos i with rfl | hi
  · cases xs with
    | nil => simp at hx
    | cons y ys =>
      obtain rfl : y = x := by simpa using hx
      rcases hr with ⟨_, _, _, h⟩ | ⟨g, n, cap, cur, rfl, rfl, hg, hcs, hnc, hcm, hn, hf, hl, hxx⟩
      · cases h
      · exact take0_S b g n cap first room cur ys y w hB hh hg hcs hnc hcm hf hn hl hxx
  · exact takeN_S b i r xs x room ring first w hB hh hi hx
end Go.Proofs.Ytaedfieilfmfhaa
