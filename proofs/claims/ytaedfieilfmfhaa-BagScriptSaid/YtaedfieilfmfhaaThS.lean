/- The iterator over a bag's things, as a contract for whatever loop body keeps the iterator's own memory. -/
import Derived.RangeFuncNested
import Derived.RangeFuncBound
import Derived.RangeFuncCalls
import Derived.RangeFuncLeaves
import Derived.Shelf.Abstract
import Derived.Shelf.RegionOpen
import Derived.WalkKit
import Derived.OwnWalkIn
import Derived.TacticsInMore
import Derived.LoopNIn
import Derived.LoopIn
import Derived.Test.YtaedfieilfmfhaaHdS
import Derived.WalkSpells
import Derived.WalkLawsBesides
import Derived.Deep.QuietTactic
import Derived.BigQuiet
import Derived.StillTailTactics
import Derived.Deep.RegionHeld3
import Derived.Lib.Hide
namespace Go.Proofs.Ytaedfieilfmfhaa
open Go.RowKit Go.Shelf

set_option maxHeartbeats 400000 in
theorem things_S (b : Nat) (w : World) :
    Calls Try.prog 32 #[.pointer (some ⟨b, 0, none⟩)] w fun e w' => e = .returned (.func (.func 42) #[] #[.pointer (some ⟨w.heap.size, 0, none⟩)]) ∧ w.alloc (.cells #[.pointer (some ⟨b, 0, none⟩)] 24) = w' := by
  go_enter Try.func32, Try.ntmps32
  go_wp2
  go_ret
  exact ⟨rfl, rfl⟩

/-- what a round keeps -/
def KpS (n₀ : Nat) (W W' : World) : Prop := Below n₀ W W' ∧ ∀ (k : Nat) (c0 c1 : Value), W.heap[k]? = some (.cells #[c0, c1] 22 (0, 0)) → W'.heap[k]? = some (.cells #[c0, c1] 22 (0, 0))
theorem KpS.refl (n₀ : Nat) (W : World) : KpS n₀ W W := ⟨Below.refl _ _, fun _ _ _ h => h⟩
theorem KpS.trans {n₀ : Nat} {A B C : World} (h : KpS n₀ A B) (k : KpS n₀ B C) : KpS n₀ A C := ⟨h.1.trans k.1, fun i c0 c1 hi => k.2 i c0 c1 (h.2 i c0 c1 hi)⟩

set_option maxRecDepth 100000 in
set_option maxHeartbeats 2000000 in
theorem things1_S (l Bn b g n cap : Nat) (first many room n₀ : Nat) (x : Nat → ByteArray) (J Jx : List (Nat × ByteArray) → World → Prop) (W : World) (hJ : AbidesFrom W.heap.size J)
    (hY : ∀ pre (y : Nat × ByteArray) W1, J pre W1 → pre.length < many → YieldAt Fence.wide 4 Try.prog l #[.int .i64 y.1, Value.string y.2] W1 fun e W' =>
      (e = .returned (.bool true) ∧ J (pre ++ [y]) W' ∧ KpS n₀ W1 W') ∨ (e = .returned (.bool false) ∧ Jx (pre ++ [y]) W'))
    (hJ0 : J [] W) (hBn : W.cell? ⟨Bn, 0, none⟩ = some (.pointer (some ⟨b, 0, none⟩)))
    (hh : HeadS W b (.slice (some ⟨g, 0, none⟩) n cap) first many room) (hf : first < n) (hn : n ≤ 4001) (hmn : many ≤ n) (hnc : n ≤ cap) (hg : g < n₀) (hn₀ : n₀ ≤ W.heap.size)
    (hx : ∀ i, i < many → W.cell? ⟨g, (first + i) % n, none⟩ = some (Value.string (x i))) :
    CallsIn Fence.wide 5 Try.prog 42 #[.func (.yield l) #[] #[], .pointer (some ⟨Bn, 0, none⟩)] W fun e W' => (∃ v, e = .returned v) ∧
      ((∃ ys, ys = upto (fun j => (j, x j)) many ∧ J ys W') ∨ (∃ pre, (∃ k, k ≤ many ∧ pre = upto (fun j => (j, x j)) k) ∧ Jx pre W')) := by
  have h0 := hh.c0
  have h1 := hh.c1
  have h2 := hh.c2
  refine callsIn_of_wp Try.func42 rfl trivial ?_ rfl
  refine wpIn_wide.2 ?_
  simp only [Try.ntmps42, List.size_toArray, List.length_cons, List.length_nil, Nat.reduceAdd, Nat.reduceSub, Array.replicate_succ, Array.replicate_zero, List.push_toArray, List.append_toArray, List.nil_append, List.cons_append]
  have HX := Lib.hid hx
  have HY := Lib.hid hY
  have HJ := Lib.hid hJ
  clear hx hY hJ
  by_cases hc : first + many ≤ n
  · have hc1 : (first : Int) + many ≤ n := by omega
    have f0 : (0 : Int) ≤ (first : Int) := by omega
    have f1 : (first : Int) ≤ first + many := by omega
    have f2 : (first : Int) + many ≤ cap := by omega
    have f3 : (0:Int) ≤ many := by omega
    have f4 : (many:Int) ≤ cap := by omega
    go_wp2
    go_quiet (fail)
    go_wp2
    have f5 : (first : Int) + many - first = many := by omega
    have f6 : (many : Int) - many = 0 := by omega
    have w2 : IntKind.i64.wrap (many : Int) = many := IntWalk.i64_in _ (by omega)
    have w0 : IntKind.i64.wrap (0 : Int) = 0 := IntWalk.i64_in _ (by omega)
    have t0 : ((first : Int) + many).toNat = first + many := by omega
    have t1 : ¬ cap = first := by omega
    have t2 : first + many - first = many := by omega
    go_region_held3 (fun w' => w'.cell? ⟨Bn, 0, none⟩ = some (.pointer (some ⟨b, 0, none⟩)) ∧ w'.cell? ⟨b, 0, none⟩ = some (.slice (some ⟨g, 0, none⟩) n cap) ∧
      w'.cell? ⟨b, 1, none⟩ = some (.int .i64 first) ∧ w'.cell? ⟨b, 2, none⟩ = some (.int .i64 many)) (go_keep) (fail)
    clear f5 f6 w2 w0 t0 t1 t2 f0 f1 f2 f3 f4 hc1
    obtain ⟨po, pl, pc, pb, hpl, hpb0, hpbs, hpx, hpb2, hP0, hP1⟩ : ∃ po pl pc pb : Nat → Nat, (∀ k, k < 2 → pl k ≤ 4001) ∧ pb 0 = 0 ∧ (∀ k, k < 2 → pb (k + 1) = pb k + pl k) ∧
        (∀ k, k < 2 → ∀ j, j < pl k → W.cell? ⟨g, po k + j, none⟩ = some (Value.string (x (pb k + j)))) ∧ pb 2 = many ∧
        Value.slice (some ⟨g, first, none⟩) many (cap - first) = Value.slice (some ⟨g, po 0, none⟩) (pl 0) (pc 0) ∧ Value.slice (some ⟨g, 0, none⟩) 0 cap = Value.slice (some ⟨g, po 1, none⟩) (pl 1) (pc 1) := by
      refine ⟨fun k => if k = 0 then first else 0, fun k => if k = 0 then many else 0, fun k => if k = 0 then cap - first else cap, fun k => if k = 0 then 0 else many, ?_, rfl, ?_, ?_, rfl, rfl, rfl⟩
      · intro k hk
        dsimp only; split <;> omega
      · intro k hk
        have e : k = 0 ∨ k = 1 := by omega
        rcases e with rfl | rfl <;> simp
      · intro k hk j hj
        have e : k = 0 ∨ k = 1 := by omega
        rcases e with rfl | rfl
        · simp only [if_true] at hj
          have := HX.out j hj
          rw [Nat.mod_eq_of_lt (by omega)] at this
          simpa using this
        · simp at hj
    rw [hP0, hP1]
    clear hP0 hP1
    go_wp2
    refine wpIn_wide (n := 5).1 ?_
    obtain ⟨W0, hW0⟩ : ∃ W0, ((W.drewN (nq + 1)).alloc (.cells #[.slice (some ⟨g, po 0, none⟩) (pl 0) (pc 0), .slice (some ⟨g, po 1, none⟩) (pl 1) (pc 1)] 22)) = W0 := ⟨_, rfl⟩
    have hblk : W0.heap[W.heap.size]? = some (.cells #[.slice (some ⟨g, po 0, none⟩) (pl 0) (pc 0), .slice (some ⟨g, po 1, none⟩) (pl 1) (pc 1)] 22 (0, 0)) := by
      rw [← hW0]; exact World.alloc_heap_new (W.drewN (nq + 1)) _
    have hJ1 : J [] W0 := by
      rw [← hW0]
      exact HJ.out [] W _ none hJ0 ⟨rfl, rfl, rfl, by simp, fun k hk _ => (Below.heap_alloc (W.drewN (nq + 1)) _ k hk)⟩ (by simp)
    have hcl : ∀ k, k < 2 → ∀ j, j < pl k → W0.cell? ⟨g, po k + j, none⟩ = some (Value.string (x (pb k + j))) := by
      intro k hk j hj
      rw [← hW0]
      exact (World.cell?_alloc_lt (W.drewN (nq + 1)) _ _ (by show g < W.heap.size; omega)).trans (hpx k hk j hj)
    rw [hW0]
    clear hW0
    have HC := Lib.hid hcl
    have HP := Lib.hid hpbs
    have HL := Lib.hid hpl
    have HB := Lib.hid hpb0
    have HB2 := Lib.hid hpb2
    clear hcl hpx hpbs hpl hpb0 hpb2
    gi_loopw [4, 52] (fun c i wr => ∃ k : Nat, k ≤ 2 ∧ i = .int .i64 k ∧ c = .int .i64 (pb k) ∧ J (upto (fun j => (j, x j)) (pb k)) wr ∧
        KpS n₀ W0 wr) (fun _ i _ => 2 - (intOf i).toNat)
    case atStart => exact ⟨0, by omega, rfl, by rw [HB.out]; rfl, by rw [HB.out]; exact hJ1, KpS.refl _ _⟩
    case round =>
      obtain ⟨k, hk, rfl, rfl, hJs, hK⟩ := hrel
      by_cases hk2 : k < 2
      · have hck : wr.cell? ⟨W.heap.size, k, none⟩ = some (.slice (some ⟨g, po k, none⟩) (pl k) (pc k)) := by
          have := hK.2 _ _ _ hblk
          have e : k = 0 ∨ k = 1 := by omega
          rcases e with rfl | rfl <;> simp [World.cell?, this]
        have hL : pl k ≤ 4001 := HL.out k hk2
        have hbd : pb k + pl k ≤ 4001 := by
          have h1 := HP.out 0 (by omega)
          have h2 := HP.out 1 (by omega)
          have h3 := HB.out
          have h4 := HB2.out
          have e : k = 0 ∨ k = 1 := by omega
          rcases e with rfl | rfl <;> simp at * <;> omega
        have hbm : pb k + pl k ≤ many := by
          have h1 := HP.out 0 (by omega)
          have h2 := HP.out 1 (by omega)
          have h3 := HB.out
          have h4 := HB2.out
          have e : k = 0 ∨ k = 1 := by omega
          rcases e with rfl | rfl <;> simp at * <;> omega
        have hk3 : decide ((k : Int) < 2) = true := by simp; omega
        gi_wp2
        obtain ⟨wo, rfl⟩ : ∃ wo : World, wo = wr := ⟨_, rfl⟩
        gi_loopw [4, 58] (fun c i wr => ∃ j : Nat, j ≤ pl k ∧ i = .int .i64 j ∧ c = .int .i64 ((pb k + j : Nat) : Int) ∧ J (upto (fun j => (j, x j)) (pb k + j)) wr ∧
          KpS n₀ W0 wr) (fun _ i _ => pl k - (intOf i).toNat)
        case atStart => exact ⟨0, by omega, rfl, rfl, hJs, hK⟩
        case round =>
          obtain ⟨j, hj, rfl, rfl, hJt, hKt⟩ := hrel
          by_cases hj2 : j < pl k
          · have hcj : wr.cell? ⟨g, po k + j, none⟩ = some (Value.string (x (pb k + j))) := (hKt.1.cell (p := ⟨g, po k + j, none⟩) hg).trans (HC.out k hk2 j hj2)
            obtain ⟨fn, tmps, assign, body, hy, hR⟩ := HY.out _ (pb k + j, x (pb k + j)) wr hJt (by rw [upto_length]; omega)
            dsimp only at hy
            simp only [Int.natCast_add] at hy
            gi_wp2
            refine hR.mono ?_
            rintro e W3 (⟨rfl, hJ3, hkp⟩ | ⟨rfl, hJx3⟩)
            · gi_wp2
              go_roundw
              case rel =>
                exact ⟨j + 1, by omega, by go_num, by go_num, by rw [← Nat.add_assoc, upto_succ]; exact hJ3, hKt.trans hkp⟩
              case measure => simp [intOf]; omega
            · gi_wp2
              refine bodyPost_ret (results_none rfl _ _ _) rfl ?_
              exact ⟨⟨_, rfl⟩, .inr ⟨_, ⟨pb k + j + 1, by omega, (upto_succ _ _).symm⟩, hJx3⟩⟩
          · obtain rfl : j = pl k := by omega
            gi_wp2
            go_roundw
            case rel => exact ⟨k + 1, by omega, by go_num, by rw [HP.out k hk2], by rw [HP.out k hk2]; exact hJt, hKt⟩
            case measure => simp [intOf]; omega
      · obtain rfl : k = 2 := by omega
        gi_wp2
        go_end0
        exact ⟨⟨_, rfl⟩, .inl ⟨_, by rw [HB2.out], hJs⟩⟩
  · have c1 : (n : Int) ≤ first + many := by omega
    have f0 : (0 : Int) ≤ (first : Int) := by omega
    have f1 : (first : Int) ≤ n := by omega
    have f2 : (n : Int) ≤ cap := by omega
    have f3 : (0:Int) ≤ (many : Int) - (n - first) := by omega
    have f4 : (many : Int) - (n - first) ≤ cap := by omega
    have f5 : (n : Int) - first ≤ many := by omega
    have f6 : (many : Int) ≤ cap + (n - first) := by omega
    go_wp2
    go_quiet (fail)
    go_wp2
    have w2 : IntKind.i64.wrap ((n : Int) - first) = n - first := IntWalk.i64_in _ (by omega)
    have w0 : IntKind.i64.wrap ((many : Int) - (n - first)) = many - (n - first) := IntWalk.i64_in _ (by omega)
    have t0 : ((many : Int) - (n - first)).toNat = many - (n - first) := by omega
    have t1 : ¬ cap = first := by omega
    go_region_held3 (fun w' => w'.cell? ⟨Bn, 0, none⟩ = some (.pointer (some ⟨b, 0, none⟩)) ∧ w'.cell? ⟨b, 0, none⟩ = some (.slice (some ⟨g, 0, none⟩) n cap) ∧
      w'.cell? ⟨b, 1, none⟩ = some (.int .i64 first) ∧ w'.cell? ⟨b, 2, none⟩ = some (.int .i64 many)) (go_keep) (fail)
    clear w2 w0 t0 t1 f0 f1 f2 f3 f4 f5 f6 c1
    obtain ⟨po, pl, pc, pb, hpl, hpb0, hpbs, hpx, hpb2, hP0, hP1⟩ : ∃ po pl pc pb : Nat → Nat, (∀ k, k < 2 → pl k ≤ 4001) ∧ pb 0 = 0 ∧ (∀ k, k < 2 → pb (k + 1) = pb k + pl k) ∧
        (∀ k, k < 2 → ∀ j, j < pl k → W.cell? ⟨g, po k + j, none⟩ = some (Value.string (x (pb k + j)))) ∧ pb 2 = many ∧
        Value.slice (some ⟨g, first, none⟩) (n - first) (cap - first) = Value.slice (some ⟨g, po 0, none⟩) (pl 0) (pc 0) ∧ Value.slice (some ⟨g, 0, none⟩) (many - (n - first)) cap = Value.slice (some ⟨g, po 1, none⟩) (pl 1) (pc 1) := by
      refine ⟨fun k => if k = 0 then first else 0, fun k => if k = 0 then n - first else many - (n - first), fun k => if k = 0 then cap - first else cap, fun k => if k = 0 then 0 else if k = 1 then n - first else many, ?_, rfl, ?_, ?_, rfl, rfl, rfl⟩
      · intro k hk
        dsimp only; split <;> omega
      · intro k hk
        have e : k = 0 ∨ k = 1 := by omega
        rcases e with rfl | rfl <;> simp
        omega
      · intro k hk j hj
        have e : k = 0 ∨ k = 1 := by omega
        rcases e with rfl | rfl
        · simp only [if_true] at hj
          have := HX.out j (by omega)
          rw [Nat.mod_eq_of_lt (by omega)] at this
          simpa using this
        · simp only [Nat.one_ne_zero, if_false] at hj
          have := HX.out (n - first + j) (by omega)
          rw [show first + (n - first + j) = n + j by omega, Nat.add_mod_left, Nat.mod_eq_of_lt (by omega)] at this
          simpa using this
    rw [hP0, hP1]
    clear hP0 hP1
    go_wp2
    refine wpIn_wide (n := 5).1 ?_
    obtain ⟨W0, hW0⟩ : ∃ W0, ((W.drewN (nq + 1)).alloc (.cells #[.slice (some ⟨g, po 0, none⟩) (pl 0) (pc 0), .slice (some ⟨g, po 1, none⟩) (pl 1) (pc 1)] 22)) = W0 := ⟨_, rfl⟩
    have hblk : W0.heap[W.heap.size]? = some (.cells #[.slice (some ⟨g, po 0, none⟩) (pl 0) (pc 0), .slice (some ⟨g, po 1, none⟩) (pl 1) (pc 1)] 22 (0, 0)) := by
      rw [← hW0]; exact World.alloc_heap_new (W.drewN (nq + 1)) _
    have hJ1 : J [] W0 := by
      rw [← hW0]
      exact HJ.out [] W _ none hJ0 ⟨rfl, rfl, rfl, by simp, fun k hk _ => (Below.heap_alloc (W.drewN (nq + 1)) _ k hk)⟩ (by simp)
    have hcl : ∀ k, k < 2 → ∀ j, j < pl k → W0.cell? ⟨g, po k + j, none⟩ = some (Value.string (x (pb k + j))) := by
      intro k hk j hj
      rw [← hW0]
      exact (World.cell?_alloc_lt (W.drewN (nq + 1)) _ _ (by show g < W.heap.size; omega)).trans (hpx k hk j hj)
    rw [hW0]
    clear hW0
    have HC := Lib.hid hcl
    have HP := Lib.hid hpbs
    have HL := Lib.hid hpl
    have HB := Lib.hid hpb0
    have HB2 := Lib.hid hpb2
    clear hcl hpx hpbs hpl hpb0 hpb2
    gi_loopw [4, 52] (fun c i wr => ∃ k : Nat, k ≤ 2 ∧ i = .int .i64 k ∧ c = .int .i64 (pb k) ∧ J (upto (fun j => (j, x j)) (pb k)) wr ∧
        KpS n₀ W0 wr) (fun _ i _ => 2 - (intOf i).toNat)
    case atStart => exact ⟨0, by omega, rfl, by rw [HB.out]; rfl, by rw [HB.out]; exact hJ1, KpS.refl _ _⟩
    case round =>
      obtain ⟨k, hk, rfl, rfl, hJs, hK⟩ := hrel
      by_cases hk2 : k < 2
      · have hck : wr.cell? ⟨W.heap.size, k, none⟩ = some (.slice (some ⟨g, po k, none⟩) (pl k) (pc k)) := by
          have := hK.2 _ _ _ hblk
          have e : k = 0 ∨ k = 1 := by omega
          rcases e with rfl | rfl <;> simp [World.cell?, this]
        have hL : pl k ≤ 4001 := HL.out k hk2
        have hbd : pb k + pl k ≤ 4001 := by
          have h1 := HP.out 0 (by omega)
          have h2 := HP.out 1 (by omega)
          have h3 := HB.out
          have h4 := HB2.out
          have e : k = 0 ∨ k = 1 := by omega
          rcases e with rfl | rfl <;> simp at * <;> omega
        have hbm : pb k + pl k ≤ many := by
          have h1 := HP.out 0 (by omega)
          have h2 := HP.out 1 (by omega)
          have h3 := HB.out
          have h4 := HB2.out
          have e : k = 0 ∨ k = 1 := by omega
          rcases e with rfl | rfl <;> simp at * <;> omega
        have hk3 : decide ((k : Int) < 2) = true := by simp; omega
        gi_wp2
        obtain ⟨wo, rfl⟩ : ∃ wo : World, wo = wr := ⟨_, rfl⟩
        gi_loopw [4, 58] (fun c i wr => ∃ j : Nat, j ≤ pl k ∧ i = .int .i64 j ∧ c = .int .i64 ((pb k + j : Nat) : Int) ∧ J (upto (fun j => (j, x j)) (pb k + j)) wr ∧
          KpS n₀ W0 wr) (fun _ i _ => pl k - (intOf i).toNat)
        case atStart => exact ⟨0, by omega, rfl, rfl, hJs, hK⟩
        case round =>
          obtain ⟨j, hj, rfl, rfl, hJt, hKt⟩ := hrel
          by_cases hj2 : j < pl k
          · have hcj : wr.cell? ⟨g, po k + j, none⟩ = some (Value.string (x (pb k + j))) := (hKt.1.cell (p := ⟨g, po k + j, none⟩) hg).trans (HC.out k hk2 j hj2)
            obtain ⟨fn, tmps, assign, body, hy, hR⟩ := HY.out _ (pb k + j, x (pb k + j)) wr hJt (by rw [upto_length]; omega)
            dsimp only at hy
            simp only [Int.natCast_add] at hy
            gi_wp2
            refine hR.mono ?_
            rintro e W3 (⟨rfl, hJ3, hkp⟩ | ⟨rfl, hJx3⟩)
            · gi_wp2
              go_roundw
              case rel =>
                exact ⟨j + 1, by omega, by go_num, by go_num, by rw [← Nat.add_assoc, upto_succ]; exact hJ3, hKt.trans hkp⟩
              case measure => simp [intOf]; omega
            · gi_wp2
              refine bodyPost_ret (results_none rfl _ _ _) rfl ?_
              exact ⟨⟨_, rfl⟩, .inr ⟨_, ⟨pb k + j + 1, by omega, (upto_succ _ _).symm⟩, hJx3⟩⟩
          · obtain rfl : j = pl k := by omega
            gi_wp2
            go_roundw
            case rel => exact ⟨k + 1, by omega, by go_num, by rw [HP.out k hk2], by rw [HP.out k hk2]; exact hJt, hKt⟩
            case measure => simp [intOf]; omega
      · obtain rfl : k = 2 := by omega
        gi_wp2
        go_end0
        exact ⟨⟨_, rfl⟩, .inl ⟨_, by rw [HB2.out], hJs⟩⟩

set_option maxRecDepth 100000 in
set_option maxHeartbeats 1000000 in
theorem things1_nil_S (l Bn b : Nat) (room : Nat) (J : List (Nat × ByteArray) → World → Prop) (W : World) (hJ : AbidesFrom W.heap.size J)
    (hJ0 : J [] W) (hBn : W.cell? ⟨Bn, 0, none⟩ = some (.pointer (some ⟨b, 0, none⟩))) (hh : HeadS W b (.slice none 0 0) 0 0 room) :
    CallsIn Fence.wide 5 Try.prog 42 #[.func (.yield l) #[] #[], .pointer (some ⟨Bn, 0, none⟩)] W fun e W' => (∃ v, e = .returned v) ∧ J [] W' := by
  have h0 := hh.c0
  have h1 := hh.c1
  have h2 := hh.c2
  refine callsIn_of_wp Try.func42 rfl trivial ?_ rfl
  refine wpIn_wide.2 ?_
  simp only [Try.ntmps42, List.size_toArray, List.length_cons, List.length_nil, Nat.reduceAdd, Nat.reduceSub, Array.replicate_succ, Array.replicate_zero, List.push_toArray, List.append_toArray, List.nil_append, List.cons_append]
  have HJ := Lib.hid hJ
  clear hJ
  go_wp2
  go_quiet (fail)
  go_wp2
  have w0 : IntKind.i64.wrap (0 : Int) = 0 := IntWalk.i64_in _ (by omega)
  go_region_held3 (fun w' => w'.cell? ⟨Bn, 0, none⟩ = some (.pointer (some ⟨b, 0, none⟩)) ∧ w'.cell? ⟨b, 0, none⟩ = some (.slice none 0 0) ∧
      w'.cell? ⟨b, 1, none⟩ = some (.int .i64 (0 : Nat)) ∧ w'.cell? ⟨b, 2, none⟩ = some (.int .i64 (0 : Nat))) (go_keep) (fail)
  go_wp2
  refine wpIn_wide (n := 5).1 ?_
  obtain ⟨W0, hW0⟩ : ∃ W0, ((W.drewN (nq + 1)).alloc (.cells #[.slice none 0 0, .slice none 0 0] 22)) = W0 := ⟨_, rfl⟩
  have hblk : W0.heap[W.heap.size]? = some (.cells #[.slice none 0 0, .slice none 0 0] 22 (0, 0)) := by
    rw [← hW0]; exact World.alloc_heap_new (W.drewN (nq + 1)) _
  have hJ1 : J [] W0 := by
    rw [← hW0]
    exact HJ.out [] W _ none hJ0 ⟨rfl, rfl, rfl, by simp, fun k hk _ => (Below.heap_alloc (W.drewN (nq + 1)) _ k hk)⟩ (by simp)
  rw [hW0]
  clear hW0
  gi_loopw [4, 52] (fun c i wr => ∃ k : Nat, k ≤ 2 ∧ i = .int .i64 k ∧ c = .int .i64 0 ∧ wr = W0) (fun _ i _ => 2 - (intOf i).toNat)
  case atStart => exact ⟨0, by omega, rfl, rfl, rfl⟩
  case round =>
    obtain ⟨k, hk, rfl, rfl, rfl⟩ := hrel
    by_cases hk2 : k < 2
    · have hck : wr.cell? ⟨W.heap.size, k, none⟩ = some (.slice none 0 0) := by
        have e : k = 0 ∨ k = 1 := by omega
        rcases e with rfl | rfl <;> simp [World.cell?, hblk]
      have hk3 : decide ((k : Int) < 2) = true := by simp; omega
      gi_wp2
      gi_loopw [4, 58] (fun c i wr' => i = .int .i64 0 ∧ c = .int .i64 0 ∧ wr' = wr) (fun _ i _ => 0)
      case atStart => exact ⟨rfl, rfl, rfl⟩
      case round =>
        obtain ⟨rfl, rfl, rfl⟩ := hrel
        gi_wp2
        go_roundw
        case rel => exact ⟨k + 1, by omega, by go_num, by first | rfl | trivial, by first | rfl | trivial⟩
        case measure => simp [intOf]; omega
    · obtain rfl : k = 2 := by omega
      gi_wp2
      go_end0
      exact ⟨⟨_, rfl⟩, hJ1⟩

theorem upto_take {α : Type} (xs : List α) (d : α) {k : Nat} (hk : k ≤ xs.length) : upto (fun j => (j, xs.getD j d)) k = (upto (fun j => (j, xs.getD j d)) xs.length).take k := by
  apply List.ext_getElem
  · simp [upto, hk]
  · intro i h1 h2
    simp [upto]

/-- the pairs that come: number, thing -/
def pairsS (xs : List ByteArray) : List (Nat × ByteArray) := upto (fun j => (j, xs.getD j ByteArray.empty)) xs.length
theorem pairsS_length (xs : List ByteArray) : (pairsS xs).length = xs.length := upto_length _ _
theorem pairsS_snd (xs : List ByteArray) : (pairsS xs).map (·.2) = xs := by
  unfold pairsS
  rw [upto_map]
  exact upto_list xs _

theorem things_stops_S (Bn b n₀ : Nat) (r : Option Nat) (xs : List ByteArray) (room : Nat) (w : World) (hBn : Bn < w.heap.size) (hn₀ : n₀ ≤ w.heap.size)
    (hc : w.cell? ⟨Bn, 0, none⟩ = some (.pointer (some ⟨b, 0, none⟩))) (hB : BagS w b r xs room) (hr : ∀ k, r = some k → k < n₀) :
    SeqStopsK Fence.wide 5 Try.prog 42 #[.pointer (some ⟨Bn, 0, none⟩)] (fun y : Nat × ByteArray => #[Value.int .i64 y.1, Value.string y.2]) (KpS n₀) (fun ys => ys = pairsS xs) (fun _ => True) xs.length w := fun l J Jx W hW hJ _ hY h0 => by
  have hc' := (hW.cell (p := ⟨Bn, 0, none⟩) hBn).trans hc
  have hB' : BagS W b r xs room := hB.kept fun k hk => hW.block k (by
    rcases hk with rfl | hk
    · exact hB.lt.1
    · exact (hB.lt.2 k hk).1)
  obtain ⟨ring, first, hh, hrg, h1, h2⟩ := hB'
  rcases hrg with ⟨rfl, rfl, rfl, rfl⟩ | ⟨g, n, cap, cur, rfl, rfl, hg, hcs, hnc, hcm, hn, hf, hl, hx⟩
  · exact (things1_nil_S l Bn b room J W hJ h0 hc' hh).mono fun e W' ⟨he, hj⟩ => ⟨he, .inl ⟨_, rfl, hj⟩⟩
  · refine (things1_S l Bn b g n cap first xs.length room n₀ (fun j => xs.getD j ByteArray.empty) J Jx W hJ hY h0 hc' hh hf hn hl hnc (hr g rfl) (Nat.le_trans hn₀ hW.size) ?_).mono ?_
    · intro i hi
      rw [hg.cell]
      exact hx i _ (by rw [List.getElem?_eq_getElem hi, List.getD_eq_getElem?_getD, List.getElem?_eq_getElem hi]; rfl)
    · rintro e W' ⟨he, ⟨ys, rfl, hj⟩ | ⟨pre, _, hj⟩⟩
      · exact ⟨he, .inl ⟨_, rfl, hj⟩⟩
      · exact ⟨he, .inr ⟨_, trivial, hj⟩⟩
end Go.Proofs.Ytaedfieilfmfhaa
