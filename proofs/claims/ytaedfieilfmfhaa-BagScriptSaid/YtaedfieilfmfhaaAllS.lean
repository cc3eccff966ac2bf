/- All: every bag: a new slice that owns the bag's things, in their order. -/
import Derived.Test.YtaedfieilfmfhaaThS
import Derived.Maps.AppendAt
namespace Go.Proofs.Ytaedfieilfmfhaa
open Go.RowKit Go.Shelf

attribute [local go_sem] Oper.semAt_some

theorem infoES : (Try.prog.info? 9).map (fun i => (i.zero, i.size, i.bytes)) = some (some (.string ByteArray.empty), 1, 16) := by kernel_rfl

theorem kp_putObjS {n₀ : Nat} {w : World} (hn : n₀ ≤ w.heap.size) (W : World) (l : Nat) (o o' : Obj) (hl : w.heap.size ≤ l) (h : W.heap[l]? = some o) (h1 : o.isCells = false) (h2 : o.isWalk = false) : KpS n₀ W (W.putObj l o') :=
  ⟨belowK_b hn W l o o' hl h h1 h2, fun k c0 c1 hk => by
    rw [World.putObj_heap_other (fun e => by subst e; rw [hk] at h; cases h; cases h1)]
    exact hk⟩

set_option maxRecDepth 100000 in
set_option maxHeartbeats 2000000 in
theorem All_S (b : Nat) (r : Option Nat) (xs : List ByteArray) (room : Nat) (w : World) (h : BagS w b r xs room) :
    Calls Try.prog 12 #[.pointer (some ⟨b, 0, none⟩)] w fun e W' => ∃ v, e = .returned v ∧ W'.ownsRow w.heap.size 9 1 v xs.length (xs.map fun x => Value.string x) ∧ (v = .slice none 0 0 ↔ xs = []) ∧ Below w.heap.size w W' := by
  obtain ⟨ring, first, hh, hrg, hl1, hl2⟩ := id h
  obtain ⟨i0, hi, hz0, hz1, hz2⟩ := info_parts infoES
  have hblt := h.lt.1
  have hrlt := fun k hk => (h.lt.2 k hk).1
  have HR := Lib.hid hrlt
  have HB := Lib.hid h
  clear hrlt h hrg
  refine callsIn_wide (n := 6).1 ?_
  refine callsIn_of_wp_marks Try.func12 rfl trivial ?_ rfl
  simp only [Try.ntmps12, List.size_toArray, List.length_cons, List.length_nil, Nat.reduceAdd, Nat.reduceSub, Array.replicate_succ, Array.replicate_zero, List.push_toArray, List.append_toArray, List.nil_append, List.cons_append]
  have tr : Fence.wide.fn 28 := trivial
  have tr2 : Fence.wide.fn 32 := trivial
  gi_wp2_with (first | (gi_at_call 28; refine (callsIn_wide.2 (none_S _ _ _ _ _ _ hh)).mono ?_; rintro e w' ⟨rfl, rfl⟩) | (gi_at_call 32; refine (callsIn_wide.2 (things_S _ _)).mono ?_; rintro e w' ⟨rfl, rfl⟩))
  have bO := Boxed.new w 22 (.slice none 0 0)
  have bN := Boxed.new (w.alloc (.cells #[.slice none 0 0] 22)) 24 (.pointer (some ⟨b, 0, none⟩))
  rw [World.size_alloc] at bN
  have hB0 : Below w.heap.size w ((w.alloc (.cells #[.slice none 0 0] 22)).alloc (.cells #[.pointer (some ⟨b, 0, none⟩)] 24)) := ((Below.refl _ w).alloc (Nat.le_refl _) _).alloc (by simp) _
  have hBag : BagS ((w.alloc (.cells #[.slice none 0 0] 22)).alloc (.cells #[.pointer (some ⟨b, 0, none⟩)] 24)) b r xs room :=
    HB.out.kept fun k hk => hB0.block k (by
      rcases hk with rfl | hk
      · exact hblt
      · exact HR.out k hk)
  refine wpIn_rangeFunc_ownG rfl (by omega) (gf := 42) (lb := #[.pointer (some ⟨w.heap.size + 1, 0, none⟩)]) rfl trivial (enters_of Try.func42 (by kernel_rfl) rfl)
    (things_stops_S (w.heap.size + 1) b w.heap.size r xs room _ (by simp) (by simp; omega) bN.cell hBag HR.out) KpS.trans (kp_putObjS (by simp; omega)) (Below.refl _ _) (fun _ => rfl)
    (fun pre W => (∃ v, Boxed W w.heap.size 22 v ∧ W.ownsRow w.heap.size 9 1 v pre.length (pre.map fun y => Value.string y.2) ∧ (v = .slice none 0 0 ↔ pre = [])) ∧ Below w.heap.size w W)
    (fun _ _ _ => False)
    (OwnFrom.and (Own.from (holdsRow_own w.heap.size w.heap.size 22 9 1 (fun pre : List (Nat × ByteArray) => pre.length) (fun pre => pre.map fun y => Value.string y.2) (fun pre v => v = .slice none 0 0 ↔ pre = [])) _) (ownFrom_below (Nat.le_refl _) (by simp; omega)))
    (fun _ _ _ _ _ hs _ _ => hs)
    ⟨⟨_, bO.alloc _, World.ownsRow_nil _ _ _ _, by simp⟩, hB0⟩
    (fun y => { tmps := #[.pointer (some ⟨b, 0, none⟩), undef, .slice none 0 0, .pointer (some ⟨w.heap.size, 0, none⟩), undef, Value.string y.2, .pointer (some ⟨b, 0, none⟩), .bool false, .pointer (some ⟨b, 0, none⟩), .func (.func 42) #[] #[.pointer (some ⟨w.heap.size + 1, 0, none⟩)], .int .i64 y.1, Value.string y.2, undef, undef, undef, undef, undef], defers := [] }) ?assign ?body ?done ?stop
  case assign =>
    intro l x W K hK
    gi_wp2
    exact hK
  case body =>
    rintro l pre y W ⟨⟨v, hv, hrow, hnil⟩, hB⟩ hlt
    have hc := hv.cell
    gi_wp2_with (gi_at_builtin; refine wpListIn_append_own _ rfl _ _ 22 rfl w.heap.size 9 i0 (.string ByteArray.empty) 1 16 Try.underlying22 hi hz0 hz1 hz2 rfl (by decide) _ _ _ rfl (hrow.alloc _) ⟨W.heap.size, 0, none⟩ 1 1 [Value.string y.2] rfl rfl (cell_one_new _ _ _) (by simp [Value.oneCell']) (by simp only [maxLen]; omega) (by omega) (by have := hB.size; simp; omega) ?_; intro v' w1 hown' hgrow _; obtain ⟨g', cap', rfl⟩ := ownsRow_succ hown'; obtain ⟨hv1, hv2, hr2, hk2, hb2⟩ := hv.appended (by decide) hrow hB.size (Nat.le_refl _) hown' hgrow; have hc1 := hv1.cell; have hf1 := hv1.frozen)
    refine ⟨hk2.from _, ⟨hb2, ?_⟩, ⟨_, hv2, by simpa using hr2, by simp⟩, hB.trans hb2⟩
    intro k c0 c1 hk
    have hkl := lt_of_block hk
    have hkB : k ≠ w.heap.size := by
      rintro rfl
      rw [show W.heap[w.heap.size]? = _ from hv] at hk
      cases hk
    have hkr : v.ownBlock ≠ some k := own_blk_ne hrow (show Blk W k 22 #[c0, c1] from hk) (by decide)
    have h1 : (W.alloc (.cells #[Value.string y.2] 9)).heap[k]? = some (.cells #[c0, c1] 22 (0, 0)) := (Below.heap_alloc W _ k hkl).trans hk
    rw [Below.heap_setCell _ _ _ _ (by exact hkB)]
    exact (hgrow.block k (by simp; omega) (fun e => hkr e.symm)).trans h1
  case done =>
    rintro D ys W hD rfl ⟨⟨v, hv, hrow, hnil⟩, hB⟩ hK
    have hc := hv.cell
    gi_wp2
    refine ⟨by simp, .inl ⟨_, _, rfl, run_takeDeferred hK, ?_⟩⟩
    have hp : (pairsS xs).map (fun y => Value.string y.2) = xs.map fun x => Value.string x := by
      conv => rhs; rw [← pairsS_snd xs]
      rw [List.map_map]; rfl
    rw [pairsS_length, hp] at hrow
    have hn : pairsS xs = [] ↔ xs = [] := by
      rw [← List.length_eq_zero_iff, pairsS_length, List.length_eq_zero_iff]
    exact ⟨_, results_tmp rfl _ _ _, v, rfl, ownsRow_putObj hrow _ hK rfl, hnil.trans hn, hB.trans (belowK_b (w := w) (Nat.le_refl _) W D _ _ (by simp at hD; omega) hK rfl rfl)⟩
  case stop =>
    rintro D c pre W _ _ h _
    exact h.elim
end Go.Proofs.Ytaedfieilfmfhaa
