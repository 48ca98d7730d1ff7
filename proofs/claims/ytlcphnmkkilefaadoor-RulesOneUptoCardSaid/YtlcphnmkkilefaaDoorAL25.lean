/- slices.Insert, walked: what it does to a row of its own. -/
import Derived.Test.YtlcphnmkkilefaaDoorAL0
import Derived.Test.YtlcphnmkkilefaaDoorProg
import Derived.Shelf.RegionOpenPlain
import Derived.WalkKit
import Derived.WalkSpells
import Derived.Lib.Walk
import Derived.Lib.SliceRun
import Derived.Lib.JoinLaws
import Derived.Lib.AppendZeros
import Derived.Lib.AppendZerosOnto
import Derived.Lib.Overlaps
import Derived.Laws.Externs
import Derived.Laws.IdiomCopy
import Derived.Laws.CopyRow
import Derived.KernelRfl
set_option linter.unusedVariables false
set_option linter.unusedSimpArgs false
namespace Go.Proofs.YtlcphnmkkilefaaDoor.Ab
open Go Go.RowKit Go.Lib
open Go.Proofs.YtlcphnmkkilefaaDoor
set_option maxHeartbeats 1000000 in
set_option maxRecDepth 100000 in
theorem ins25_shift (g h n c i m vc : Nat) (cur curv : Array Value) (w : World) (hi : i < n) (hm : 0 < m) (hroom : n + m ≤ c) (hc63 : c ≤ 9223372036854775807) (hne : h ≠ g)
    (hg : w.heap[g]? = some (.cells cur 41 (0, 0))) (hh : w.heap[h]? = some (.cells curv 41 (0, 0))) (hcur : cur.size = c * 6) (hcurv : curv.size = vc * 6) (hmv : m ≤ vc)
    (h1 : ∀ v ∈ cur.toList.take (n * 6), v.oneCell' = true) (h1v : ∀ v ∈ curv.toList.take (m * 6), v.oneCell' = true) :
    Calls Tryd.prog 25 #[.slice (some ⟨g, 0, none⟩) n c, .int .i64 i, .slice (some ⟨h, 0, none⟩) m vc] w fun e w' =>
      e = .returned (.slice (some ⟨g, 0, none⟩) (n + m) c) ∧ w' = (w.drew.setRow g (cur.toList.take ((i + m) * 6) ++ ((cur.toList.take (n * 6)).drop (i * 6) ++ cur.toList.drop ((n + m) * 6))).toArray).setRow g
        (cur.toList.take (i * 6) ++ (curv.toList.take (m * 6) ++ ((cur.toList.take (n * 6)).drop (i * 6) ++ cur.toList.drop ((n + m) * 6)))).toArray := by
  have hz1 : ¬ ((m : Int) = 0) := by omega
  have hz2 : ¬ ((i : Int) = (n : Int)) := by omega
  have hw1 : IntKind.i64.wrap ((i : Int) + (m : Int)) = (i : Int) + (m : Int) := by rw [IntKind.wrap_i64]; omega
  have hb1 : (0 : Int) ≤ (i : Int) + (m : Int) := by omega
  have hin : i ≤ n := by omega
  have htn : ((i : Int) + (m : Int)).toNat = i + m := by omega
  have hb2 : ¬ (c = i + m) := by omega
  have hb3 : (i : Int) ≤ (n : Int) + (m : Int) := by omega
  have hb4 : ¬ (c = i) := by omega
  have hu := Tryd.underlying23
  have mixed : Tryd.prog.follows .mixedOrders = true := by kernel_rfl
  have hsz : (Tryd.prog.info? 41).map (·.size) = some 6 := by kernel_rfl
  have hglt : g < w.heap.size := (Array.getElem?_eq_some_iff.1 hg).1
  have hdl : ((cur.toList.take (n * 6)).drop (i * 6)).length = (n - i) * 6 := by simp; rw [Nat.sub_mul]; omega
  have hvl : (curv.toList.take (m * 6)).length = m * 6 := by simp; omega
  have hov : ∀ lb cb, (callFunc 39 #[.slice (some ⟨h, 0, none⟩) m vc, .slice (some ⟨g, (i + m) * 6, none⟩) lb cb]).run Tryd.prog w = .ok (.value (.bool false)) w := fun lb cb => by
    rw [run_callFunc_extern Tryd.func39 (by kernel_rfl) (by kernel_rfl) (by kernel_rfl) (e := Extern.SlicesOverlaps.overlaps #[23, 23] #[4]) (by kernel_rfl),
      Lib.run_overlaps_apart w 23 4 41 hu 6 (fun w => by kernel_rfl) ⟨h, 0, none⟩ ⟨g, (i + m) * 6, none⟩ m vc lb cb hne 41 41 curv.size cur.size (by simp [World.shape?, hh]) (by simp [World.shape?, hg]) (by omega) (by simp [World.frozen?, hh]) (by simp [World.frozen?, hh])]
    rfl
  have hcp1 : ∀ ty dc sc, (Builtin.copy_ #[23, 23] ty #[.slice (some ⟨g, (i + m) * 6, none⟩) (n + m - (i + m)) dc, .slice (some ⟨g, i * 6, none⟩) (n + m - i) sc]).run Tryd.prog w.drew = .ok (goInt (Nat.min (n + m - i) (n + m - (i + m)))) (w.drew.setRow g (cur.toList.take ((i + m) * 6) ++ ((cur.toList.take (n * 6)).drop (i * 6) ++ cur.toList.drop ((n + m) * 6))).toArray) := fun ty dc sc => by
    have := run_copy_rows (P := Tryd.prog) w.drew 23 23 ty 41 6 g ((i + m) * 6) (n + m - (i + m)) dc ⟨g, i * 6, none⟩ (n + m - i) sc cur 41 ((cur.toList.take (n * 6)).drop (i * 6)) hu hsz hg (by rw [hdl, show (n + m - i).min (n + m - (i + m)) = n - i by simp only [Nat.min_def]; split <;> omega])
      (fun j v hj => by
        rw [List.getElem?_drop] at hj
        rw [Addr.add_lit, cell_of_row w.drew g (i * 6 + j) cur 41 (0, 0) hg]
        have hlt := (List.getElem?_eq_some_iff.1 hj).1
        rw [List.length_take] at hlt
        rw [List.getElem?_take_of_lt (by omega)] at hj
        simpa using hj)
      (by rw [hdl, ← Nat.add_mul, hcur]; exact Nat.mul_le_mul_right _ (by omega)) (fun v hv => h1 v (List.mem_of_mem_drop hv))
    rw [this, hdl, ← Nat.add_mul, show i + m + (n - i) = n + m by omega, List.append_assoc]
  obtain ⟨R1, hR1⟩ : ∃ R1, R1 = (cur.toList.take ((i + m) * 6) ++ ((cur.toList.take (n * 6)).drop (i * 6) ++ cur.toList.drop ((n + m) * 6))).toArray := ⟨_, rfl⟩
  rw [← hR1] at hcp1 ⊢
  have hnm : (n + m) * 6 ≤ c * 6 := Nat.mul_le_mul_right _ hroom
  have hni : (i + m) * 6 + (n - i) * 6 = (n + m) * 6 := by rw [← Nat.add_mul]; congr 1; omega
  have hR1t : R1.toList.take (i * 6) = cur.toList.take (i * 6) := by
    rw [hR1, List.take_append_of_le_length (by simp; omega), List.take_take, Nat.min_eq_left (by omega)]
  have hR1d : R1.toList.drop (i * 6 + m * 6) = (cur.toList.take (n * 6)).drop (i * 6) ++ cur.toList.drop ((n + m) * 6) := by
    rw [hR1, ← Nat.add_mul, List.drop_append_of_le_length (by simp; omega)]
    rw [List.drop_eq_nil_of_le (by simp; omega), List.nil_append]
  have hR1s : R1.size = c * 6 := by
    rw [hR1]; simp only [List.size_toArray, List.length_append, List.length_drop, List.length_take, Array.length_toList, hcur] at hdl ⊢; omega
  have hcp2 : ∀ (W : World), W.heap = (w.drew.setRow g R1).heap → ∀ ty dc, (Builtin.copy_ #[23, 23] ty #[.slice (some ⟨g, i * 6, none⟩) (n + m - i) dc, .slice (some ⟨h, 0, none⟩) m vc]).run Tryd.prog W = .ok (goInt (Nat.min m (n + m - i)))
      (W.setRow g (cur.toList.take (i * 6) ++ (curv.toList.take (m * 6) ++ ((cur.toList.take (n * 6)).drop (i * 6) ++ cur.toList.drop ((n + m) * 6)))).toArray) := fun W hW ty dc => by
    have hWg : W.heap[g]? = some (.cells R1 41 (0, 0)) := by rw [hW]; exact setRow_heap w.drew g cur R1 41 (0, 0) hg
    have hWh : W.heap[h]? = some (.cells curv 41 (0, 0)) := by
      rw [hW]
      simp only [World.setRow, World.drew]
      rw [Array.getElem?_modify, if_neg (fun e => hne e.symm)]
      exact hh
    have := run_copy_rows (P := Tryd.prog) W 23 23 ty 41 6 g (i * 6) (n + m - i) dc ⟨h, 0, none⟩ m vc R1 41 (curv.toList.take (m * 6)) hu hsz hWg (by rw [hvl, show m.min (n + m - i) = m by simp only [Nat.min_def]; split <;> omega])
      (fun j v hj => by
        rw [Addr.add_lit, cell_of_row W h (0 + j) curv 41 (0, 0) hWh]
        have hlt := (List.getElem?_eq_some_iff.1 hj).1
        rw [List.length_take] at hlt
        rw [List.getElem?_take_of_lt (by omega)] at hj
        simpa using hj)
      (by rw [hvl, hR1s, ← Nat.add_mul]; exact Nat.mul_le_mul_right _ (by omega)) h1v
    rw [this, hvl, hR1t, hR1d, List.append_assoc]
  go_enter Tryd.func25, Tryd.ntmps25
  go_wp2_with (simp only [hov])
  go_region_law_o (refine step_copy_run Tryd.prog rfl _ _ 23 23 rfl _ _ (by simp [Act.eval, Act.put]) (by simp [Act.eval, Act.put]) (hcp1 _ _ _) ?_)
  go_wp2_with (at_builtin; refine wpList_copy_run Tryd.prog _ rfl _ _ 23 23 rfl _ _ rfl rfl (hcp2 _ rfl _ _) ?_)
  go_ret
  exact ⟨rfl, by rw [hR1]⟩

set_option maxHeartbeats 1000000 in
set_option maxRecDepth 100000 in
theorem ins25_end (n m c : Nat) (A : Option Addr) (h vc : Nat) (v' : Value) (w w' : World) (hm : 0 < m) (hn63 : n ≤ 9223372036854775807) (hcA : n ≤ c)
    (hrun : ∀ ty, (Builtin.append_ #[23, 23] ty #[.slice A n c, .slice (some ⟨h, 0, none⟩) m vc]).run Tryd.prog w = .ok v' w') :
    Calls Tryd.prog 25 #[.slice A n c, .int .i64 n, .slice (some ⟨h, 0, none⟩) m vc] w fun e w1 => e = .returned v' ∧ w1 = w' := by
  have hz1 : ¬ ((m : Int) = 0) := by omega
  have hu := Tryd.underlying23
  have mixed : Tryd.prog.follows .mixedOrders = true := by kernel_rfl
  go_enter Tryd.func25, Tryd.ntmps25
  cases A with
  | none =>
    go_wp2_with (at_builtin; refine Lib.wpList_append_run _ rfl _ _ _ _ rfl _ _ rfl rfl _ _ (hrun _) ?_)
    go_ret
    exact ⟨rfl, rfl⟩
  | some a =>
    obtain ⟨ab, ao, asp⟩ := a
    go_wp2_with (at_builtin; refine Lib.wpList_append_run _ rfl _ _ _ _ rfl _ _ rfl rfl _ _ (hrun _) ?_)
    all_goals (go_ret; exact ⟨rfl, rfl⟩)

set_option maxHeartbeats 2000000 in
set_option maxRecDepth 100000 in
theorem ins25_grow (g h n c i m vc : Nat) (cur curv : Array Value) (w : World) (hi : i < n) (hm : 0 < m) (hnc : n ≤ c) (hroom : c < n + m) (hbig : (n + m) * 56 ≤ 140737488355328)
    (hg : w.heap[g]? = some (.cells cur 41 (0, 0))) (hh : w.heap[h]? = some (.cells curv 41 (0, 0))) (hcur : cur.size = c * 6) (hcurv : curv.size = vc * 6) (hmv : m ≤ vc)
    (h1 : ∀ v ∈ cur.toList.take (n * 6), v.oneCell' = true) (h1v : ∀ v ∈ curv.toList.take (m * 6), v.oneCell' = true) :
    Calls Tryd.prog 25 #[.slice (some ⟨g, 0, none⟩) n c, .int .i64 i, .slice (some ⟨h, 0, none⟩) m vc] w fun e w' =>
      ∃ W1 R1 R2, w.grownBy W1 none ∧ W1.heap[w.heap.size]? = some (.cells R1 41 (0, 0)) ∧ R1.size = grownCap w (n + m) c 41 * 6 ∧
        e = .returned (.slice (some ⟨w.heap.size, 0, none⟩) (n + m) (grownCap w (n + m) c 41)) ∧ w' = (W1.setRow w.heap.size R2).drew.setRow w.heap.size
        (cur.toList.take (i * 6) ++ (curv.toList.take (m * 6) ++ ((cur.toList.take (n * 6)).drop (i * 6) ++ R1.toList.drop ((n + m) * 6)))).toArray := by
  have hz1 : ¬ ((m : Int) = 0) := by omega
  have hz2 : ¬ ((i : Int) = (n : Int)) := by omega
  have hz3 : (c : Int) < (n : Int) + (m : Int) := by omega
  have hu := Tryd.underlying23
  have mixed : Tryd.prog.follows .mixedOrders = true := by kernel_rfl
  have hsz : (Tryd.prog.info? 41).map (·.size) = some 6 := by kernel_rfl
  obtain ⟨i0, hi0⟩ : ∃ i0, Tryd.prog.info? 41 = some i0 := Option.isSome_iff_exists.1 (by kernel_rfl : (Tryd.prog.info? 41).isSome = true)
  have hzs : i0.size = 6 := by rw [hi0] at hsz; simpa using hsz
  have hzb : i0.bytes = 56 := by
    have : (Tryd.prog.info? 41).map (·.bytes) = some 56 := by kernel_rfl
    rw [hi0] at this; simpa using this
  obtain ⟨z, hz⟩ : ∃ z, i0.zero = some z ∧ z.cells.size = 6 := by
    have : ((Tryd.prog.info? 41).bind (·.zero)).map (·.cells.size) = some 6 := by kernel_rfl
    rw [hi0] at this
    obtain ⟨z, h1, h2⟩ := Option.map_eq_some_iff.1 this
    exact ⟨z, by simpa using h1, h2⟩
  obtain ⟨hz0, hzc⟩ := hz
  have hgw : g < w.heap.size := (Array.getElem?_eq_some_iff.1 hg).1
  have hhw : h < w.heap.size := (Array.getElem?_eq_some_iff.1 hh).1
  have hik : i + (n + m - i) = n + m := by omega
  have hkk : (n : Int) + (m : Int) - (i : Int) = ((n + m - i : Nat) : Int) := by omega
  have hnk : n * 6 ≤ c * 6 := Nat.mul_le_mul_right _ hnc
  have hnm63 : n + m ≤ 140737488355328 := by omega
  have hold : (Builtin.firstCells i0.size i (.slice (some ⟨g, 0, none⟩) i c)).run Tryd.prog w.drew = .ok (cur.toList.take (i * 6)).toArray w.drew := by
    rw [hzs]
    exact run_firstCells_some w.drew 6 i ⟨g, 0, none⟩ i c (cur.toList.take (i * 6)) (by rw [List.length_take, Array.length_toList, hcur]; omega) (fun j v hj => by
      rw [Addr.add_lit, cell_of_row w.drew g (0 + j) cur 41 (0, 0) hg]
      have hlt := (List.getElem?_eq_some_iff.1 hj).1
      rw [List.length_take] at hlt
      rw [List.getElem?_take_of_lt (by omega)] at hj
      simpa using hj)
  have hrz : ∀ ty, (Builtin.append_ #[23, 3] ty #[.slice (some ⟨g, 0, none⟩) i c, .int .i64 ((n : Int) + (m : Int) - (i : Int))]).run Tryd.prog w =
      .ok (.slice (some ⟨w.heap.size, 0, none⟩) (n + m) (grownCap w (n + m) c 41)) (w.drew.alloc (.cells ((cur.toList.take (i * 6)).toArray ++ Builtin.zeroCells z.cells (n + m - i) ++ Builtin.zeroCells z.cells (grownCap w (n + m) c 41 - (n + m))) 41)) := fun ty => by
    have h := Lib.run_append_grow_zeros w 23 3 ty 41 i0 _ .i64 .i64 hu Tryd.underlying3 hi0 hz0 (some ⟨g, 0, none⟩) i c (cur.toList.take (i * 6)) hold (n + m - i) (by omega) (by omega) (by omega) (by omega) (by rw [hzb]; omega) (by rw [hzb, hik]; exact growslice_fits hroom hbig)
    rw [hik] at h
    rw [hkk]
    exact h
  obtain ⟨G, hG⟩ : ∃ G, G = grownCap w (n + m) c 41 := ⟨_, rfl⟩
  obtain ⟨R0, hR0⟩ : ∃ R0 : Array Value, R0 = (cur.toList.take (i * 6)).toArray ++ Builtin.zeroCells z.cells (n + m - i) ++ Builtin.zeroCells z.cells (G - (n + m)) := ⟨_, rfl⟩
  have hGn : n + m ≤ G := by rw [hG]; exact grownCap_ge w _ _ _
  have hG63 : G ≤ 9223372036854775807 := by
    have := grownCap_le_maxLen w (n + m) c 41 (by unfold maxLen; omega)
    rw [← hG] at this
    unfold maxLen at this
    omega
  rw [← hG] at hrz ⊢
  rw [← hR0] at hrz
  have hR0s : R0.size = G * 6 := by
    rw [hR0]
    simp only [Array.size_append, size_zeroCells, hzc, List.size_toArray, List.length_take, Array.length_toList, hcur]
    have : i * 6 ≤ c * 6 := Nat.mul_le_mul_right _ (by omega)
    rw [Nat.min_eq_left this, ← Nat.add_mul, ← Nat.add_mul]; congr 1; omega
  have hR0t : R0.toList.take (i * 6) = cur.toList.take (i * 6) := by
    rw [hR0]
    simp only [Array.toList_append, List.append_assoc]
    have : i * 6 ≤ c * 6 := Nat.mul_le_mul_right _ (by omega)
    rw [List.take_append_of_le_length (by simp; omega), List.take_take, Nat.min_self]
  obtain ⟨W1, hW1⟩ : ∃ W1, W1 = w.drew.alloc (.cells R0 41) := ⟨_, rfl⟩
  rw [← hW1] at hrz
  have hW1N : W1.heap[w.heap.size]? = some (.cells R0 41 (0, 0)) := by rw [hW1]; exact heap_alloc_new w.drew _
  have hW1o : ∀ k, k < w.heap.size → W1.heap[k]? = w.heap[k]? := fun k hk => by rw [hW1]; exact heap_alloc_old w.drew _ hk
  have hgr : w.grownBy W1 none := by rw [hW1]; exact ⟨rfl, rfl, rfl, by simp, fun k hk _ => heap_alloc_old w.drew _ hk⟩
  have hvl : (curv.toList.take (m * 6)).length = m * 6 := by simp; omega
  have hdl : ((cur.toList.take (n * 6)).drop (i * 6)).length = (n - i) * 6 := by simp; rw [Nat.sub_mul]; omega
  have hmG : (i + m) * 6 ≤ G * 6 := Nat.mul_le_mul_right _ (by omega)
  have hnG : (n + m) * 6 ≤ G * 6 := Nat.mul_le_mul_right _ hGn
  have hni : (i + m) * 6 + (n - i) * 6 = (n + m) * 6 := by rw [← Nat.add_mul]; congr 1; omega
  obtain ⟨R2, hR2⟩ : ∃ R2, R2 = (cur.toList.take (i * 6) ++ (curv.toList.take (m * 6) ++ R0.toList.drop ((i + m) * 6))).toArray := ⟨_, rfl⟩
  have hcpA : ∀ (W : World), W.heap = W1.heap → ∀ ty dc, (Builtin.copy_ #[23, 23] ty #[.slice (some ⟨w.heap.size, i * 6, none⟩) (n + m - i) dc, .slice (some ⟨h, 0, none⟩) m vc]).run Tryd.prog W = .ok (goInt (Nat.min m (n + m - i))) (W.setRow w.heap.size R2) := fun W hW ty dc => by
    have := run_copy_rows (P := Tryd.prog) W 23 23 ty 41 6 w.heap.size (i * 6) (n + m - i) dc ⟨h, 0, none⟩ m vc R0 41 (curv.toList.take (m * 6)) hu hsz (by rw [hW]; exact hW1N) (by rw [hvl, show m.min (n + m - i) = m by simp only [Nat.min_def]; split <;> omega])
      (fun j v hj => by
        rw [Addr.add_lit, cell_of_row W h (0 + j) curv 41 (0, 0) (by rw [hW, hW1o _ hhw]; exact hh)]
        have hlt := (List.getElem?_eq_some_iff.1 hj).1
        rw [List.length_take] at hlt
        rw [List.getElem?_take_of_lt (by omega)] at hj
        simpa using hj)
      (by rw [hvl, hR0s, ← Nat.add_mul]; exact hmG) h1v
    rw [this, hvl, hR0t, ← Nat.add_mul, hR2, List.append_assoc]
  have hR2s : R2.size = G * 6 := by
    rw [hR2]; simp only [List.size_toArray, List.length_append, List.length_drop, hvl, List.length_take, Array.length_toList, hcur, hR0s]
    have : i * 6 ≤ c * 6 := Nat.mul_le_mul_right _ (by omega)
    rw [Nat.add_mul] at hmG ⊢; omega
  have hR2t : R2.toList.take ((i + m) * 6) = cur.toList.take (i * 6) ++ curv.toList.take (m * 6) := by
    rw [hR2, ← List.append_assoc]
    have hl : (cur.toList.take (i * 6) ++ curv.toList.take (m * 6)).length = (i + m) * 6 := by
      rw [List.length_append, hvl, List.length_take, Array.length_toList, hcur, Nat.min_eq_left (Nat.mul_le_mul_right _ (by omega)), Nat.add_mul]
    rw [← hl]; exact List.take_left
  have hR2d : R2.toList.drop ((n + m) * 6) = R0.toList.drop ((n + m) * 6) := by
    rw [hR2, ← List.append_assoc]
    have hl : (cur.toList.take (i * 6) ++ curv.toList.take (m * 6)).length = (i + m) * 6 := by
      rw [List.length_append, hvl, List.length_take, Array.length_toList, hcur, Nat.min_eq_left (Nat.mul_le_mul_right _ (by omega)), Nat.add_mul]
    rw [← hni, ← List.drop_drop, ← hl]
    rw [List.drop_left, List.drop_drop]
  have hcpB : ∀ (W : World), W.heap = (W1.setRow w.heap.size R2).heap → ∀ ty dc sc, (Builtin.copy_ #[23, 23] ty #[.slice (some ⟨w.heap.size, (i + m) * 6, none⟩) (n + m - (i + m)) dc, .slice (some ⟨g, i * 6, none⟩) (n - i) sc]).run Tryd.prog W = .ok (goInt (Nat.min (n - i) (n + m - (i + m))))
      (W.setRow w.heap.size (cur.toList.take (i * 6) ++ (curv.toList.take (m * 6) ++ ((cur.toList.take (n * 6)).drop (i * 6) ++ R0.toList.drop ((n + m) * 6)))).toArray) := fun W hW ty dc sc => by
    have hWg : W.heap[g]? = some (.cells cur 41 (0, 0)) := by
      rw [hW]
      simp only [World.setRow]
      rw [Array.getElem?_modify, if_neg (by omega), hW1o _ hgw]
      exact hg
    have := run_copy_rows (P := Tryd.prog) W 23 23 ty 41 6 w.heap.size ((i + m) * 6) (n + m - (i + m)) dc ⟨g, i * 6, none⟩ (n - i) sc R2 41 ((cur.toList.take (n * 6)).drop (i * 6)) hu hsz (by rw [hW]; exact setRow_heap W1 _ _ R2 41 (0, 0) hW1N)
      (by rw [hdl, show (n - i).min (n + m - (i + m)) = n - i by simp only [Nat.min_def]; split <;> omega])
      (fun j v hj => by
        rw [List.getElem?_drop] at hj
        rw [Addr.add_lit, cell_of_row W g (i * 6 + j) cur 41 (0, 0) hWg]
        have hlt := (List.getElem?_eq_some_iff.1 hj).1
        rw [List.length_take] at hlt
        rw [List.getElem?_take_of_lt (by omega)] at hj
        simpa using hj)
      (by rw [hdl, hni, hR2s]; exact hnG) (fun v hv => h1 v (List.mem_of_mem_drop hv))
    rw [this, hdl, hni, hR2t, hR2d, List.append_assoc, List.append_assoc]
  have hw1 : IntKind.i64.wrap ((i : Int) + (m : Int)) = (i : Int) + (m : Int) := by rw [IntKind.wrap_i64]; omega
  have hb1 : (0 : Int) ≤ (i : Int) + (m : Int) := by omega
  have hin : i ≤ n := by omega
  have htn : ((i : Int) + (m : Int)).toNat = i + m := by omega
  have hb3 : (i : Int) ≤ (n : Int) := by omega
  have hGi : ¬ (G = i) := by omega
  have hGim : ¬ (G = i + m) := by omega
  have hci : ¬ (c = i) := by omega
  subst hW1
  have hE : ((w.alloc (.cells R0 41)).drew).heap = (w.drew.alloc (.cells R0 41)).heap := rfl
  have hE2 : (((w.alloc (.cells R0 41)).drew.setRow w.heap.size R2).drew).heap = ((w.drew.alloc (.cells R0 41)).setRow w.heap.size R2).heap := rfl
  have hR0s' := hR0s
  clear hkk hik hold hR0 hG hR0s hR0t hR2 hR2s hR2t hR2d
  go_enter Tryd.func25, Tryd.ntmps25
  go_wp2_with (first
    | (at_builtin; refine Lib.wpList_append_run _ rfl _ _ _ _ rfl _ _ rfl rfl _ _ (hrz _) ?_)
    | (at_builtin; refine wpList_copy_run Tryd.prog _ rfl _ _ 23 23 rfl _ _ rfl rfl (hcpA _ hE _ _) ?_))
  go_region_law_o (refine step_copy_run Tryd.prog rfl _ _ 23 23 rfl (.slice (some ⟨w.heap.size, (i + m) * 6, none⟩) (n + m - (i + m)) (G - (i + m))) (.slice (some ⟨g, i * 6, none⟩) (n - i) (c - i)) (by simp [Act.eval, Act.put]) (by simp [Act.eval, Act.put]) (hcpB _ hE2 3 (G - (i + m)) (c - i)) ?_)
  go_wp2
  go_ret
  exact ⟨_, R0, R2, hgr, hW1N, hR0s', rfl, rfl⟩

set_option maxRecDepth 100000 in
set_option maxHeartbeats 1000000 in
theorem ins25_walk (v u : Value) (n m i : Nat) (xs ys : List Value) (w : World) (hv : w.ownsRow 0 41 6 v n xs) (hw : w.ownsRow 0 41 6 u m ys) (hap : ∀ g, v.ownBlock = some g → u.ownBlock ≠ some g) (hi : i ≤ n) (hm : 0 < m)
    (h1 : ∀ x ∈ xs, x.oneCell' = true) (h1v : ∀ x ∈ ys, x.oneCell' = true) (hbig : (n + m) * 56 ≤ 140737488355328) :
    Calls Tryd.prog 25 #[v, .int .i64 i, u] w fun e w' => ∃ v', e = .returned v' ∧ w'.ownsRow 0 41 6 v' (n + m) (xs.take (i * 6) ++ (ys ++ xs.drop (i * 6))) ∧ w.grownBy w' v.ownBlock ∧ (v'.ownBlock = v.ownBlock ∨ v'.ownBlock = some w.heap.size) := by
  have hu := Tryd.underlying23
  have hsz : (Tryd.prog.info? 41).map (·.size) = some 6 := by kernel_rfl
  obtain ⟨i0, hi0⟩ : ∃ i0, Tryd.prog.info? 41 = some i0 := Option.isSome_iff_exists.1 (by kernel_rfl : (Tryd.prog.info? 41).isSome = true)
  have hzs : i0.size = 6 := by rw [hi0] at hsz; simpa using hsz
  have hzb : i0.bytes = 56 := by
    have : (Tryd.prog.info? 41).map (·.bytes) = some 56 := by kernel_rfl
    rw [hi0] at this; simpa using this
  obtain ⟨z, hz⟩ : ∃ z, i0.zero = some z ∧ z.cells.size = 6 := by
    have : ((Tryd.prog.info? 41).bind (·.zero)).map (·.cells.size) = some 6 := by kernel_rfl
    rw [hi0] at this
    obtain ⟨z, h1, h2⟩ := Option.map_eq_some_iff.1 this
    exact ⟨z, by simpa using h1, h2⟩
  obtain ⟨hz0, hzc⟩ := hz
  rcases hw.2 with ⟨_, h0⟩ | ⟨h, vc, curv, rfl, _, hh, hmv, _, hcurv, hys⟩
  · omega
  have hl1 := hv.1
  have hl2 := hw.1
  rcases Nat.lt_or_ge i n with hin | hin
  · rcases hv.2 with ⟨_, h0⟩ | ⟨g, c, cur, rfl, _, hg, hnc, hcm, hcur, hxs⟩
    · omega
    have hne : h ≠ g := fun e => hap g rfl (by simp [Value.ownBlock, e])
    have hc63 : c ≤ 9223372036854775807 := hcm
    have hnk : n * 6 ≤ c * 6 := Nat.mul_le_mul_right _ hnc
    have hik : i * 6 ≤ n * 6 := Nat.mul_le_mul_right _ hi
    have hxt : xs.take (i * 6) = cur.toList.take (i * 6) := by rw [← hxs, List.take_take, Nat.min_eq_left hik]
    have hlc : (cur.toList.take (i * 6)).length = i * 6 := by rw [List.length_take, Array.length_toList, hcur]; omega
    have hgw : g < w.heap.size := (Array.getElem?_eq_some_iff.1 hg).1
    have hsum : i * 6 + (m * 6 + (n - i) * 6) = (n + m) * 6 := by rw [← Nat.add_mul, ← Nat.add_mul]; congr 1; omega
    have hdl : (xs.drop (i * 6)).length = (n - i) * 6 := by rw [List.length_drop, hl1, Nat.sub_mul]
    have hlen : (xs.take (i * 6) ++ (ys ++ xs.drop (i * 6))).length = (n + m) * 6 := by
      rw [List.length_append, List.length_append, hdl, hl2, hxt, hlc, hsum]
    rw [← hxs] at h1
    rw [← hys] at h1v
    by_cases hroom : n + m ≤ c
    · refine (ins25_shift g h n c i m vc cur curv w hin hm hroom hc63 hne hg hh hcur hcurv hmv h1 h1v).mono ?_
      rintro e w' ⟨rfl, rfl⟩
      rw [hxs, hys, ← hxt, setRow_setRow]
      refine ⟨_, rfl, ⟨hlen, .inr ⟨g, c, _, rfl, Nat.zero_le _, setRow_heap w.drew g cur _ 41 (0, 0) hg, hroom, hcm, ?_, ?_⟩⟩, ⟨rfl, rfl, rfl, by simp, fun k hk hk2 => setRow_other w.drew g k _ (fun e => hk2 (by simp [Value.ownBlock, e]))⟩, .inl rfl⟩
      · have : (n + m) * 6 ≤ c * 6 := Nat.mul_le_mul_right _ hroom
        rw [← List.append_assoc ys, ← List.append_assoc, List.size_toArray, List.length_append, hlen, List.length_drop, Array.length_toList, hcur]; omega
      · rw [← List.append_assoc ys, ← List.append_assoc, List.toList_toArray, ← hlen]; exact List.take_left
    · refine (ins25_grow g h n c i m vc cur curv w hin hm hnc (by omega) hbig hg hh hcur hcurv hmv h1 h1v).mono ?_
      rintro e w' ⟨W1, R1, R2, hgr, hN, hR1, rfl, rfl⟩
      have hge := grownCap_ge w (n + m) c 41
      have hGm : grownCap w (n + m) c 41 ≤ maxLen := grownCap_le_maxLen w (n + m) c 41 (by unfold maxLen; omega)
      have hGk : (n + m) * 6 ≤ grownCap w (n + m) c 41 * 6 := Nat.mul_le_mul_right _ hge
      have hN2 : (W1.setRow w.heap.size R2).drew.heap[w.heap.size]? = some (.cells R2 41 (0, 0)) := setRow_heap W1 _ _ R2 41 (0, 0) hN
      rw [hxs, hys, ← hxt]
      refine ⟨_, rfl, ⟨hlen, .inr ⟨w.heap.size, _, _, rfl, Nat.zero_le _, setRow_heap _ _ _ _ 41 (0, 0) hN2, hge, hGm, ?_, ?_⟩⟩, ⟨hgr.os, hgr.tape, hgr.output, ?_, fun k hk hk2 => ?_⟩, .inr rfl⟩
      · rw [← List.append_assoc ys, ← List.append_assoc, List.size_toArray, List.length_append, hlen, List.length_drop, Array.length_toList, hR1]; omega
      · rw [← List.append_assoc ys, ← List.append_assoc, List.toList_toArray, ← hlen]; exact List.take_left
      · have := hgr.size; simpa using this
      · rw [setRow_other _ _ _ _ (by omega)]
        show (W1.setRow w.heap.size R2).heap[k]? = _
        rw [setRow_other _ _ _ _ (by omega)]
        exact hgr.block k hk (by simp)
  · have hin : i = n := by omega
    subst hin
    obtain ⟨v', w', hrun, hown, hgr, _, hat⟩ := run_append_own_at (P := Tryd.prog) w 0 23 23 41 i0 z 6 56 hu hi0 hz0 hzs hzb hzc (by omega) v i xs hv ⟨h, 0, none⟩ m vc ys hl2
      (fun j x hj => hw.cells (g := h) rfl j x hj) h1v (by unfold maxLen; omega) hbig (Nat.zero_le _)
    have hsh : ∃ A c, v = .slice A i c ∧ i ≤ c ∧ i ≤ 9223372036854775807 := by
      rcases hv.2 with ⟨rfl, rfl⟩ | ⟨g, c, cur, rfl, _, hg, hnc, hcm, hcur, hxs⟩
      · exact ⟨none, 0, rfl, Nat.le_refl _, by omega⟩
      · exact ⟨_, c, rfl, hnc, by simp only [maxLen] at hcm; omega⟩
    obtain ⟨A, c, rfl, hic, hi63⟩ := hsh
    refine (ins25_end i m c A h vc v' w w' hm hi63 hic (fun ty => ?_)).mono ?_
    · have hty : ∀ ty', (Builtin.append_ #[23, 23] ty' #[.slice A i c, .slice (some ⟨h, 0, none⟩) m vc]).run Tryd.prog w = (Builtin.append_ #[23, 23] 23 #[.slice A i c, .slice (some ⟨h, 0, none⟩) m vc]).run Tryd.prog w := fun _ => rfl
      rw [hty]; exact hrun
    · rintro e w1 ⟨rfl, rfl⟩
      refine ⟨_, rfl, ?_, hgr, hat⟩
      rw [List.take_of_length_le (by rw [hl1]; exact Nat.le_refl _), List.drop_eq_nil_of_le (by rw [hl1]; exact Nat.le_refl _), List.append_nil]
      exact hown
end Go.Proofs.YtlcphnmkkilefaaDoor.Ab
