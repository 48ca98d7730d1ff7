/- schema.New: the walk. -/
import Derived.Test.YtlcphnmkkilefaaDoorAQ
import Derived.Sort.Grow
import Derived.Shelf.SlSortCmp.WholeK
import Derived.Shelf.RegionOpenPlain
import Derived.WalkKit
import Derived.WalkSpells
import Derived.Lib.Walk
import Derived.KernelRfl
set_option linter.unusedVariables false
set_option linter.unusedSimpArgs false
namespace Go.Proofs.YtlcphnmkkilefaaDoor.Ab
open Go Go.RowKit Go.Lib Go.Shelf Go.Sort Go.Proofs Go.Proofs.YtlcphnmkkilefaaDoor
theorem nan_walk (x : Int) (w : World) : Calls Tryd.prog 31 #[.int .i64 x] w fun e w' => e = .returned (.bool false) ∧ w' = w := by
  go_enter Tryd.func31, Tryd.ntmps31
  go_wp2
  go_ret
  exact ⟨by simp, rfl⟩
theorem cmp_walk (x y : Int) (w : World) : Calls Tryd.prog 19 #[.int .i64 x, .int .i64 y] w fun e w' => e = .returned (.int .i64 (Lib.compareInt x y)) ∧ w' = w := by
  have h1 := nan_walk x
  have h2 := nan_walk y
  go_enter Tryd.func19, Tryd.ntmps19
  go_wp2_with (go_at_call 31; refine (nan_walk _ _).mono ?_; rintro e w' ⟨rfl, rfl⟩)
  all_goals (go_ret; refine ⟨?_, rfl⟩)
  all_goals simp_all [Lib.compareInt]
  all_goals omega
abbrev TK : Ty := KeyT
theorem clo_walk (x y : den KeyT) (W : World) : Calls Tryd.prog 18 #[.agg (encK x).toArray, .agg (encK y).toArray] W fun e w' => e = .returned (.int .i64 (Lib.compareInt x.1 y.1)) ∧ ∃ q os', w' = grow (W.drewN q) os' := by
  have hcon := cmp_walk x.1 y.1
  generalize Lib.compareInt x.1 y.1 = r at hcon ⊢
  unfold encK
  go_enter Tryd.func18, Tryd.ntmps18
  go_wp2_with (go_at_call 19; refine (hcon _).mono ?_; rintro e w' ⟨rfl, rfl⟩)
  go_ret
  exact ⟨rfl, 0, _, by rw [alloc_eq_grow, alloc_eq_grow, grow_grow]; rfl⟩
set_option maxHeartbeats 1000000 in
set_option maxRecDepth 100000 in
theorem new_big (A : Option Addr) (n c : Nat) (w : World) (hn : 64 < n) : Calls Tryd.prog 6 #[.slice A n c] w fun e w' => e = .returned (.tuple #[.pointer none, .int .i64 3]) ∧ w' = w := by
  go_enter Tryd.func6, Tryd.ntmps6
  go_wp2
  go_ret2
  exact ⟨rfl, rfl⟩
theorem step_lookup_run (P : Program) {ops : Array Oper} {o : Oper} {a : Act} {w : World} {K : Act → World → Prop} {Q : Exit → Act → World → Prop} {E : Prop}
    (hg : o.guard = none) (x ix : Operand) (t : TypeId) (hop : o.op = .lookup t x ix true) (vx vi : Value) (hx : a.eval x = vx) (hi : a.eval ix = vi) {v : Value} (hr : (Instr.lookup t vx vi true).run P w = .ok v w) (hK : K (a.put o.dst v) w) :
    if Region.wanted o (yielded ops a.tmps) = true then Oper.wp P o a w K Q else E := by
  have hw : Region.wanted o (yielded ops a.tmps) = true := by simp [Region.wanted, hg]
  rw [if_pos hw]
  unfold Oper.wp
  simp [execOp, hop, hx, hi, hr]
  exact hK
theorem step_update_run (P : Program) {ops : Array Oper} {o : Oper} {a : Act} {w w' : World} {K : Act → World → Prop} {Q : Exit → Act → World → Prop} {E : Prop}
    (hg : o.guard = none) (m k x : Operand) (t : TypeId) (hop : o.op = .mapUpdate t m k x) (hd : o.dst = none) (vm vk vx : Value) (hm : a.eval m = vm) (hk : a.eval k = vk) (hx : a.eval x = vx) (hr : (Instr.mapUpdate t vm vk vx).run P w = .ok () w') (hK : K a w') :
    if Region.wanted o (yielded ops a.tmps) = true then Oper.wp P o a w K Q else E := by
  have hw : Region.wanted o (yielded ops a.tmps) = true := by simp [Region.wanted, hg]
  rw [if_pos hw]
  unfold Oper.wp
  simp [execOp, hop, hm, hk, hx, hr, hd, Act.put]
  show K (a.put o.dst undef) w'
  rw [hd]
  exact hK
def NewPost (l : List (den KeyT)) (n rc : Nat) (RA : Option Addr) (w1 : World) (R : World → World → Prop) (e : Ending) (w' : World) : Prop :=
  ((∃ i, i < n ∧ okAt l i = false) ∧ e = .returned (.tuple #[.pointer none, .int .i64 3]) ∧ Below w1.heap.size w1 w') ∨
  ((∀ i, i < n → okAt l i = true) ∧ e = .returned (.tuple #[.pointer (some ⟨w1.heap.size + 1, 0, none⟩), .int .i64 0]) ∧ ∃ W es clk, Below w1.heap.size w1 W ∧ W.heap[w1.heap.size + 1]? = some (.cells #[.slice RA n rc, .map (some w1.heap.size)] 56 (0, 0)) ∧
    W.heap[w1.heap.size]? = some (.map es clk) ∧ es.toList.map (fun e => (e.key, e.val)) = l.map (fun x => (Value.int .i64 x.1, Value.agg (encK x).toArray)) ∧ R W w')
theorem alloc_self (w : World) (o : Go.Obj) (k : Nat) (h : k = w.heap.size) : (w.alloc o).heap[k]? = some o := by
  subst h
  show (w.heap.push o)[w.heap.size]? = _
  simp
def NewPostE (CP : Option Addr → Nat → World → Prop) (l : List (den KeyT)) (n : Nat) (R : Option Addr → Nat → World → World → World → Prop) (e : Ending) (w' : World) : Prop :=
  ∃ RA rc w1, CP RA rc w1 ∧ NewPost l n rc RA w1 (R RA rc w1) e w'
set_option maxHeartbeats 8000000 in
set_option maxRecDepth 100000 in
theorem new_small (A : Option Addr) (n c : Nat) (l : List (den KeyT)) (w : World) (CP : Option Addr → Nat → World → Prop) (hn : n ≤ 64) (hl : l.length = n) (R : Option Addr → Nat → World → World → World → Prop)
   (hcells : ∀ RA rc w1, CP RA rc w1 → ∀ k, k < n → ∃ b off, A = some ⟨b, off, none⟩ ∧ b < w1.heap.size ∧ ∀ j u, (encK (l.getD k (dflt KeyT)))[j]? = some u → w1.cell? ⟨b, off + (k * 6 + j), none⟩ = some u)
   (hlook : ∀ (k : Nat) (es : Array MapEntry) (clk : Nat), k < n → es.toList.map (fun e => (e.key, e.val)) = (l.take k).map (fun x => (Value.int .i64 x.1, Value.agg (encK x).toArray)) →
      ∃ (y : den KeyT) (ok : Bool), (ok = (l.take k).any fun x => decide ((x.1 : Int) = (l.getD k (dflt KeyT)).1)) ∧ (∀ (W : World) (m : Nat), W.heap[m]? = some (.map es clk) → (Instr.lookup 54 (.map (some m)) (.int .i64 (l.getD k (dflt KeyT)).1) true).run Tryd.prog W = .ok (.tuple #[.agg (encK y).toArray, .bool ok]) W) ∧
        (ok = false → ∀ (W : World) (m : Nat) (v : Value), W.heap[m]? = some (.map es clk) → (Instr.mapUpdate 54 (.map (some m)) (.int .i64 (l.getD k (dflt KeyT)).1) v).run Tryd.prog W = .ok () { W with heap := W.heap.setIfInBounds m (.map (es.push { key := .int .i64 (l.getD k (dflt KeyT)).1, val := v, born := clk }) (clk + 1)) }))
   (hmay : ∀ (x : den KeyT) (W : World), Calls Tryd.prog 16 #[.agg (encK x).toArray] W fun e w' => e = .returned (.bool (mayKey x)) ∧ Below W.heap.size W w')
   (hsort : ∀ RA rc w1, CP RA rc w1 → ∀ W, Below w1.heap.size w1 W → Calls Tryd.prog 17 #[.slice RA n rc, .func (.func 18) #[] #[]] W fun e w' => e = .returned (.tuple #[]) ∧ R RA rc w1 W w')
   (hcl : Calls Tryd.prog 15 #[.slice A n c] w fun e w' => ∃ RA rc, CP RA rc w' ∧ e = .returned (.slice RA n rc)) : Calls Tryd.prog 6 #[.slice A n c] w (NewPostE CP l n R) := by
  have mixed : Tryd.prog.follows .mixedOrders = true := by kernel_rfl
  have hmm := @run_makeMap Tryd.prog
  go_enter Tryd.func6, Tryd.ntmps6
  go_wp2_with (go_at_call 15; refine hcl.mono ?_; rintro e w1 ⟨RA, rc, hCP, rfl⟩; replace hcells := hcells _ _ _ hCP; replace hsort := hsort _ _ _ hCP; replace hCP := PLift.up hCP)
  go_loopw [19] (fun i wr => ∃ k : Nat, k ≤ n ∧ i = .int .i64 k ∧ Below w1.heap.size w1 wr ∧ wr.heap[w1.heap.size + 1]? = some (.cells #[.slice RA n rc, .map (some w1.heap.size)] 56 (0, 0)) ∧
      (∃ es clk, wr.heap[w1.heap.size]? = some (.map es clk) ∧ es.toList.map (fun e => (e.key, e.val)) = (l.take k).map (fun x => (Value.int .i64 x.1, Value.agg (encK x).toArray))) ∧ Nonempty (PLift (∀ i, i < k → okAt l i = true)))
    (fun i _ => n - (intOf i).toNat)
  case atStart =>
    refine ⟨0, by omega, rfl, ((Below.refl _ _).alloc (by omega) _).alloc (by show w1.heap.size ≤ (w1.heap.push _).size; rw [Array.size_push]; omega) _, alloc_self _ _ _ (by show _ = (w1.heap.push _).size; rw [Array.size_push]), ⟨#[], 0, (heap_alloc_old _ _ (by show _ < (w1.heap.push _).size; rw [Array.size_push]; omega)).trans (alloc_self _ _ _ rfl), rfl⟩, ⟨⟨fun i hi => absurd hi (by omega)⟩⟩⟩
  case round =>
    obtain ⟨k, hk, rfl, hbel, hg, ⟨es, clk, hm, hes⟩, hoks⟩ := hrel
    have hlt : w1.heap.size + 1 < wr.heap.size := (Array.getElem?_eq_some_iff.1 hg).1
    have hs0 : wr.cell? ⟨w1.heap.size + 1, 0, none⟩ = some (.slice RA n rc) := by rw [cell_of_row wr _ 0 _ 56 (0, 0) hg]; rfl
    have hs1 : wr.cell? ⟨w1.heap.size + 1, 1, none⟩ = some (.map (some w1.heap.size)) := by rw [cell_of_row wr _ 1 _ 56 (0, 0) hg]; rfl
    by_cases hkn : k < n
    · obtain ⟨y, ok, hok, hlk, hup⟩ := hlook k es clk hkn hes
      replace hok : Nonempty (PLift (ok = (l.take k).any fun x => decide ((x.1 : Int) = (l.getD k (dflt KeyT)).1))) := ⟨⟨hok⟩⟩
      have hmay' := hmay (l.getD k (dflt KeyT))
      obtain ⟨b, off, hA0, hb, hkc⟩ := hcells k hkn
      subst hA0
      obtain ⟨K, hK⟩ : ∃ K, K = l.getD k (dflt KeyT) := ⟨_, rfl⟩
      replace hK : Nonempty (PLift (K = l.getD k (dflt KeyT))) := ⟨⟨hK⟩⟩
      obtain ⟨⟨hK0⟩⟩ := hK
      rw [← hK0] at hok hlk hup hmay' hkc
      replace hK : Nonempty (PLift (K = l.getD k (dflt KeyT))) := ⟨⟨hK0⟩⟩
      clear hK0
      obtain ⟨k0, k1, k2, k3, k4, k5, ku⟩ := K
      obtain ⟨y0, y1, y2, y3, y4, y5, yu⟩ := y
      replace hlk : ∀ (W : World) (m : Nat), W.heap[m]? = some (.map es clk) → (Instr.lookup 54 (.map (some m)) (.int .i64 k0) true).run Tryd.prog W = .ok (.tuple #[.agg #[.int .i64 y0, .bool y1, .int .u8 y2, .bool y3, .bool y4, .int .i64 y5], .bool ok]) W := hlk
      replace hup : ok = false → ∀ (W : World) (m : Nat) (v : Value), W.heap[m]? = some (.map es clk) → (Instr.mapUpdate 54 (.map (some m)) (.int .i64 k0) v).run Tryd.prog W = .ok () { W with heap := W.heap.setIfInBounds m (.map (es.push { key := .int .i64 k0, val := v, born := clk }) (clk + 1)) } := hup
      have hcw : ∀ j u, (encK (k0, k1, k2, k3, k4, k5, ku))[j]? = some u → wr.cell? ⟨b, off + k * 6 + j, none⟩ = some u := fun j u h2 => by
        rw [Nat.add_assoc, World.cell?_of_block (w := w1) (hbel.block b hb)]
        exact hkc j u h2
      have hc0 : wr.cell? ⟨b, off + k * 6, none⟩ = some (.int .i64 k0) := hcw 0 _ rfl
      have hc1 : wr.cell? ⟨b, off + k * 6 + 1, none⟩ = some (.bool k1) := hcw 1 _ rfl
      have hc2 : wr.cell? ⟨b, off + k * 6 + 2, none⟩ = some (.int .u8 k2) := hcw 2 _ rfl
      have hc3 : wr.cell? ⟨b, off + k * 6 + 3, none⟩ = some (.bool k3) := hcw 3 _ rfl
      have hc4 : wr.cell? ⟨b, off + k * 6 + 4, none⟩ = some (.bool k4) := hcw 4 _ rfl
      have hc5 : wr.cell? ⟨b, off + k * 6 + 5, none⟩ = some (.int .i64 k5) := hcw 5 _ rfl
      clear hcw
      clear hkc
      clear hcells
      clear hlook
      clear hmay
      clear hsort
      have hmN : ∀ o, ((wr.alloc o).drew).heap[w1.heap.size]? = some (.map es clk) := fun o => (heap_alloc_old wr o (by omega)).trans hm
      have hmN2 : ∀ o o', (((wr.alloc o).alloc o').drew).heap[w1.heap.size]? = some (.map es clk) := fun o o' => (heap_alloc_old (wr.alloc o) o' (by simp; omega)).trans ((heap_alloc_old wr o (by omega)).trans hm)
      have hs1N : ∀ o, (wr.alloc o).cell? ⟨w1.heap.size + 1, 1, none⟩ = some (.map (some w1.heap.size)) := fun o => (World.cell?_of_block (heap_alloc_old wr o (by exact hlt))).trans hs1
      have hs1N2 : ∀ o o', ((wr.alloc o).alloc o').cell? ⟨w1.heap.size + 1, 1, none⟩ = some (.map (some w1.heap.size)) := fun o o' => (World.cell?_of_block (heap_alloc_old (wr.alloc o) o' (by simp; omega))).trans (hs1N o)
      have hkN2 : ∀ o', ((wr.alloc (.cells #[.int .i64 k0, .bool k1, .int .u8 k2, .bool k3, .bool k4, .int .i64 k5] 49)).alloc o').cell? ⟨wr.heap.size, 0, none⟩ = some (.int .i64 k0) := fun o' => (World.cell?_of_block (heap_alloc_old _ o' (by simp))).trans (by rw [World.cell?_alloc_at (w := wr) _ _ wr.heap.size 0 rfl]; rfl)
      obtain ⟨mk, hmk⟩ : ∃ mk, mk = mayKey (k0, k1, k2, k3, k4, k5, ku) := ⟨_, rfl⟩
      replace hmay' : ∀ W : World, Calls Tryd.prog 16 #[.agg #[.int .i64 k0, .bool k1, .int .u8 k2, .bool k3, .bool k4, .int .i64 k5]] W fun e w' => e = .returned (.bool mk) ∧ Below W.heap.size W w' := by rw [hmk]; exact hmay'
      replace hmk : Nonempty (PLift (mk = mayKey (k0, k1, k2, k3, k4, k5, ku))) := ⟨⟨hmk⟩⟩
      obtain ⟨X, hX⟩ : ∃ X, X = ((wr.alloc (.cells #[.int .i64 k0, .bool k1, .int .u8 k2, .bool k3, .bool k4, .int .i64 k5] 49)).alloc (.cells #[.int .i64 y0, .bool y1, .int .u8 y2, .bool y3, .bool y4, .int .i64 y5] 49)).drew := ⟨_, rfl⟩
      have hXb : Below w1.heap.size w1 X := by
        rw [hX]
        exact ((hbel.alloc (by omega) _).alloc (by simp; omega) _).drew
      have hfac : ∀ W, Below X.heap.size X W → (W.heap[w1.heap.size]? = some (.map es clk) ∧ W.heap[w1.heap.size + 1]? = some (.cells #[.slice RA n rc, .map (some w1.heap.size)] 56 (0, 0)) ∧ Below w1.heap.size w1 W ∧ w1.heap.size + 1 < W.heap.size) ∧ W.cell? ⟨w1.heap.size + 1, 1, none⟩ = some (.map (some w1.heap.size)) ∧
          W.cell? ⟨wr.heap.size, 0, none⟩ = some (.int .i64 k0) ∧ W.cell? ⟨wr.heap.size, 1, none⟩ = some (.bool k1) ∧ W.cell? ⟨wr.heap.size, 2, none⟩ = some (.int .u8 k2) ∧ W.cell? ⟨wr.heap.size, 3, none⟩ = some (.bool k3) ∧ W.cell? ⟨wr.heap.size, 4, none⟩ = some (.bool k4) ∧ W.cell? ⟨wr.heap.size, 5, none⟩ = some (.int .i64 k5) := fun W hW => by
        have hsz : X.heap.size = wr.heap.size + 2 := by rw [hX]; simp [World.drew]
        have hbl : ∀ j, j < wr.heap.size → W.heap[j]? = wr.heap[j]? := fun j hj => by
          rw [hW.block j (by omega), hX]
          exact (heap_alloc_old _ _ (by simp; omega)).trans (heap_alloc_old _ _ hj)
        have hbox : W.heap[wr.heap.size]? = some (.cells #[.int .i64 k0, .bool k1, .int .u8 k2, .bool k3, .bool k4, .int .i64 k5] 49 (0, 0)) := by
          rw [hW.block _ (by omega), hX]
          exact (heap_alloc_old _ _ (by show _ < (wr.heap.push _).size; rw [Array.size_push]; omega)).trans (alloc_self _ _ _ rfl)
        have hcell : ∀ j u, (#[Value.int .i64 k0, .bool k1, .int .u8 k2, .bool k3, .bool k4, .int .i64 k5] : Array Value)[j]? = some u → W.cell? ⟨wr.heap.size, j, none⟩ = some u := fun j u h2 => by
          rw [cell_of_row W _ j _ 49 (0, 0) hbox]; exact h2
        have hW1 : W.heap[w1.heap.size + 1]? = some (.cells #[.slice RA n rc, .map (some w1.heap.size)] 56 (0, 0)) := (hbl _ hlt).trans hg
        exact ⟨⟨(hbl _ (by omega)).trans hm, hW1, hXb.trans (hW.mono hXb.size), by have := hW.size; omega⟩,
          by rw [cell_of_row W _ 1 _ 56 (0, 0) hW1]; rfl, hcell 0 _ rfl, hcell 1 _ rfl, hcell 2 _ rfl, hcell 3 _ rfl, hcell 4 _ rfl, hcell 5 _ rfl⟩
      have hfin : ∀ W2 W3 : World, Below X.heap.size X W2 → Nonempty (PLift (okAt l k = true)) → W3 = { W2.drew with heap := W2.drew.heap.setIfInBounds w1.heap.size (.map (es.push { key := .int .i64 k0, val := .agg #[.int .i64 k0, .bool k1, .int .u8 k2, .bool k3, .bool k4, .int .i64 k5], born := clk }) (clk + 1)) } →
          (∃ k_1 : Nat, k_1 ≤ n ∧ Value.int .i64 ((k : Int) + 1) = Value.int .i64 (k_1 : Int) ∧ Below w1.heap.size w1 W3 ∧ W3.heap[w1.heap.size + 1]? = some (.cells #[.slice RA n rc, .map (some w1.heap.size)] 56 (0, 0)) ∧
            (∃ es clk, W3.heap[w1.heap.size]? = some (.map es clk) ∧ es.toList.map (fun e => (e.key, e.val)) = (l.take k_1).map (fun x => (Value.int .i64 x.1, Value.agg (encK x).toArray))) ∧ Nonempty (PLift (∀ i, i < k_1 → okAt l i = true))) ∧
          n - (intOf (Value.int .i64 ((k : Int) + 1))).toNat < n - (intOf (Value.int .i64 (k : Int))).toNat := by
        intro W2 W3 hb2 ⟨⟨hok1⟩⟩ hW3
        obtain ⟨⟨hm2, hg2, hbb, hl2⟩, -⟩ := hfac W2 hb2
        obtain ⟨⟨hKK⟩⟩ := hK
        obtain ⟨⟨hoks⟩⟩ := hoks
        have hset : ∀ j, j ≠ w1.heap.size → W3.heap[j]? = W2.heap[j]? := fun j hj => by
          rw [hW3]
          exact Array.getElem?_setIfInBounds_ne (Ne.symm hj)
        refine ⟨⟨k + 1, by omega, by simp, ⟨by rw [hW3]; exact hbb.os, by rw [hW3]; exact hbb.tape, by rw [hW3]; exact hbb.output, ?_, fun j hj => (hset j (by omega)).trans (hbb.block j hj)⟩, (hset _ (by omega)).trans hg2, ⟨es.push { key := .int .i64 k0, val := .agg #[.int .i64 k0, .bool k1, .int .u8 k2, .bool k3, .bool k4, .int .i64 k5], born := clk }, clk + 1, ?_, ?_⟩, ⟨⟨?_⟩⟩⟩, ?_⟩
        · rw [hW3]; show w1.heap.size ≤ (W2.heap.setIfInBounds _ _).size; rw [Array.size_setIfInBounds]; omega
        · rw [hW3]
          exact Array.getElem?_setIfInBounds_self_of_lt (by show w1.heap.size < W2.heap.size; omega)
        · rw [Array.toList_push, List.map_append, hes, List.take_add_one, List.map_append]
          congr 1
          have hl0 : l[k]? = some (k0, k1, k2, k3, k4, k5, ku) := by
            rw [hKK, List.getD_eq_getElem?_getD, List.getElem?_eq_getElem (by omega)]; rfl
          rw [hl0]; rfl
        · intro i hi
          rcases Nat.lt_succ_iff_lt_or_eq.1 hi with h | h
          · exact hoks i h
          · rw [h]; exact hok1
        · simp only [intOf]; omega
      obtain ⟨⟨hokk⟩⟩ := hok
      obtain ⟨⟨hmkk⟩⟩ := hmk
      obtain ⟨⟨hKK⟩⟩ := hK
      have hA : ok = true → NewPostE CP l n R (.returned (.tuple #[.pointer none, .int .i64 3])) X := fun h => by
        refine ⟨RA, rc, w1, hCP.down, .inl ⟨⟨k, hkn, ?_⟩, rfl, hXb⟩⟩
        rw [okAt, ← hKK, ← hokk, h]; simp
      have hB : mk = false → ∀ W, Below X.heap.size X W → NewPostE CP l n R (.returned (.tuple #[.pointer none, .int .i64 3])) W := fun h W hW => by
        refine ⟨RA, rc, w1, hCP.down, .inl ⟨⟨k, hkn, ?_⟩, rfl, (hfac W hW).1.2.2.1⟩⟩
        rw [okAt, ← hKK, ← hmkk, h]; simp
      have hD : ok = false → mk = true → Nonempty (PLift (okAt l k = true)) := fun h h2 => ⟨⟨by rw [okAt, ← hKK, ← hmkk, ← hokk, h, h2]; simp⟩⟩
      clear hokk
      clear hmkk
      clear hKK
      obtain ⟨⟨hXm, hXg, hXbb, hXlt⟩, hX1, hXc0, hXc1, hXc2, hXc3, hXc4, hXc5⟩ := hfac X (Below.refl _ _)
      replace hXm : Nonempty (PLift (X.heap[w1.heap.size]? = some (.map es clk))) := ⟨⟨hXm⟩⟩
      replace hfac := PLift.up hfac
      replace hfin := PLift.up hfin
      clear hXg hXbb hXlt hXb
      go_wp2
      go_region_law_o (refine step_lookup_run Tryd.prog rfl _ _ 54 rfl _ _ (by simp [Act.eval, Act.put]) (by simp [Act.eval, Act.put]) (hlk _ _ (by first | exact hmN _ | exact hmN2 _ _)) ?_)
      all_goals clear hlk hs1N hs1N2 hkN2 hmN hmN2
      all_goals (rw [← hX])
      all_goals clear hX
      all_goals clear hc0 hc1 hc2 hc3 hc4 hc5
      all_goals go_wp2_with (go_at_call 16; refine (hmay' _).mono ?_; rintro e w2 ⟨rfl, hb2⟩; obtain ⟨⟨hWm, hWg, hWbb, hWlt⟩, hW1, hWc0, hWc1, hWc2, hWc3, hWc4, hWc5⟩ := hfac.down _ hb2; replace hWm := PLift.up hWm; clear hWg hWbb hWlt)
      all_goals first
        | (go_ret2; first | exact hA (by simpa using ‹ok = true›) | exact hB (by simpa using ‹(!mk) = true›) _ hb2)
        | skip
      all_goals
        have hok' : ok = false := by simpa using ‹¬ok = true›
        have hmk' : mk = true := by simpa using ‹(!mk) = false›
        have hu := hup hok' w2.drew w1.heap.size (.agg #[.int .i64 k0, .bool k1, .int .u8 k2, .bool k3, .bool k4, .int .i64 k5]) hWm.down
        have hD' := hD hok' hmk'
        clear hup hA hB hD
        obtain ⟨W3, hW3⟩ : ∃ W3 : World, W3 = { w2.drew with heap := w2.drew.heap.setIfInBounds w1.heap.size (.map (es.push { key := .int .i64 k0, val := .agg #[.int .i64 k0, .bool k1, .int .u8 k2, .bool k3, .bool k4, .int .i64 k5], born := clk }) (clk + 1)) } := ⟨_, rfl⟩
        rw [← hW3] at hu
        have hgo := hfin.down w2 W3 hb2 hD' hW3
        replace hgo := PLift.up hgo
        clear hW3 hfin hfac
        go_region_law_o (fail)
        all_goals go_wp2
        all_goals exact hgo.down
    · have hkn' : k = n := by omega
      subst hkn'
      go_wp2_with (go_at_call 17; refine (hsort _ hbel).mono ?_; rintro e w2 ⟨rfl, hb2⟩)
      go_ret2
      obtain ⟨⟨hoks⟩⟩ := hoks
      refine ⟨RA, rc, w1, hCP.down, .inr ⟨hoks, rfl, wr, es, clk, hbel, hg, hm, ?_, hb2⟩⟩
      rw [hes, List.take_of_length_le (by omega)]
end Go.Proofs.YtlcphnmkkilefaaDoor.Ab
