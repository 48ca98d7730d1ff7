/- What the row's listed variables say: the tables lie where they were laid. -/
import Derived.Test.YtlcphnmkkilefaaDoorA12
import Derived.Lib.LaidTab
import Derived.Test.YtlcphnmkkilefaaDoorRows
import Derived.Test.YtlcphnmkkilefaaDoorProg
import Derived.KernelRfl
set_option linter.unusedVariables false
set_option linter.unusedSimpArgs false
set_option maxRecDepth 100000
namespace Go.Proofs.YtlcphnmkkilefaaDoor.Ab
open Go Go.RowKit
def pairV (z : Int × Int) : List Value := [.int .u8 z.1, .int .u8 z.2]
theorem pairs_get : ∀ (l : List (Int × Int)) (i r : Nat), r < 2 → (l.flatMap pairV)[i * 2 + r]? = (l[i]?).bind fun z => (pairV z)[r]?
  | [], i, r, _ => by simp
  | z :: l, 0, r, hr => by
    rw [List.flatMap_cons, List.getElem?_append_left (by show 0 * 2 + r < 2; omega)]
    simp
  | z :: l, i + 1, r, hr => by
    rw [List.flatMap_cons, List.getElem?_append_right (by show 2 ≤ _; omega)]
    have : (i + 1) * 2 + r - (pairV z).length = i * 2 + r := by show (i + 1) * 2 + r - 2 = _; omega
    rw [this, pairs_get l i r hr]
    simp
theorem cells_of_pairs {H : Type} {enc : TypeId × Value → H} {P : Program} {w : World} {base : Nat} {sp : Nat → Bool} {held : Bool} {fuel : Nat} {t e u : TypeId} {n : Nat} {fs : Array Field} {cs : List Value} {zs : List (Int × Int)} {p : List MemPlace}
    (ht : P.underlying t = some (.array n e)) (he : P.underlying e = some (.struct fs)) (hf : fs.toList.map (fun f => (f.type, f.offset)) = [(u, 0), (u, 1)]) (hu : P.underlying u = some (.int .u8))
    (hce : P.cellsOf e = 2) (hct : P.cellsOf t = n * 2) (hcu : P.cellsOf u = 1)
    (h : DataW.trod enc P w base sp held fuel t cs = some (.agg (zs.map fun z => .agg [.lit (.int .u8 z.1), .lit (.int .u8 z.2)]), p)) : cs = zs.flatMap pairV := by
  obtain ⟨f0, f1, hfs, h0, h1⟩ : ∃ f0 f1 : Field, fs.toList = [f0, f1] ∧ (f0.type = u ∧ f0.offset = 0) ∧ (f1.type = u ∧ f1.offset = 1) := by
    match hfl : fs.toList with
    | [] => simp [hfl] at hf
    | [a] => simp [hfl] at hf
    | a :: b :: c :: l => simp [hfl] at hf
    | [a, b] =>
      simp only [hfl, List.map_cons, List.map_nil, List.cons.injEq, Prod.mk.injEq, and_true] at hf
      exact ⟨a, b, rfl, hf.1, hf.2⟩
  cases fuel with
  | zero => simp [DataW.trod] at h
  | succ fuel =>
    simp only [DataW.trod, ht, hce, hct] at h
    split at h
    · rename_i hl
      obtain ⟨xs, hm, hx⟩ := Option.map_eq_some_iff.1 h
      have hxs : xs.map (·.1) = zs.map fun z => (DataW.agg [.lit (.int .u8 z.1), .lit (.int .u8 z.2)] : DataW H) := by
        have := congrArg Prod.fst hx
        simpa using this
      have hxl : xs.length = n := by simpa using Lib.mapM_length hm
      have hzl : zs.length = n := by
        have := congrArg List.length hxs
        simp at this
        omega
      apply List.ext_getElem?
      intro j
      obtain ⟨i, r, hr, rfl⟩ : ∃ i r, r < 2 ∧ j = i * 2 + r := ⟨j / 2, j % 2, Nat.mod_lt _ (by omega), by omega⟩
      rw [pairs_get zs i r hr]
      by_cases hi : i < n
      · obtain ⟨b, hb, hfb⟩ := Lib.mapM_at hm i i (by simp [hi])
        have h2 : (xs.map (·.1))[i]? = some b.1 := by simp [hb]
        rw [hxs, List.getElem?_map, Option.map_eq_some_iff] at h2
        obtain ⟨z, hz, hzb⟩ := h2
        rw [hz]
        simp only [Option.bind_some]
        cases fuel with
        | zero => simp [DataW.trod] at hfb
        | succ fuel =>
          simp only [DataW.trod, he, hce, hfs] at hfb
          split at hfb
          · obtain ⟨ys, hym, hyb⟩ := Option.map_eq_some_iff.1 hfb
            have hy : ys.map (·.1) = [.lit (.int .u8 z.1), .lit (.int .u8 z.2)] := by
              have := congrArg Prod.fst hyb
              rw [← hzb] at this
              simpa using this
            obtain ⟨y0, hy0, g0⟩ := Lib.mapM_at hym 0 f0 rfl
            obtain ⟨y1, hy1, g1⟩ := Lib.mapM_at hym 1 f1 rfl
            rw [h0.1, h0.2, hcu] at g0
            rw [h1.1, h1.2, hcu] at g1
            obtain ⟨n0, c0, rfl, _⟩ := DataW.trod_int hu g0
            obtain ⟨n1, c1, rfl, _⟩ := DataW.trod_int hu g1
            have a0 : (ys.map (·.1))[0]? = some (DataW.lit (.int .u8 n0)) := by simp [hy0]
            have a1 : (ys.map (·.1))[1]? = some (DataW.lit (.int .u8 n1)) := by simp [hy1]
            rw [hy] at a0 a1
            simp only [List.getElem?_cons_zero, List.getElem?_cons_succ, Option.some.injEq, DataW.lit.injEq, Lit.int.injEq, true_and] at a0 a1
            have k0 : cs[i * 2]? = some (.int .u8 n0) := by
              have := congrArg (·[0]?) c0
              simpa [List.getElem?_take, List.getElem?_drop] using this
            have k1 : cs[i * 2 + 1]? = some (.int .u8 n1) := by
              have := congrArg (·[0]?) c1
              simpa [List.getElem?_take, List.getElem?_drop] using this
            match r, hr with
            | 0, _ => rw [Nat.add_zero, k0, ← a0]; rfl
            | 1, _ => rw [k1, ← a1]; rfl
          · cases hfb
      · rw [List.getElem?_eq_none (by omega), List.getElem?_eq_none (by omega)]
        rfl
    · cases h
theorem RdL_u8 {C : Cells} : ∀ l : List Int, RdL (Rd C (.int .u8)) l (l.map fun z => Value.int .u8 z)
  | [] => rfl
  | x :: l => ⟨[_], _, rfl, rfl, RdL_u8 l⟩
theorem RdL_acc {C : Cells} : ∀ l : List (Int × Int), RdL (Rd C AccT) (l.map fun z => (z.1, (z.2, ()))) (l.flatMap pairV)
  | [] => rfl
  | x :: l => ⟨pairV x, _, rfl, ⟨[_], [_], rfl, rfl, [_], [], rfl, rfl, rfl⟩, RdL_acc l⟩
def accZ : List (Int × Int) := accL.map fun x => (x.1, x.2.1)
theorem accZ_eq : accL = accZ.map fun z => (z.1, (z.2, ())) := rfl
theorem acc_data : Rows.laid_unicode_utf8_acceptRanges (H := Unit) = .agg (accZ.map fun z => .agg [.lit (.int .u8 z.1), .lit (.int .u8 z.2)]) := by kernel_rfl
theorem first_data : Rows.laid_unicode_utf8_first = Lib.tabData .u8 firstL := by kernel_rfl
theorem glob_first : Tryd.prog.globalNamed "unicode/utf8.first" = some 1 := by kernel_rfl
theorem glob_acc : Tryd.prog.globalNamed "unicode/utf8.acceptRanges" = some 2 := by kernel_rfl
theorem amb_ok {W : World} (h : laidMet Tryd.prog [("unicode/utf8.acceptRanges", Rows.laid_unicode_utf8_acceptRanges), ("unicode/utf8.first", Rows.laid_unicode_utf8_first)] W) : AmbOk (Cst (fun _ => False) W) := by
  obtain ⟨ps, ⟨g1, t1, c1, u1, p1, q1, hg1, ht1, hv1, hd1, ⟨g2, t2, c2, u2, p2, q2, hg2, ht2, hv2, hd2, _, _⟩, _⟩, _⟩ := h
  obtain rfl := Option.some.inj (glob_acc.symm.trans hg1)
  obtain rfl := Option.some.inj (glob_first.symm.trans hg2)
  obtain rfl := Option.some.inj ((show (Tryd.prog.globals[2]?).map (·.type) = some 119 by kernel_rfl).symm.trans ht1)
  obtain rfl := Option.some.inj ((show (Tryd.prog.globals[1]?).map (·.type) = some 116 by kernel_rfl).symm.trans ht2)
  rw [acc_data] at hd1
  rw [first_data] at hd2
  have e1 := cells_of_pairs (u := 5) Tryd.underlying119 Tryd.underlying118 (by kernel_rfl) Tryd.underlying5 (by kernel_rfl) (by kernel_rfl) (by kernel_rfl) hd1
  have e2 := Lib.cells_of_tab Tryd.underlying116 Tryd.underlying5 (by kernel_rfl) (by kernel_rfl) hd2
  intro g T l hg
  have hat : ∀ {nm : String} {g : Nat} {c : Array Value} (hgl : Tryd.prog.globalNamed nm = some g) (hv : W.var? Tryd.prog nm = some c) (j : Nat) (u : Value), c.toList[j]? = some u → Cst (fun _ => False) W ((⟨g, 0, none⟩ : Addr).add j) u := by
    intro nm g c hgl hv j u hj
    refine ⟨fun h => h, look_cell ?_⟩
    rw [Addr.add_lit, Nat.zero_add, World.var?_cell hgl hv j]
    simpa using hj
  simp only [ambL, lk] at hg
  cases h1 : Nat.beq 1 g with
  | true =>
    obtain rfl := Nat.eq_of_beq_eq_true h1
    rw [h1] at hg
    simp only [cond_true, Option.some.injEq] at hg
    cases hg
    exact ⟨_, RdL_u8 firstL, fun j u hj => hat glob_first hv2 j u (by rw [e2]; exact hj)⟩
  | false =>
    rw [h1] at hg
    simp only [cond_false] at hg
    cases h2 : Nat.beq 2 g with
    | true =>
      obtain rfl := Nat.eq_of_beq_eq_true h2
      rw [h2] at hg
      simp only [cond_true, Option.some.injEq] at hg
      cases hg
      exact ⟨_, RdL_acc accZ, fun j u hj => hat glob_acc hv1 j u (by rw [e1]; exact hj)⟩
    | false => rw [h2] at hg; cases hg
#print axioms amb_ok
end Go.Proofs.YtlcphnmkkilefaaDoor.Ab
