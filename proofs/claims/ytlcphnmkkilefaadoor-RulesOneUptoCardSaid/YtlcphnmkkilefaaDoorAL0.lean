/- slices.Insert, walked: the laws of copy over rows. -/
import Derived.Test.YtlcphnmkkilefaaDoorAK
import Derived.Test.YtlcphnmkkilefaaDoorProg
import Derived.Shelf.RegionOpenPlain
import Derived.WalkKit
import Derived.WalkSpells
import Derived.Lib.Walk
import Derived.Lib.SliceRun
import Derived.Lib.JoinLaws
import Derived.Lib.AppendZeros
import Derived.Lib.AppendZerosOnto
import Derived.Lib.Overlaps
import Derived.Laws.Externs
import Derived.Laws.IdiomCopy
import Derived.Laws.CopyRow
import Derived.KernelRfl
set_option linter.unusedVariables false
set_option linter.unusedSimpArgs false
namespace Go.Proofs.YtlcphnmkkilefaaDoor.Ab
open Go Go.RowKit Go.Lib
open Go.Proofs.YtlcphnmkkilefaaDoor
theorem run_copy_rows {P : Program} (w : World) (dT sT ty elem : TypeId) (k g o dLen dCap : Nat) (a : Addr) (sLen sCap : Nat) (cur : Array Value) (t : TypeId) (cs : List Value)
    (hu : P.underlying dT = some (.slice elem)) (hs : (P.info? elem).map (·.size) = some k)
    (hg : w.heap[g]? = some (.cells cur t (0, 0))) (hn : cs.length = Nat.min sLen dLen * k)
    (hsrc : ∀ j v, cs[j]? = some v → w.cell? (a.add j) = some v) (hfit : o + cs.length ≤ cur.size) (h1 : ∀ v ∈ cs, v.oneCell' = true) :
    (Builtin.copy_ #[dT, sT] ty #[.slice (some ⟨g, o, none⟩) dLen dCap, .slice (some a) sLen sCap]).run P w =
      .ok (goInt (Nat.min sLen dLen)) (w.setRow g (cur.toList.take o ++ cs ++ cur.toList.drop (o + cs.length)).toArray) := by
  have hl := run_loadCells_list (P := P) w a cs hsrc
  have hst := run_storeCells_at P g o t cs 0 cur w hg (by simpa using hfit) h1
  cases hq : P.info? elem with
  | none => simp [hq] at hs
  | some i =>
    have hi : i.size = k := by simpa [hq] using hs
    simp [Builtin.copy_, run_underlying hu, Builtin.lenOf, Builtin.firstCells, sizeOf, typeInfo, hq, hi, ← hn, hl, hst]

theorem wp_copy_run (P : Program) (w : World) {o : Oper} {a : Act} {K : Act → World → Prop} {Q : Exit → Act → World → Prop} (d s : Operand) (t t' : TypeId)
    (ho : o.op = .call { callee := .builtin .copy, args := #[d, s], argTypes := #[t, t'] }) {v' : Value} {w' : World}
    (hr : (Builtin.copy_ #[t, t'] o.type #[a.eval d, a.eval s]).run P w = .ok v' w') (h : K (a.put o.dst v') w') : o.wp P a w K Q := by
  unfold Oper.wp execOp
  simp only [ho, resolve, invoke, builtin, Sem.run_bind, Sem.run_pure, Result.andThen_ok, List.map_toArray, List.map_cons, List.map_nil, hr]
  exact h
theorem wpList_copy_run (P : Program) (w : World) {ops : Array Oper} {rest : List Oper} {o : Oper} {a : Act} {Q : Exit → Act → World → Prop} (hgd : o.guard = none) (d s : Operand) (t t' : TypeId)
    (ho : o.op = .call { callee := .builtin .copy, args := #[d, s], argTypes := #[t, t'] }) (v u : Value) (hd : a.eval d = v) (hs : a.eval s = u) {v' : Value} {w' : World}
    (hr : (Builtin.copy_ #[t, t'] o.type #[v, u]).run P w = .ok v' w') (h : wpList P ops Q rest (a.put o.dst v') w') : wpList P ops Q (o :: rest) a w :=
  wpList_plain hgd fun _ hK => wp_copy_run P w d s t t' ho (by rw [hd, hs]; exact hr) (hK _ _ h)
theorem step_copy_run (P : Program) {ops : Array Oper} {o : Oper} {a : Act} {w : World} {K : Act → World → Prop} {Q : Exit → Act → World → Prop} {E : Prop}
    (hg : o.guard = none) (d x : Operand) (dT sT : TypeId) (hop : o.op = Op.call { callee := Callee.builtin Builtin.copy, args := #[d, x], argTypes := #[dT, sT] })
    (v u : Value) (hd : a.eval d = v) (hx : a.eval x = u) {v' : Value} {w' : World} (hr : (Builtin.copy_ #[dT, sT] o.type #[v, u]).run P w = .ok v' w') (hK : K (a.put o.dst v') w') :
    if Region.wanted o (yielded ops a.tmps) = true then Oper.wp P o a w K Q else E := by
  have hw : Region.wanted o (yielded ops a.tmps) = true := by simp [Region.wanted, hg]
  rw [if_pos hw]
  exact wp_copy_run P w d x dT sT hop (by rw [hd, hx]; exact hr) hK


theorem owns_ownBlock {w : World} {e : TypeId} {k : Nat} {v : Value} {n : Nat} {xs : List Value} (h : w.ownsRow 0 e k v n xs) {g : Nat} : owns v g ↔ v.ownBlock = some g := by
  rcases h.2 with ⟨rfl, _⟩ | ⟨g', cap, cur, rfl, _⟩ <;> simp [owns, Value.ownBlock]
theorem insert_ok {P : Program} {nt : Nat} {f : FuncId} {e : TypeId} {T : Ty} {by0 : Nat}
    (walk : ∀ (v u : Value) (n m i : Nat) (xs ys : List Value) (w : World), w.ownsRow 0 e T.size v n xs → w.ownsRow 0 e T.size u m ys → (∀ g, v.ownBlock = some g → u.ownBlock ≠ some g) → i ≤ n → 0 < m →
      (∀ x ∈ xs, x.oneCell' = true) → (∀ x ∈ ys, x.oneCell' = true) → (n + m) * by0 ≤ 140737488355328 →
      Calls P f #[v, .int .i64 i, u] w fun e1 w' => ∃ v', e1 = .returned v' ∧ w'.ownsRow 0 e T.size v' (n + m) (xs.take (i * T.size) ++ (ys ++ xs.drop (i * T.size))) ∧ w.grownBy w' v.ownBlock ∧ (v'.ownBlock = v.ownBlock ∨ v'.ownBlock = some w.heap.size)) :
    ∀ n args ob S (x : denS S), gInsert e T by0 n args ob S = some x → ICallOk P nt f args ob S x := by
  intro n args ob S x h
  unfold gInsert at h
  split at h
  · rename_i e' T' s i u s' e2 T2 l u' e3 T3 v
    split at h
    · rename_i v' l' hv' hl'
      replace h := bif_some h
      obtain ⟨hb, h⟩ := h
      simp only [Bool.and_eq_true, decide_eq_true_eq, Bool.not_eq_true'] at hb
      obtain ⟨⟨⟨⟨⟨⟨⟨⟨he, rfl⟩, hs⟩, hu⟩, hsu⟩, h2⟩, h3⟩, hm⟩, ⟨hi0, hi1⟩, hbound⟩ := hb
      obtain rfl := Nat.eq_of_beq_eq_true he
      obtain rfl := Nat.eq_of_beq_eq_true hs
      obtain rfl := Nat.eq_of_beq_eq_true hu
      obtain rfl := Nat.eq_of_beq_eq_true h2
      obtain rfl := Nat.eq_of_beq_eq_true h3
      have hne : s ≠ u := by rintro rfl; simp at hsu
      obtain ⟨r1, hv2⟩ := castT_some hv'
      obtain ⟨r2, hl2⟩ := castT_some hl'
      simp only [Ty.slice.injEq] at r1 r2
      subst r1; subst r2
      have hv2 : v = v' := by simpa using hv2.symm
      have hl2 : l = l' := by simpa using hl2.symm
      subst hv2; subst hl2
      simp only [Option.some.injEq] at h
      subst h
      intro O w cargs lam hO hmem hA hargs
      obtain ⟨c0, r, e0, hr0, c1, r, rfl, hr1, c2, r, rfl, hr2, rfl⟩ := hargs
      obtain ⟨_, rfl⟩ := hr0
      obtain ⟨_, rfl⟩ := hr2
      have hr1 : c1 = .int .i64 i := RelV_int (C := Cst (Full O [(s, Obj.arr e' T2 l), (u, Obj.arr e' T2 v)] lam) w) hr1
      subst hr1
      have hca : cargs = #[lam s, .int .i64 i, lam u] := Array.ext' e0
      subst hca
      have hos : oget s [(s, Obj.arr e' T2 l), (u, Obj.arr e' T2 v)] = some (.arr e' T2 l) := by rw [oget_cons, if_pos rfl]
      have hou : oget u [(s, Obj.arr e' T2 l), (u, Obj.arr e' T2 v)] = some (.arr e' T2 v) := by rw [oget_cons, if_neg (fun e => hne e.symm), oget_cons, if_pos rfl]
      obtain ⟨xs, ⟨hxs, hxN⟩, hxl⟩ := hmem.obj s _ hos
      obtain ⟨ys, ⟨hys, hyN⟩, hyl⟩ := hmem.obj u _ hou
      obtain ⟨k, rfl⟩ : ∃ k : Nat, i = (k : Int) := Int.eq_ofNat_of_zero_le hi0
      have hk : k ≤ l.length := by simpa using hi1
      refine (walk (lam s) (lam u) l.length v.length k xs ys w hxs hys (fun g hg hg' => hne (hmem.apart s u _ _ g hos hou (by rw [owns_ownBlock hxs]; exact hg) (by rw [owns_ownBlock hys]; exact hg'))) hk hm (RdL_one hxl) (RdL_one hyl) hbound).mono ?_
      rintro e1 w' ⟨v1, rfl, hown, hgr, hat⟩
      have hFs : ∀ g, (lam s).ownBlock = some g → Full O [(s, Obj.arr e' T2 l), (u, Obj.arr e' T2 v)] lam g := fun g hg => .inr ⟨s, _, hos, by rw [owns_ownBlock hxs]; exact hg⟩
      let lam' : Nat → Value := fun t => if t = nt + 2 then v1 else lam t
      have hl1 : lam' (nt + 2) = v1 := by simp [lam']
      have hC : ∀ a y, Cst (Full O [(s, Obj.arr e' T2 l), (u, Obj.arr e' T2 v)] lam) w a y → Cst (Full O [(nt + 2, Obj.arr e' T2 (l.take k ++ v ++ l.drop k))] lam') w' a y := by
        rintro a y ⟨hn, hc⟩
        have hlt := look_lt hc
        have hsame : w'.heap[a.block]? = w.heap[a.block]? := hgr.block a.block hlt (fun e => hn (hFs _ e.symm))
        refine ⟨?_, ?_⟩
        · rintro (h1 | ⟨t, o, h1, h2⟩)
          · exact hn (.inl h1)
          · rw [oget_cons] at h1
            split at h1
            · rename_i ht
              subst ht
              rw [hl1, owns_ownBlock hown] at h2
              rcases hat with hat | hat
              · exact hn (hFs _ (by rw [← hat]; exact h2))
              · rw [hat] at h2; simp only [Option.some.injEq] at h2; omega
            · simp [oget] at h1
        · rw [look_eq hsame]; exact hc
      refine ⟨v1, lam', rfl, ⟨hgr.os, hgr.tape, hgr.output, hgr.size, fun g hg hn => hgr.block g hg (fun e => hn (.inl ⟨s, _, hos, by rw [owns_ownBlock hxs]; exact e.symm⟩))⟩, fun t o ho h1 h2 => ?_, ⟨fun t o ho => ?_, fun t t' o o' g h1 h2 _ _ => ?_⟩, ?_⟩
      · have h2' : t < nt + 2 := h2
        have ho' : oget t [(nt + 2, Obj.arr e' T2 (l.take k ++ v ++ l.drop k))] = some o := ho
        rw [oget_cons, if_neg (by omega)] at ho'
        simp [oget] at ho'
      · have ho' : oget t [(nt + 2, Obj.arr e' T2 (l.take k ++ v ++ l.drop k))] = some o := ho
        rw [oget_cons] at ho'
        split at ho'
        · rename_i ht
          subst ht
          simp only [Option.some.injEq] at ho'
          subst ho'
          rw [hl1]
          refine ⟨xs.take (k * T2.size) ++ (ys ++ xs.drop (k * T2.size)), ⟨?_, fun g hg => ?_⟩, ?_⟩
          · have hln : (l.take k ++ v ++ l.drop k).length = l.length + v.length := by
              rw [List.length_append, List.length_append, List.length_take, List.length_drop]; omega
            rw [hln]; exact hown
          · rw [owns_ownBlock hown] at hg
            rcases hat with hat | hat
            · exact .inl ⟨s, _, hos, by rw [owns_ownBlock hxs, ← hat]; exact hg⟩
            · rw [hat] at hg; simp only [Option.some.injEq] at hg; exact .inr (by omega)
          · have e5 : xs.take (k * T2.size) ++ (ys ++ xs.drop (k * T2.size)) = xs.take (k * T2.size) ++ ys ++ xs.drop (k * T2.size) := (List.append_assoc _ _ _).symm
            rw [e5]
            exact RdL_append (RdL_append (RdL_mono (fun _ _ => Rd_mono hC) (RdL_take k hxl)) (RdL_mono (fun _ _ => Rd_mono hC) hyl)) (RdL_mono (fun _ _ => Rd_mono hC) (RdL_drop k hxl))
        · simp [oget] at ho'
      · have h1' : oget t [(nt + 2, Obj.arr e' T2 (l.take k ++ v ++ l.drop k))] = some o := h1
        have h2' : oget t' [(nt + 2, Obj.arr e' T2 (l.take k ++ v ++ l.drop k))] = some o' := h2
        rw [oget_cons] at h1' h2'
        split at h1'
        · split at h2'
          · rename_i a b; rw [a, b]
          · simp [oget] at h2'
        · simp [oget] at h1'
      · exact hl1
    · contradiction
  · contradiction
end Go.Proofs.YtlcphnmkkilefaaDoor.Ab
