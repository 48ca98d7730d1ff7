/- The abstract interpreter, part 7: operations that change the slots do so in the model. -/
import Derived.Test.YtecangnmmbcbkaaA6
set_option linter.unusedVariables false
set_option linter.unusedSimpArgs false
namespace Go.Proofs.Ytecangnmmbcbkaa.Ab
open Go Go.RowKit

section
variable {P : Program} {cfg : Cfg} {O : Nat → Prop} {B : Nat} {w0 w w' : World} {st st1 : St} {lam : Nat → Value} {tm : Array Value} {C : Cells} {α : Type}

theorem upon_of_run {o : Oper} {a : Act} {next : Act → World → Prop} {Q : Exit → Act → World → Prop} {v : Value} {w' : World} (h : (execOp a.eval o).run P w = .ok (.value v) w') (hn : next (a.put o.dst v) w') : o.wp P a w next Q := by
  unfold Oper.wp; rw [h]; exact hn
theorem kill_rel (h : Rel O B w0 st lam tm w) (s : Nat) (t : Nat) : RelEnt (Cst (Full O st.objs lam) w) (kill s st).objs lam (eget t (kill s st).env) (tm.getD t undef) := by
  simp only [Ab.kill]
  rw [eget_map _ (by simp [onSlot, slotOf])]
  refine RelEnt_map _ (fun e v he => ?_) (h.env t)
  cases hs : onSlot s e with
  | true => trivial
  | false => exact RelE_weak (fun _ _ h => h) (fun s' h' => by have := kill_objs s s' st; rw [if_neg (onSlot_false hs s' h')] at this; exact this) he

theorem opE_sound (hc : CfgOk P cfg) {o : Oper} {a : Act} (hR : Rel O B w0 st lam a.tmps w) {K : St → Option α} {r : α} (h : opE cfg o st K = some r) {next : Act → World → Prop} {Q : Exit → Act → World → Prop}
    (hn : ∀ st' lam' a' w', K st' = some r → Rel O B w0 st' lam' a'.tmps w' → a'.defers = a.defers → next a' w') : o.wp P a w next Q := by
  unfold opE at h
  split at h
  · -- alloc
    rename_i t d hop hdst
    split at h
    · rename_i T hT hd
      have ht := hc.ty _ _ hT
      obtain ⟨z, hz, hzr⟩ := ht.zero w
      refine upon_of_run (v := .pointer (some ⟨w.heap.size, 0, none⟩)) (w' := w.alloc (.cells z.cells t)) ?_ ?_
      · simp [execOp, hop, Instr.alloc, hz, newVar, newRow]
      · rw [hdst]
        exact hn _ _ (a.put (some d) _) _ h (hR.newBox hd (RelV_cells (hzr _))) rfl
    · contradiction
  · -- box
    rename_i t x d hop hdst
    split at h
    · rename_i T hT hd
      split at h
      · rename_i y hy
        have hv := asT_rel hy (ent_rel hR x)
        refine upon_of_run (v := .pointer (some ⟨w.heap.size, 0, none⟩)) (w' := w.alloc (.cells (a.eval x).cells t)) ?_ ?_
        · simp [execOp, hop, Instr.box, newVar, newRow]
        · rw [hdst]
          exact hn _ _ (a.put (some d) _) _ h (hR.newBox hd (RelV_cells hv)) rfl
      · contradiction
    · contradiction
  · -- buildSlice
    rename_i t n parts d hop hdst
    split at h
    · rename_i T e hT he hd
      split at h
      · rename_i l hl
        replace h := bif_some h
        obtain ⟨hb, h⟩ := h
        simp only [Bool.and_eq_true] at hb
        have hn1 : l.length = n := Nat.eq_of_beq_eq_true hb.1.1
        have hsz : l.length * T.size ≤ 2 ^ 24 := by have := Nat.le_of_ble_eq_true hb.1.2; omega
        have hpos : l.length ≤ maxLen := by have := Nat.le_of_ble_eq_true hb.2; simp only [maxLen]; omega
        subst hn1
        obtain ⟨u, hu, hTu⟩ := (hc.ty _ _ hT).slice
        have hu' := hc.el _ _ he
        rw [hu'] at hu
        simp only [Option.some.injEq, TypeDesc.slice.injEq] at hu
        subst hu
        obtain ⟨cells, h1, h2⟩ := run_buildSlice hR hu' hTu hl hsz
        refine upon_of_run (v := .slice (some ⟨w.heap.size, 0, none⟩) l.length l.length) (w' := w.alloc (.cells cells e)) ?_ ?_
        · simp only [execOp, hop]; rw [Sem.run_bind, h1]; rfl
        · rw [hdst]
          refine hn _ (upd lam d (.slice (some ⟨w.heap.size, 0, none⟩) l.length l.length)) (a.put (some d) _) _ h ?_ rfl
          have hlen := RdL_len h2
          simp only [Array.length_toList] at hlen
          exact hR.new (st1 := st) (row := none) hR.env hR.len (fun _ _ h => h) hd (World.grownBy_alloc w _ none) (fun g hg => by cases hg)
            (fun g hg => by simp [ownB] at hg; subst hg; exact ⟨hR.base, .inr (Nat.le_refl _)⟩)
            (fun C' hC => ⟨cells.toList, own_new hR.base hlen hpos, RdL_mono (fun _ _ => Rd_mono hC) h2⟩) (fun _ => arr_ent)
      · contradiction
    · contradiction
  · -- store
    rename_i t x v hop hdst
    split at h
    · contradiction
    · rename_i T hT
      split at h
      · contradiction
      · rename_i z hz
        have hv := RelV_cells (asT_rel hz (ent_rel hR v))
        have hx := ent_rel hR x
        split at h
        · rename_i s p hent
          rw [hent] at hx
          split at h
          · rename_i T0 y ho
            split at h
            · rename_i y' hy'
              obtain ⟨T1, x1, g, T', off, h1, h2, h3, h4⟩ := hx
              rw [ho] at h1
              simp only [Option.some.injEq, Obj.box.injEq] at h1
              obtain ⟨rfl, h1⟩ := h1
              obtain ⟨g', c, e, h5, h6, h7, h8⟩ := hR.objs s _ ho
              rw [h2] at h5
              simp only [Value.pointer.injEq, Option.some.injEq, Addr.mk.injEq, and_true] at h5
              subst h5
              obtain ⟨o1, h9, h10, h11⟩ := setP_rd h8 hy' hv
              rw [h3] at h9
              simp only [Option.some.injEq, Prod.mk.injEq] at h9
              obtain ⟨rfl, rfl⟩ := h9
              have hl := Rd_len hv
              have hl8 := Rd_len h8
              have hrun := run_storeCells_at (P := P) g off e (a.eval v).cells.toList 0 c w h7 (by rw [Nat.add_zero, hl]; simp at hl8; omega) (Rd_one hv)
              simp only [Nat.add_zero] at hrun
              unfold Oper.wp
              have : (execOp a.eval o).run P w = .ok .skip (w.setRow g (splice c.toList off (a.eval v).cells.toList).toArray) := by
                simp only [execOp, hop, Instr.storeAt, h4, Instr.sureAddr, Sem.run_bind, Sem.run_pure, Result.andThen_ok, storeVar, (hc.ty _ _ hT).sizeOf]
                have hl' : (a.eval v).cells.size = T'.size := by simpa using hl
                simp only [hl', ne_eq, not_true_eq_false, if_false, Sem.run_bind, Sem.run_pure, Result.andThen_ok, hrun]
                rfl
              rw [this]
              show next (a.put o.dst undef) _
              rw [hdst]
              exact hn _ lam a _ h (hR.store ho h2 h7 h10) rfl
            · contradiction
          · contradiction
        · contradiction
  · -- append
    rename_i args argTypes d hop hdst
    split at h
    · rename_i x y t t' hargs htys
      have e1 : args = #[x, y] := by apply Array.ext'; simpa using hargs
      have e2 : argTypes = #[t, t'] := by apply Array.ext'; simpa using htys
      subst e1; subst e2
      have hx := ent_rel hR x
      have hy := ent_rel hR y
      split at h
      · rename_i T e s hT he hent
        rw [hent] at hx
        obtain ⟨_, hxv⟩ := hx
        split at h
        · rename_i e' T' l ho
          replace h := bif_some h
          obtain ⟨hb, h⟩ := h
          simp only [Bool.and_eq_true, decide_eq_true_eq] at hb
          obtain ⟨⟨⟨hee, rfl⟩, htt⟩, hsz⟩ := hb
          obtain rfl := Nat.eq_of_beq_eq_true hee
          obtain rfl := Nat.eq_of_beq_eq_true htt
          split at h
          · rename_i l0 l1 b hl0 hl1 hbb
            obtain ⟨eT0, hl0'⟩ := castT_some hl0
            have hl0' : l = l0 := hl0'.symm
            subst hl0'
            replace h := bif_some h
            obtain ⟨hb, h⟩ := h
            have hbytes := of_decide_eq_true hb
            dsimp only at h
            split at h
            · rename_i hd
              obtain ⟨i, hi, hib, hb0⟩ := hc.bytes _ _ hbb
              have hue := hc.el _ _ he
              obtain ⟨u, hu, hTu⟩ := (hc.ty _ _ hT).slice
              rw [hue] at hu
              simp only [Option.some.injEq, TypeDesc.slice.injEq] at hu
              subst hu
              obtain ⟨i', z, hi', his, hz, hzr⟩ := base_info hTu.base
              rw [hi] at hi'
              simp only [Option.some.injEq] at hi'
              subst hi'
              have hzs : z.cells.size = T'.size := by have := Rd_len (RelV_cells (hzr (Cst (Full O st.objs lam) w))); simpa using this
              obtain ⟨xs, hown, hxs⟩ := hR.objs s _ ho
              -- what is appended, as a value
              have hsrc : ∃ A m c ys, a.eval y = .slice A m c ∧ m = l1.length ∧ (A = none → m = 0 ∧ c = 0) ∧ RdL (Rd (Cst (Full O st.objs lam) w) T') l1 ys ∧ (∀ ad, A = some ad → ∀ j u, ys[j]? = some u → w.cell? (ad.add j) = some u) := by
                split at hl1
                · rename_i s' hent'
                  rw [hent'] at hy
                  obtain ⟨_, hyv⟩ := hy
                  split at hl1
                  · rename_i e1 T1 l1' ho'
                    obtain ⟨eT, rfl⟩ := castT_some hl1
                    simp only [Ty.slice.injEq] at eT
                    subst eT
                    obtain ⟨ys, hown', hys⟩ := hR.objs s' _ ho'
                    rcases hown'.2 with ⟨hv, hl0⟩ | ⟨g, cap, cur, hv, _, hh, hnc, hm, hcs, htake⟩
                    · exact ⟨none, 0, 0, ys, by rw [hyv, hv], hl0.symm, fun _ => ⟨rfl, rfl⟩, hys, (fun ad h => by cases h)⟩
                    · refine ⟨_, l1'.length, cap, ys, by rw [hyv, hv], rfl, (fun h => by cases h), hys, fun ad h j u hj => ?_⟩
                      cases h
                      exact hown'.cells (g := g) (by rw [hv]; rfl) j u hj
                  · contradiction
                · rename_i e1 hne
                  obtain ⟨A, n, c, ys, h2, h3, ⟨h4, hnil⟩, h5, h6⟩ := RelV_slice (asT_rel hl1 hy)
                  have h2' : a.eval y = .slice A n c := by simpa using h2
                  refine ⟨A, n, c, ys, h2', h3, fun hA => ⟨by have := hnil hA; omega, hnil hA⟩, h5, fun ad hA j u hj => ?_⟩
                  have hn : 0 < n := by
                    rcases Nat.eq_zero_or_pos n with h0 | h0
                    · have : l1 = [] := List.eq_nil_of_length_eq_zero (by rw [← h3]; exact h0)
                      subst this
                      simp only [RdL] at h5
                      subst h5; simp at hj
                    · exact h0
                  obtain ⟨ad', h7, h8⟩ := h6 hn
                  rw [hA] at h7
                  simp only [Option.some.injEq] at h7
                  subst h7
                  exact (h8 j u hj).2
              obtain ⟨A, m, c, ys, hyv, rfl, hAn, hys, hcells⟩ := hsrc
              have hlt : l.length + l1.length ≤ 140737488355328 := Nat.le_trans (Nat.le_mul_of_pos_right _ hb0) hbytes
              have hsz : 0 < T'.size := by simpa using hsz
              -- the run
              have hfin : ∀ v1 w1, (Builtin.append_ #[t, t] o.type #[lam s, a.eval y]).run P w = .ok v1 w1 → w1.ownsRow B e T'.size v1 (l.length + l1.length) (xs ++ ys) → w.grownBy w1 (lam s).ownBlock →
                  (∀ g, ownB v1 = some g → B ≤ g ∧ ((lam s).ownBlock = some g ∨ w.heap.size ≤ g)) → o.wp P a w next Q := by
                intro v1 w1 hrun hown1 hgr hat
                refine upon_of_run (v := v1) (w' := w1) ?_ ?_
                · simp only [execOp, hop, resolve, invoke, builtin, Sem.run_bind, Sem.run_pure, Result.andThen_ok, List.map_toArray, List.map_cons, List.map_nil, hxv, hrun]
                · rw [hdst]
                  refine hn _ (upd lam d v1) (a.put (some d) v1) _ h ?_ rfl
                  have hob : ∀ g, (lam s).ownBlock = some g → ownB (lam s) = some g := by
                    intro g hg
                    cases hl : lam s <;> rw [hl] at hg <;> simp [Value.ownBlock] at hg
                    rename_i ad n1 c1
                    cases ad <;> simp at hg
                    simp [ownB, hg]
                  refine hR.new (st1 := kill s st) (row := (lam s).ownBlock) (kill_rel hR s) (by simpa [Ab.kill] using hR.len) (fun s' o' ho' => ?_) hd hgr (fun g hg => ⟨(hown.lt g hg).1, .inr ⟨s, _, ho, hob g hg⟩, fun s' o' ho' hb' => ?_⟩) hat
                    (fun C' hC => ⟨xs ++ ys, by rw [List.length_append]; exact hown1, RdL_append (RdL_mono (fun _ _ => Rd_mono hC) hxs) (RdL_mono (fun _ _ => Rd_mono hC) hys)⟩) (fun _ => arr_ent)
                  · rw [kill_objs] at ho'
                    split at ho'
                    · contradiction
                    · exact ho'
                  · rw [kill_objs] at ho'
                    split at ho'
                    · contradiction
                    · rename_i hne
                      exact hne (hR.apart s' s _ _ g ho' ho hb' (hob g hg))
              cases A with
              | none =>
                obtain ⟨hm0, hc0⟩ := hAn rfl
                have : l1 = [] := List.eq_nil_of_length_eq_zero hm0
                subst this
                simp only [RdL] at hys
                subst hys
                have hrun := run_append_owned_none (P := P) (w := w) B t o.type e i T'.size hue hi (lam s) l.length xs hown
                rw [hyv, hc0] at hfin
                refine hfin _ _ hrun (by simpa using hown) ⟨rfl, rfl, rfl, Nat.le_refl _, fun _ _ _ => rfl⟩ (fun g hg => ?_)
                have hg' : (lam s).ownBlock = some g := by
                  rcases hown.2 with ⟨hv, _⟩ | ⟨g1, cap, cur, hv, _⟩ <;> rw [hv] at hg ⊢ <;> simp [ownB] at hg
                  simp [Value.ownBlock, hg]
                exact ⟨(hown.lt g hg').1, .inl hg'⟩
              | some ad =>
                obtain ⟨v1, w1, hrun, hown1, hgr, hiff, hat⟩ := run_append_own_at (P := P) w B t o.type e i z T'.size b hue hi hz his hib hzs hsz (lam s) l.length xs hown ad l1.length c ys (by rw [RdL_len hys]) (hcells ad rfl) (RdL_one hys)
                  (by simp only [maxLen]; omega) hbytes hR.base
                rw [hyv] at hfin
                refine hfin _ _ hrun hown1 hgr (fun g hg => ?_)
                have hg' : v1.ownBlock = some g := by
                  rcases hown1.2 with ⟨hv, _⟩ | ⟨g1, cap, cur, hv, _⟩ <;> rw [hv] at hg ⊢ <;> simp [ownB] at hg
                  simp [Value.ownBlock, hg]
                refine ⟨(hown1.lt g hg').1, ?_⟩
                rcases hat with hat | hat
                · left; rw [← hat]; exact hg'
                · right; rw [hat] at hg'; simp only [Option.some.injEq] at hg'; omega
            · contradiction
          · contradiction
        · contradiction
      · contradiction
    · contradiction
  · contradiction
end
end Go.Proofs.Ytecangnmmbcbkaa.Ab
