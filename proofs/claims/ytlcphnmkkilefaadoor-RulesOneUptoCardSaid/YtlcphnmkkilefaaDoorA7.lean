/- The abstract interpreter, part 7: operations that change the slots do so in the model. -/
import Derived.Test.YtlcphnmkkilefaaDoorA6
set_option linter.unusedVariables false
set_option linter.unusedSimpArgs false
namespace Go.Proofs.YtlcphnmkkilefaaDoor.Ab
open Go Go.RowKit

section
variable {P : Program} {cfg : Cfg} {O : Nat → Prop} {B : Base} {w0 w w' : World} {st st1 : St} {lam : Nat → Value} {tm : Array Value} {C : Cells} {α : Type}

theorem upon_of_run {o : Oper} {a : Act} {next : Act → World → Prop} {Q : Exit → Act → World → Prop} {v : Value} {w' : World} (h : (execOp a.eval o).run P w = .ok (.value v) w') (hn : next (a.put o.dst v) w') : o.wp P a w next Q := by
  unfold Oper.wp; rw [h]; exact hn
theorem run_next_str {r p : Nat} {s : ByteArray} (h : w.heap[r]? = some (.stringIter s p)) (t : TypeId) : (Instr.next (.pointer (some ⟨r, 0, none⟩)) true t).run P w =
    if p < s.size then .ok (.tuple #[.bool true, .int .i64 (p : Int), .int .i32 ((Utf8.decode s p).1 : Int)]) { w with heap := w.heap.setIfInBounds r (.stringIter s (p + (Utf8.decode s p).2)) } else .ok (.tuple #[.bool false]) w := by
  simp only [Instr.next, getObj, Sem.run_bind, Sem.run, h, Result.andThen]
  split
  · simp [setObj, Sem.run, h, goInt]
  · rfl
theorem kill_rel (h : Rel O B w0 st lam tm w) (s : Nat) (t : Nat) : RelEnt (Cst (Full O st.objs lam) w) (kill s st).objs lam (eget t (kill s st).env) (tm.getD t undef) := by
  simp only [Ab.kill]
  rw [eget_map _ (by simp [onSlot, slotOf])]
  refine RelEnt_map _ (fun e v he => ?_) (h.env t)
  cases hs : onSlot s e with
  | true => trivial
  | false => exact RelE_weak (fun _ _ h => h) (fun s' h' => by have := kill_objs s s' st; rw [if_neg (onSlot_false hs s' h')] at this; exact this) he


/-! rows: elements by place -/
theorem RdL_split {C : Cells} {T : Ty} : ∀ {l : List (den T)} {xs : List Value} (i : Nat), i < l.length → RdL (Rd C T) l xs →
    ∃ pre es post, xs = pre ++ es ++ post ∧ pre.length = i * T.size ∧ Rd C T (l.getD i (dflt T)) es ∧ ∀ y es', Rd C T y es' → RdL (Rd C T) (l.set i y) (pre ++ es' ++ post)
  | [], _, i, hi, _ => by simp at hi
  | x :: l, _, 0, _, ⟨a, b, e, h1, h2⟩ => ⟨[], a, b, by simp [e], by simp, by simpa using h1, fun y es' hy => ⟨es', b, by simp, hy, h2⟩⟩
  | x :: l, _, i + 1, hi, ⟨a, b, e, h1, h2⟩ => by
    obtain ⟨pre, es, post, e1, e2, e3, e4⟩ := RdL_split i (by simpa using hi) h2
    have hl := Rd_len h1
    refine ⟨a ++ pre, es, post, by rw [e, e1]; simp, by rw [List.length_append, e2, hl, Nat.add_mul]; omega, by simpa using e3, fun y es' hy => ⟨a, pre ++ es' ++ post, by simp, h1, e4 y es' hy⟩⟩
theorem splice_mid (pre es post : List Value) (off : Nat) (new : List Value) (h : off + new.length ≤ es.length) : splice (pre ++ es ++ post) (pre.length + off) new = pre ++ splice es off new ++ post := by
  have e1 : (pre ++ es ++ post).take (pre.length + off) = pre ++ es.take off := by
    rw [List.append_assoc, List.take_length_add_append, List.take_append_of_le_length (by omega)]
  have e2 : (pre ++ es ++ post).drop (pre.length + off + new.length) = es.drop (off + new.length) ++ post := by
    rw [List.append_assoc, Nat.add_assoc, List.drop_length_add_append, List.drop_append_of_le_length h]
  unfold splice
  rw [e1, e2]; simp
theorem zeroCells_list (z : Array Value) (n : Nat) : (Builtin.zeroCells z n).toList = (List.replicate n z.toList).flatten := by
  unfold Builtin.zeroCells
  rw [Array.toList_map, Array.toList_range]
  induction n with
  | zero => simp
  | succ n ih =>
    rw [List.replicate_succ', List.flatten_append, ← ih, Nat.add_mul, Nat.one_mul, List.range_add, List.map_append]
    congr 1
    simp only [List.flatten_cons, List.flatten_nil, List.append_nil, List.map_map]
    apply List.ext_getElem
    · simp
    · intro i h1 h2
      have hi : i < z.size := by simpa using h2
      simp [Nat.mod_eq_of_lt hi, hi]
theorem RdL_replicate {C : Cells} {T : Ty} {x : den T} {cs : List Value} (h : Rd C T x cs) : ∀ n, RdL (Rd C T) (List.replicate n x) (List.replicate n cs).flatten
  | 0 => rfl
  | n + 1 => ⟨cs, _, by simp [List.replicate_succ], h, RdL_replicate h n⟩
/-- What a slot's row is. -/
theorem row_cells {w : World} {B : Base} {C : Cells} {e : TypeId} {T : Ty} {l : List (den T)} {v : Value} (h : RelO C w B v (.arr e T l)) (hl : 0 < l.length) :
    ∃ g cap cur xs, v = .slice (some ⟨g, 0, none⟩) l.length cap ∧ B.N g ∧ w.heap[g]? = some (.cells cur e (0, 0)) ∧ l.length ≤ cap ∧ cap ≤ maxLen ∧ cur.size = cap * T.size ∧ cur.toList.take (l.length * T.size) = xs ∧ RdL (Rd C T) l xs := by
  obtain ⟨xs, ⟨h1, hN⟩, h2⟩ := h
  rcases h1.2 with ⟨_, h0⟩ | ⟨g, cap, cur, hv, _, hh, hnc, hm, hcs, htake⟩
  · omega
  · exact ⟨g, cap, cur, xs, hv, hN g (by rw [hv]; rfl), hh, hnc, hm, hcs, htake, h2⟩

theorem slice_run {a : Act} (hR : Rel O B w0 st lam a.tmps w) {t u : TypeId} {T : Ty} (hu : P.underlying t = some (.slice u)) (hTu : TOk P T u) {lo hi : Option Operand} {A : Option Addr} {n c : Nat} {i j : Int}
    (hlo : (match lo with | none => some 0 | some y => asInt (ent st y)) = some i) (hhi : (match hi with | none => some (n : Int) | some y => asInt (ent st y)) = some j) (h0 : 0 ≤ i) (h01 : i ≤ j) (h1 : j ≤ n) (h4 : n ≤ c) :
    (Instr.slice t (.slice A n c) (lo.map a.eval) (hi.map a.eval) none).run P w = .ok (.slice (if c = i.toNat then A else A.map (·.add (i.toNat * T.size))) (j.toNat - i.toNat) (c - i.toNat)) w := by
  have hbd : (Instr.sliceBounds true n c (lo.map a.eval) (hi.map a.eval) none).run P w = .ok (i.toNat, j.toNat, c) w := by
    have bnd : ∀ (y : Operand) (q : Int) (m : Nat) (code : BoundsCode), asInt (ent st y) = some q → 0 ≤ q → q ≤ m → (Instr.sliceBound (a.eval y) m code).run P w = .ok q.toNat w := by
      intro y q m code hy hq0 hq1
      obtain ⟨k, hk⟩ := asInt_rel hy (ent_rel hR y)
      simp [Instr.sliceBound, asIntOf, hk, hq0, hq1]
    unfold Instr.sliceBounds
    cases hi with
    | none =>
      simp only [Option.some.injEq] at hhi
      subst hhi
      cases lo with
      | none => simp only [Option.some.injEq] at hlo; subst hlo; simp <;> omega
      | some y =>
        have := bnd y i n .sliceB hlo h0 (by omega)
        simp [this] <;> omega
    | some z =>
      have hz := bnd z j c .sliceAcap hhi (by omega) (by omega)
      cases lo with
      | none => simp only [Option.some.injEq] at hlo; subst hlo; simp [hz]
      | some y =>
        have := bnd y i j.toNat .sliceB hlo h0 (by omega)
        simp [hz, this]
  simp only [Instr.slice, Sem.run_bind, run_underlying hu, Result.andThen_ok, hbd, hTu.sizeOf, Sem.run_pure]
/-- The head of a slot's row. -/
theorem row_head {w : World} {B : Base} {C : Cells} {e : TypeId} {T : Ty} {l : List (den T)} {v : Value} (h : RelO C w B v (.arr e T l)) :
    ∃ xs, xs.length = l.length * T.size ∧ RdL (Rd C T) l xs ∧ ((v = .slice none 0 0 ∧ l = []) ∨ ∃ g cap cur, v = .slice (some ⟨g, 0, none⟩) l.length cap ∧ B.N g ∧ w.heap[g]? = some (.cells cur e (0, 0)) ∧ l.length ≤ cap ∧ cap ≤ maxLen ∧ cur.size = cap * T.size ∧ cur.toList.take (l.length * T.size) = xs) := by
  obtain ⟨xs, ⟨h1, hN⟩, h2⟩ := h
  refine ⟨xs, h1.1, h2, ?_⟩
  rcases h1.2 with ⟨hv, h0⟩ | ⟨g, cap, cur, hv, _, hh, hnc, hm, hcs, htake⟩
  · exact .inl ⟨hv, List.eq_nil_of_length_eq_zero h0⟩
  · exact .inr ⟨g, cap, cur, hv, hN g (by rw [hv]; rfl), hh, hnc, hm, hcs, htake⟩

theorem opE_sound (hc : CfgOk P cfg) {o : Oper} {a : Act} (hR : Rel O B w0 st lam a.tmps w) {K : St → Option α} {r : α} (h : opE cfg o st K = some r) {next : Act → World → Prop} {Q : Exit → Act → World → Prop}
    (hn : ∀ st' lam' a' w', K st' = some r → Rel O B w0 st' lam' a'.tmps w' → a'.defers = a.defers → next a' w') : o.wp P a w next Q := by
  unfold opE at h
  split at h
  · -- alloc
    rename_i t d hop hdst
    split at h
    · rename_i T hT hd
      obtain ⟨hd, hdn⟩ := dfree_true hd
      have ht := hc.ty _ _ hT
      obtain ⟨z, hz, hzr⟩ := ht.zero w
      refine upon_of_run (v := .pointer (some ⟨w.heap.size, 0, none⟩)) (w' := w.alloc (.cells z.cells t)) ?_ ?_
      · simp [execOp, hop, Instr.alloc, hz, newVar, newRow]
      · rw [hdst]
        exact hn _ _ (a.put (some d) _) _ h (hR.newBox hd hdn (RelV_cells (hzr _))) rfl
    · contradiction
  · -- box
    rename_i t x d hop hdst
    split at h
    · rename_i T hT hd
      obtain ⟨hd, hdn⟩ := dfree_true hd
      split at h
      · rename_i y hy
        have hv := asT_rel hy (ent_rel hR x)
        refine upon_of_run (v := .pointer (some ⟨w.heap.size, 0, none⟩)) (w' := w.alloc (.cells (a.eval x).cells t)) ?_ ?_
        · simp [execOp, hop, Instr.box, newVar, newRow]
        · rw [hdst]
          exact hn _ _ (a.put (some d) _) _ h (hR.newBox hd hdn (RelV_cells hv)) rfl
      · contradiction
    · contradiction
  · -- buildSlice
    rename_i t n parts d hop hdst
    split at h
    · rename_i T e hT he hd
      obtain ⟨hd, hdn⟩ := dfree_true hd
      split at h
      · rename_i l hl
        replace h := bif_some h
        obtain ⟨hb, h⟩ := h
        simp only [Bool.and_eq_true] at hb
        have hn1 : l.length = n := Nat.eq_of_beq_eq_true hb.1.1
        have hsz : l.length * T.size ≤ 2 ^ 24 := by have := Nat.le_of_ble_eq_true hb.1.2; omega
        have hpos : l.length ≤ maxLen := by have := Nat.le_of_ble_eq_true hb.2; simp only [maxLen]; omega
        subst hn1
        obtain ⟨u, hu, hTu⟩ := (hc.ty _ _ hT).slice
        have hu' := hc.el _ _ he
        rw [hu'] at hu
        simp only [Option.some.injEq, TypeDesc.slice.injEq] at hu
        subst hu
        obtain ⟨cells, h1, h2⟩ := run_buildSlice hR hu' hTu hl hsz
        refine upon_of_run (v := .slice (some ⟨w.heap.size, 0, none⟩) l.length l.length) (w' := w.alloc (.cells cells e)) ?_ ?_
        · simp only [execOp, hop]; rw [Sem.run_bind, h1]; rfl
        · rw [hdst]
          refine hn _ (upd lam d (.slice (some ⟨w.heap.size, 0, none⟩) l.length l.length)) (a.put (some d) _) _ h ?_ rfl
          have hlen := RdL_len h2
          simp only [Array.length_toList] at hlen
          exact hR.new (st1 := st) (row := none) hR.env (Nat.le_refl _) (fun _ _ h => h) hd (Nat.lt_of_lt_of_le hdn hR.stay.1) (World.grownBy_alloc w _ none) (fun g hg => by cases hg)
            (fun g hg => by simp [owns] at hg; subst hg; exact ⟨hR.base _ (Nat.le_refl _), .inr (Nat.le_refl _)⟩)
            (fun C' hC => ⟨cells.toList, ⟨own_new hlen hpos, fun g hg => by simp [owns] at hg; subst hg; exact hR.base _ (Nat.le_refl _)⟩, RdL_mono (fun _ _ => Rd_mono hC) h2⟩) (fun _ => arr_ent)
      · contradiction
    · contradiction
  · -- range over a string
    rename_i t x d hop hdst
    split at h
    · rename_i s hT hs hd
      obtain ⟨hd, hdn⟩ := dfree_true hd
      have hv := RelV_str (asT_rel hs (ent_rel hR x))
      refine upon_of_run (v := .pointer (some ⟨w.heap.size, 0, none⟩)) (w' := w.alloc (.stringIter s 0)) ?_ ?_
      · simp only [execOp, hop, hv, Instr.range, Sem.run_bind, run_underlying (hc.ty _ _ hT).str, Result.andThen_ok, Sem.run_pure]
        simp
      · rw [hdst]
        refine hn _ (upd lam d (.tuple #[.pointer (some ⟨w.heap.size, 0, none⟩)])) (a.put (some d) _) _ h ?_ rfl
        have hLe : ∀ g, owns (.tuple #[.pointer (some ⟨w.heap.size, 0, none⟩)]) g → g = w.heap.size := by
          rintro g ⟨ad, h1 | ⟨n, c, h1⟩, rfl⟩
          · simp only [List.mem_singleton, Value.pointer.injEq, Option.some.injEq] at h1; rw [h1]
          · simp at h1
        exact hR.newV (st1 := st) (row := none) hR.env (Nat.le_refl _) (fun _ _ h => h) hd (Nat.lt_of_lt_of_le hdn hR.stay.1) (World.grownBy_alloc w _ none) (fun g hg => by cases hg)
          (fun g hg => by rw [hLe g hg]; exact ⟨hR.base _ (Nat.le_refl _), .inr (Nat.le_refl _)⟩)
          (fun C' hC => ⟨_, rfl, ⟨rfl, w.heap.size, 0, rfl, rfl, by simp [World.alloc, -World.alloc_eq]⟩, fun g hg => by rw [hLe g hg]; exact ⟨hR.base _ (Nat.le_refl _), by simp [World.alloc, -World.alloc_eq]⟩⟩)
          (fun C' => ⟨0, itT, (s, (0 : Int)), _, _, by rw [oget_cons, if_pos rfl], by rw [upd, if_pos rfl], rfl, rfl⟩)
    · contradiction
  · -- a step in a string
    rename_i x d hop hdst
    have hx := ent_rel hR x
    split at h
    · rename_i s hent
      rw [hent] at hx
      split at h
      · rename_i T y0 ho
        split at h
        · rename_i y hy'
          obtain ⟨e0, e1⟩ := castT_some hy'
          subst e0
          have e1 : y = y0 := e1
          subst e1
          obtain ⟨k, T1, x1, vs, ad, h1, h2, h3, h4⟩ := hx
          obtain ⟨vs', q1, ⟨hT, r0, p, q2, q3, q4⟩, q5⟩ := hR.objs s _ ho
          rw [h2] at q1
          simp only [Value.tuple.injEq] at q1
          subst q1
          rw [q2] at h3
          simp only [List.head?_cons, Option.some.injEq, Value.pointer.injEq] at h3
          subst h3
          have q3' : y.2 = (p : Int) := q3
          have q4' : w.heap[r0]? = some (.stringIter y.1 p) := q4
          have hr0 : r0 < w.heap.size := (Array.getElem?_eq_some_iff.1 q4').1
          have hown : owns (lam s) r0 := by rw [h2]; exact ⟨_, .inl (by rw [q2]; exact List.mem_singleton.2 rfl), rfl⟩
          replace hn := fun st' lam' a' w' => hn st' lam' a' w'
          cases hlt : (decide (0 ≤ y.2) && decide (y.2 < (ByteArray.size y.1 : Int))) with
          | true =>
            rw [hlt, cond_true] at h
            simp only [Bool.and_eq_true, decide_eq_true_eq] at hlt
            have hp' : (p : Int) < (ByteArray.size y.1 : Int) := by rw [← q3']; exact hlt.2
            have hp : p < y.1.size := by omega
            have hpn : Int.toNat y.2 = p := by rw [q3']; exact Int.toNat_natCast p
            rw [hpn] at h
            refine upon_of_run (v := .tuple #[.bool true, .int .i64 (p : Int), .int .i32 ((Utf8.decode y.1 p).1 : Int)]) (w' := { w with heap := w.heap.setIfInBounds r0 (.stringIter y.1 (p + (Utf8.decode y.1 p).2)) }) ?_ ?_
            · simp only [execOp, hop, h4]
              rw [Sem.run_bind, run_next_str q4' _, if_pos hp]
              rfl
            · rw [hdst]
              have hgr : w.grownBy { w with heap := w.heap.setIfInBounds r0 (.stringIter y.1 (p + (Utf8.decode y.1 p).2)) } (some r0) :=
                ⟨rfl, rfl, rfl, by simp, fun k hk hne => by
                  simp only [Array.getElem?_setIfInBounds]
                  rw [if_neg fun e => hne (by rw [e])]⟩
              have hone : ∀ g, owns (lam s) g → g = r0 := by
                intro g hg
                rw [h2] at hg
                obtain ⟨ad, h5 | ⟨n, c, h5⟩, rfl⟩ := hg
                · rw [q2] at h5; simp only [List.mem_singleton, Value.pointer.injEq, Option.some.injEq] at h5; rw [h5]
                · rw [q2] at h5; simp at h5
              have hR2 := hR.restore (o2 := .obj 0 itT (y.1, y.2 + ((Utf8.decode y.1 p).2 : Int))) (row := some r0) ho ⟨rfl, rfl⟩ rfl (fun g hg => by cases hg; exact hown) hgr (by simp) (fun g hg => (q5 g hg).1)
                (fun C' hC => ⟨vs, h2, ⟨rfl, r0, p + (Utf8.decode y.1 p).2, q2, by show y.2 + _ = _; rw [q3']; simp, by simp [Array.getElem?_setIfInBounds, hr0]⟩, fun g hg => by
                  have := q5 g hg
                  exact ⟨this.1, by simpa using this.2⟩⟩)
              refine hn _ lam (a.put (some d) _) _ h (hR2.put d (e := .tup [.val .bool true, .val (.int .i64) y.2, .val (.int .i32) ((Utf8.decode y.1 p).1 : Int)]) ⟨_, rfl, _, _, rfl, RelV_mk_bool _, _, _, rfl, ?_, _, _, rfl, RelV_mk_int _ _, rfl⟩) rfl
              rw [q3']; exact RelV_mk_int _ _
          | false =>
            rw [hlt, cond_false] at h
            replace h := bif_some h
            obtain ⟨h0, h⟩ := h
            rw [h0, Bool.true_and, decide_eq_false_iff_not] at hlt
            have hp' : ¬ (p : Int) < (ByteArray.size y.1 : Int) := by rw [← q3']; exact hlt
            have hp : ¬ p < y.1.size := by omega
            refine upon_of_run (v := .tuple #[.bool false]) (w' := w) ?_ ?_
            · simp only [execOp, hop, h4]
              rw [Sem.run_bind, run_next_str q4' _, if_neg hp]
              rfl
            · rw [hdst]
              exact hn _ lam (a.put (some d) _) _ h (hR.put d (e := .tup [.val .bool false]) ⟨_, rfl, _, _, rfl, RelV_mk_bool _, rfl⟩) rfl
        · contradiction
      · contradiction
    · contradiction
  · -- store
    rename_i t x v hop hdst
    split at h
    · contradiction
    · rename_i T hT
      split at h
      · contradiction
      · rename_i z hz
        have hv := RelV_cells (asT_rel hz (ent_rel hR v))
        have hx := ent_rel hR x
        split at h
        · rename_i s p hent
          rw [hent] at hx
          split at h
          · rename_i T0 y ho
            split at h
            · rename_i y' hy'
              obtain ⟨T1, x1, g, T', off, h1, h2, h3, h4⟩ := hx
              rw [ho] at h1
              simp only [Option.some.injEq, Obj.box.injEq] at h1
              obtain ⟨rfl, h1⟩ := h1
              obtain ⟨g', c, e, h5, h6, h7, h8⟩ := hR.objs s _ ho
              rw [h2] at h5
              simp only [Value.pointer.injEq, Option.some.injEq, Addr.mk.injEq, and_true] at h5
              subst h5
              obtain ⟨o1, h9, h10, h11⟩ := setP_rd h8 hy' hv
              rw [h3] at h9
              simp only [Option.some.injEq, Prod.mk.injEq] at h9
              obtain ⟨rfl, rfl⟩ := h9
              have hl := Rd_len hv
              have hl8 := Rd_len h8
              have hrun := run_storeCells_at (P := P) g off e (a.eval v).cells.toList 0 c w h7 (by rw [Nat.add_zero, hl]; simp at hl8; omega) (Rd_one hv)
              simp only [Nat.add_zero] at hrun
              unfold Oper.wp
              have : (execOp a.eval o).run P w = .ok .skip (w.setRow g (splice c.toList off (a.eval v).cells.toList).toArray) := by
                simp only [execOp, hop, Instr.storeAt, h4, Instr.sureAddr, Sem.run_bind, Sem.run_pure, Result.andThen_ok, storeVar, (hc.ty _ _ hT).sizeOf]
                have hl' : (a.eval v).cells.size = T'.size := by simpa using hl
                simp only [hl', ne_eq, not_true_eq_false, if_false, Sem.run_bind, Sem.run_pure, Result.andThen_ok, hrun]
                rfl
              rw [this]
              show next (a.put o.dst undef) _
              rw [hdst]
              exact hn _ lam a _ h (hR.store ho h2 h7 h10) rfl
            · contradiction
          · contradiction
        · rename_i s i p hent
          rw [hent] at hx
          split at h
          · rename_i e0 T0 l ho
            split at h
            · rename_i y' hy'
              obtain ⟨e1, T1, l1, g, n, c, T', off, h1, h2, h3, h3', h4⟩ := hx
              rw [ho] at h1
              simp only [Option.some.injEq, Obj.arr.injEq] at h1
              obtain ⟨rfl, rfl, h1⟩ := h1
              obtain rfl := eq_of_heq h1
              have hO := hR.objs s _ ho
              obtain ⟨g', cap, cur, xs, h5, h6, h7, hnc, hm, hcs, htake, hxs⟩ := row_cells hO (by omega)
              rw [h2] at h5
              simp only [Value.slice.injEq, Option.some.injEq, Addr.mk.injEq, and_true] at h5
              obtain ⟨rfl, rfl, rfl⟩ := h5
              obtain ⟨pre, es, post, q1, q2, q3, q4⟩ := RdL_split i h3' hxs
              obtain ⟨o1, h9, h10, h11⟩ := setP_rd q3 hy' hv
              rw [h3] at h9
              simp only [Option.some.injEq, Prod.mk.injEq] at h9
              obtain ⟨rfl, rfl⟩ := h9
              have hl := Rd_len hv
              have hles := Rd_len q3
              have hxl : xs.length = l.length * T0.size := RdL_len hxs
              have hcur : cur.toList = xs ++ cur.toList.drop (l.length * T0.size) := by rw [← htake, List.take_append_drop]
              have hsz : l.length * T0.size ≤ c * T0.size := Nat.mul_le_mul_right _ hnc
              have hin : i * T0.size + off + T'.size ≤ l.length * T0.size := by
                have : (i + 1) * T0.size ≤ l.length * T0.size := Nat.mul_le_mul_right _ h3'
                rw [Nat.add_mul, Nat.one_mul] at this
                omega
              have hrun := run_storeCells_at (P := P) g (i * T0.size + off) e0 (a.eval v).cells.toList 0 cur w h7 (by rw [Nat.add_zero, hl]; omega) (Rd_one hv)
              simp only [Nat.add_zero] at hrun
              have hnew : splice cur.toList (i * T0.size + off) (a.eval v).cells.toList = pre ++ splice es off (a.eval v).cells.toList ++ (post ++ cur.toList.drop (l.length * T0.size)) := by
                rw [hcur, q1, List.append_assoc (pre ++ es), ← q2, splice_mid _ _ _ _ _ (by rw [hl, hles]; exact h11)]
                have : (pre ++ es ++ (post ++ List.drop (l.length * T0.size) cur.toList)).drop (l.length * T0.size) = List.drop (l.length * T0.size) cur.toList := by
                  rw [← List.append_assoc, ← q1, ← hxl, List.drop_left]
                rw [this]
              have hsp : (splice es off (a.eval v).cells.toList).length = es.length := splice_len (by rw [hl, hles]; exact h11)
              have hrel : ∀ C' : Cells, (∀ a u, Cst (Full O st.objs lam) w a u → C' a u) → RelO C' (w.setRow g (splice cur.toList (i * T0.size + off) (a.eval v).cells.toList).toArray) B (lam s) (.arr e0 T0 (l.set i y')) := by
                intro C' hC
                have hlen2 : (pre ++ splice es off (a.eval v).cells.toList ++ post).length = l.length * T0.size := by
                  rw [← hxl, q1]; simp only [List.length_append, hsp]
                refine ⟨pre ++ splice es off (a.eval v).cells.toList ++ post, ⟨⟨by rw [hlen2]; simp, .inr ⟨g, c, (splice cur.toList (i * T0.size + off) (a.eval v).cells.toList).toArray, by rw [h2]; simp, Nat.zero_le _, setRow_heap w g cur _ e0 _ h7, by simpa using hnc, hm, ?_, ?_⟩⟩, fun k hk => ?_⟩, RdL_mono (fun _ _ => Rd_mono hC) (q4 _ _ h10)⟩
                · have : (splice cur.toList (i * T0.size + off) (a.eval v).cells.toList).length = cur.toList.length := splice_len (by rw [hl]; simp; omega)
                  simpa [hcs] using this
                · simp only [List.toList_toArray, List.length_set]
                  rw [hnew, ← List.append_assoc, List.take_append_of_le_length (by rw [hlen2]; exact Nat.le_refl _), List.take_of_length_le (by rw [hlen2]; exact Nat.le_refl _)]
                · rw [h2] at hk
                  simp [owns] at hk
                  subst hk; exact h6
              unfold Oper.wp
              have : (execOp a.eval o).run P w = .ok .skip (w.setRow g (splice cur.toList (i * T0.size + off) (a.eval v).cells.toList).toArray) := by
                simp only [execOp, hop, Instr.storeAt, h4, Instr.sureAddr, Sem.run_bind, Sem.run_pure, Result.andThen_ok, storeVar, (hc.ty _ _ hT).sizeOf]
                have hl' : (a.eval v).cells.size = T'.size := by simpa using hl
                simp only [hl', ne_eq, not_true_eq_false, if_false, Sem.run_bind, Sem.run_pure, Result.andThen_ok, hrun]
                rfl
              rw [this]
              show next (a.put o.dst undef) _
              rw [hdst]
              have hb : owns (lam s) g := by rw [h2]; rfl
              exact hn _ lam a _ h (hR.restore (row := some g) ho ⟨rfl, rfl⟩ (by simp [lenO]) (fun k hk => by cases hk; exact hb) (grown_setRow w g _) (by simp) (fun k hk => by rw [h2] at hk; cases hk; exact h6) hrel) rfl
            · contradiction
          · contradiction
        · contradiction
  · -- a row cut short
    rename_i t x hi d hop hdst
    split at h
    · rename_i T e i s hT he hii hent
      split at h
      · rename_i e' T' l ho
        replace h := bif_some h
        obtain ⟨hb, h⟩ := h
        simp only [Bool.and_eq_true, decide_eq_true_eq] at hb
        obtain ⟨⟨⟨hee, rfl⟩, h0⟩, h1⟩ := hb
        obtain rfl := Nat.eq_of_beq_eq_true hee
        dsimp only at h
        split at h
        · rename_i hd
          obtain ⟨hd, hdn⟩ := dfree_true hd
          have hx := ent_rel hR x
          rw [hent] at hx
          obtain ⟨_, hxv⟩ := hx
          obtain ⟨u, hu, hTu⟩ := (hc.ty _ _ hT).slice
          have hO := hR.objs s _ ho
          obtain ⟨xs, hxl, hxs, hcase⟩ := row_head hO
          have key : ∃ v', (execOp a.eval o).run P w = .ok (.value v') w ∧ (∀ g, owns v' g → owns (lam s) g ∧ v'.ownBlock = some g) ∧ ∀ C' : Cells, (∀ a u, Cst (Full O st.objs lam) w a u → C' a u) → RelO C' w B v' (.arr e T' (l.take i.toNat)) := by
            have hex : ∀ A c, lam s = .slice A l.length c → l.length ≤ c → (execOp a.eval o).run P w = .ok (.value (.slice (if c = 0 then A else A.map (·.add 0)) i.toNat c)) w := by
              intro A c hv hnc
              have hr := slice_run (P := P) (T := T') hR hu hTu (lo := none) (hi := some hi) (A := A) (n := l.length) (c := c) (i := 0) (j := i) rfl hii (by omega) h0 h1 hnc
              simp only [execOp, hop, Option.map_none, Option.map_some]
              rw [Sem.run_bind]
              simp only [Instr.sliceAt, Sem.run_bind, run_underlying hu, Result.andThen_ok, hxv, hv]
              simp only [Option.map_none, Option.map_some] at hr
              rw [hr]
              simp
            rcases hcase with ⟨hv, rfl⟩ | ⟨g, cap, cur, hv, hN, hh, hnc, hm, hcs, htake⟩
            · have hi0 : i.toNat = 0 := by simp at h1; omega
              refine ⟨_, hex none 0 hv (Nat.le_refl _), fun g hg => by simp [owns] at hg, fun C' hC => ⟨[], ⟨⟨by simp, .inl ⟨by simp [hi0], by simp⟩⟩, fun g hg => by simp [owns] at hg⟩, by simp [RdL]⟩⟩
            · have hA : (if cap = 0 then some (⟨g, 0, none⟩ : Addr) else (some (⟨g, 0, none⟩ : Addr)).map (·.add 0)) = some ⟨g, 0, none⟩ := by
                split
                · rfl
                · simp [Addr.add_zero']
              have hex' := hex _ _ hv hnc
              rw [hA] at hex'
              have hle : i.toNat ≤ l.length := by omega
              refine ⟨_, hex', fun g' hg => ⟨by rw [hv]; exact hg, by simp [owns] at hg; simp [Value.ownBlock, hg]⟩, fun C' hC => ⟨xs.take (i.toNat * T'.size), ⟨⟨?_, .inr ⟨g, cap, cur, ?_, Nat.zero_le _, hh, ?_, hm, hcs, ?_⟩⟩, fun g' hg => ?_⟩, RdL_mono (fun _ _ => Rd_mono hC) (RdL_take _ hxs)⟩⟩
              · rw [List.length_take, List.length_take, hxl, Nat.min_eq_left (Nat.mul_le_mul_right _ hle), Nat.min_eq_left hle]
              · rw [List.length_take, Nat.min_eq_left hle]
              · rw [List.length_take, Nat.min_eq_left hle]; omega
              · rw [List.length_take, Nat.min_eq_left hle, ← htake, List.take_take, Nat.min_eq_left (Nat.mul_le_mul_right _ hle)]
              · simp [owns] at hg; subst hg; exact hN
          obtain ⟨v', hrun, hob, hon⟩ := key
          refine upon_of_run hrun ?_
          rw [hdst]
          refine hn _ (upd lam d v') (a.put (some d) v') _ h ?_ rfl
          refine hR.new (st1 := kill s st) (row := v'.ownBlock) (kill_rel hR s) (by simp [Ab.kill]) (fun s' o' ho' => ?_) hd (Nat.lt_of_lt_of_le (by simpa [Ab.kill] using hdn) hR.stay.1)
            ⟨rfl, rfl, rfl, Nat.le_refl _, fun _ _ _ => rfl⟩ (fun g hg => ⟨?_, .inr ⟨s, _, ho, (hob g (ownBlock_ownB hg)).1⟩, fun s' o' ho' hb' => ?_⟩) (fun g hg => ⟨?_, .inl (hob g hg).2⟩) hon (fun _ => arr_ent)
          · rw [kill_objs] at ho'
            split at ho'
            · contradiction
            · exact ho'
          · obtain ⟨xs, ⟨_, hN⟩, _⟩ := hO
            exact hN g (hob g (ownBlock_ownB hg)).1
          · rw [kill_objs] at ho'
            split at ho'
            · contradiction
            · rename_i hne
              exact hne (hR.apart s' s _ _ g ho' ho hb' (hob g (ownBlock_ownB hg)).1)
          · obtain ⟨xs, ⟨_, hN⟩, _⟩ := hO
            exact hN g (hob g hg).1
        · contradiction
      · contradiction
    · contradiction
  · -- a part of a row
    rename_i t x lo d hop hdst
    split at h
    · rename_i T e i s hT he hii hent
      split at h
      · rename_i e' T' l ho
        replace h := bif_some h
        obtain ⟨hb, h⟩ := h
        simp only [Bool.and_eq_true, decide_eq_true_eq] at hb
        obtain ⟨⟨⟨hee, rfl⟩, h0⟩, h1⟩ := hb
        have hx := ent_rel hR x
        rw [hent] at hx
        obtain ⟨_, hxv⟩ := hx
        obtain ⟨u, hu, hTu⟩ := (hc.ty _ _ hT).slice
        have hO := hR.objs s _ ho
        obtain ⟨xs, hxl, hxs, hcase⟩ := row_head hO
        obtain ⟨A, c, hv, hnc⟩ : ∃ A c, lam s = .slice A l.length c ∧ l.length ≤ c := by
          rcases hcase with ⟨hv, rfl⟩ | ⟨g, cap, cur, hv, hN, hh, hnc, hm, hcs, htake⟩
          · exact ⟨none, 0, hv, Nat.le_refl _⟩
          · exact ⟨_, _, hv, hnc⟩
        have hr := slice_run (P := P) (T := T') hR hu hTu (lo := some lo) (hi := none) (A := A) (n := l.length) (c := c) (i := i) (j := (l.length : Int)) hii rfl h0 h1 (Int.le_refl _) hnc
        have hrun : (execOp a.eval o).run P w = .ok (.value (.slice (if c = i.toNat then A else A.map (·.add (i.toNat * T'.size))) (l.length - i.toNat) (c - i.toNat))) w := by
          simp only [execOp, hop, Option.map_none, Option.map_some]
          rw [Sem.run_bind]
          simp only [Instr.sliceAt, Sem.run_bind, run_underlying hu, Result.andThen_ok, hxv, hv]
          simp only [Option.map_none, Option.map_some, Int.toNat_natCast] at hr
          rw [hr]
          simp
        refine upon_of_run hrun ?_
        rw [hdst]
        refine hn _ lam (a.put (some d) _) _ h (hR.put d ?_) rfl
        exact ⟨e', T', l, A, c, ho, hv, by omega, rfl⟩
      · contradiction
    · contradiction
  · -- clear
    rename_i args argTypes hop hdst
    split at h
    · rename_i x t hargs htys
      have e1 : args = #[x] := by apply Array.ext'; simpa using hargs
      have e2 : argTypes = #[t] := by apply Array.ext'; simpa using htys
      subst e1; subst e2
      split at h
      · rename_i T e s i hT he hent
        split at h
        · rename_i e' T' l ho
          replace h := bif_some h
          obtain ⟨hb, h⟩ := h
          simp only [Bool.and_eq_true, decide_eq_true_eq] at hb
          obtain ⟨hee, rfl⟩ := hb
          obtain rfl := Nat.eq_of_beq_eq_true hee
          have hx := ent_rel hR x
          rw [hent] at hx
          obtain ⟨e2, T2, l2, A, c, k1, hv, hil, hxv⟩ := hx
          rw [ho] at k1
          simp only [Option.some.injEq, Obj.arr.injEq] at k1
          obtain ⟨rfl, rfl, k1⟩ := k1
          obtain rfl := eq_of_heq k1
          obtain ⟨u, hu, hTu⟩ := (hc.ty _ _ hT).slice
          have hue := hc.el _ _ he
          rw [hue] at hu
          simp only [Option.some.injEq, TypeDesc.slice.injEq] at hu
          subst hu
          have hO := hR.objs s _ ho
          by_cases hz : l.length - i = 0
          · have hl : l.take i ++ List.replicate (l.length - i) (dflt T') = l := by rw [hz, List.replicate_zero, List.append_nil, List.take_of_length_le (by omega)]
            rw [hl] at h
            have hrun : (execOp a.eval o).run P w = .ok (.value (.tuple #[])) w := by
              simp [execOp, hop, resolve, invoke, builtin, Builtin.clear_, hxv, hz, run_underlying hue]
              cases (if c = i then A else A.map (·.add (i * T'.size))) <;> rfl
            refine upon_of_run hrun ?_
            rw [hdst]
            exact hn _ lam a _ h (hR.restore (row := none) ho ⟨rfl, rfl⟩ rfl (fun g hg => by cases hg) ⟨rfl, rfl, rfl, Nat.le_refl _, fun _ _ _ => rfl⟩ rfl (fun g hg => by obtain ⟨xs, ⟨_, hN⟩, _⟩ := hO; exact hN g hg) fun C' hC => RelO_mono hC hO) rfl
          · obtain ⟨g, cap, cur, xs, hv2, hN, hh, hnc, hm, hcs, htake, hxs⟩ := row_cells hO (by omega)
            rw [hv] at hv2
            simp only [Value.slice.injEq, true_and] at hv2
            obtain ⟨rfl, rfl⟩ := hv2
            have hci : ¬ c = i := by omega
            have hadd : (⟨g, 0, none⟩ : Addr).add (i * T'.size) = ⟨g, i * T'.size, none⟩ := by rw [Addr.add_lit]; simp
            rw [if_neg hci, Option.map_some, hadd] at hxv
            obtain ⟨z, hz1, hzr⟩ := hTu.zero w
            have hzc := RelV_cells (hzr (Cst (Full O st.objs lam) w))
            have hzl := Rd_len hzc
            have hzs := zeroCells_list z.cells (l.length - i)
            have hrl := RdL_replicate hzc (l.length - i)
            have hvl : (List.replicate (l.length - i) z.cells.toList).flatten.length = (l.length - i) * T'.size := by
              have := RdL_len hrl
              simpa using this
            have hone : ∀ v ∈ (List.replicate (l.length - i) z.cells.toList).flatten, v.oneCell' = true := RdL_one hrl
            have hsz : l.length * T'.size ≤ c * T'.size := Nat.mul_le_mul_right _ hnc
            have hcl : cur.toList.length = c * T'.size := by simp [hcs]
            have hmul : i * T'.size + (l.length - i) * T'.size = l.length * T'.size := by rw [← Nat.add_mul]; congr 1; omega
            have hst := run_storeCells_at (P := P) g (i * T'.size) e (List.replicate (l.length - i) z.cells.toList).flatten 0 cur w hh (by rw [Nat.add_zero, hvl]; omega) hone
            simp only [Nat.add_zero] at hst
            have hrun : (execOp a.eval o).run P w = .ok (.value (.tuple #[])) (w.setRow g (cur.toList.take (i * T'.size) ++ (List.replicate (l.length - i) z.cells.toList).flatten ++ cur.toList.drop (i * T'.size + (List.replicate (l.length - i) z.cells.toList).flatten.length)).toArray) := by
              obtain ⟨m, hm'⟩ : ∃ m, l.length - i = m + 1 := ⟨l.length - i - 1, by omega⟩
              rw [hm'] at hxv hzs hst ⊢
              simp [execOp, hop, resolve, invoke, builtin, Builtin.clear_, hxv, run_underlying hue, hz1, hzs, hst]
            refine upon_of_run hrun ?_
            rw [hdst]
            have hb : owns (lam s) g := by rw [hv]; rfl
            refine hn _ lam a _ h (hR.restore (row := some g) ho ⟨rfl, rfl⟩ (by simp [lenO]; omega) (fun k hk => by cases hk; exact hb) (grown_setRow w g _) (by simp) (fun k hk => by rw [hv] at hk; cases hk; exact hN) fun C' hC => ?_) rfl
            have hlen : (l.take i ++ List.replicate (l.length - i) (dflt T')).length = l.length := by simp; omega
            refine ⟨xs.take (i * T'.size) ++ (List.replicate (l.length - i) z.cells.toList).flatten, ⟨⟨?_, .inr ⟨g, c, _, by rw [hlen]; exact hv, Nat.zero_le _, setRow_heap w g cur _ e _ hh, by rw [hlen]; exact hnc, hm, ?_, ?_⟩⟩, fun k hk => by rw [hv] at hk; cases hk; exact hN⟩,
              RdL_mono (fun _ _ => Rd_mono hC) (RdL_append (RdL_take _ hxs) hrl)⟩
            · rw [List.length_append, hvl, hlen, List.length_take, RdL_len hxs, Nat.min_eq_left (by omega)]; omega
            · simp only [List.size_toArray, List.length_append, hvl, List.length_take, List.length_drop, hcl]; omega
            · simp only [List.toList_toArray, hlen]
              rw [List.take_append_of_le_length (by rw [List.length_append, List.length_take, hvl, hcl]; omega)]
              rw [List.take_of_length_le (by rw [List.length_append, List.length_take, hvl, hcl]; omega)]
              rw [← htake, List.take_take, Nat.min_eq_left (by omega)]
        · contradiction
      · contradiction
    · contradiction
  · -- append
    rename_i args argTypes d hop hdst
    split at h
    · rename_i x y t t' hargs htys
      have e1 : args = #[x, y] := by apply Array.ext'; simpa using hargs
      have e2 : argTypes = #[t, t'] := by apply Array.ext'; simpa using htys
      subst e1; subst e2
      have hx := ent_rel hR x
      have hy := ent_rel hR y
      split at h
      · rename_i T e s hT he hent
        rw [hent] at hx
        obtain ⟨_, hxv⟩ := hx
        split at h
        · rename_i e' T' l ho
          replace h := bif_some h
          obtain ⟨hb, h⟩ := h
          simp only [Bool.and_eq_true, decide_eq_true_eq] at hb
          obtain ⟨⟨⟨hee, rfl⟩, htt⟩, hsz⟩ := hb
          obtain rfl := Nat.eq_of_beq_eq_true hee
          obtain rfl := Nat.eq_of_beq_eq_true htt
          split at h
          · rename_i l0 l1 b hl0 hl1 hbb
            obtain ⟨eT0, hl0'⟩ := castT_some hl0
            have hl0' : l = l0 := hl0'.symm
            subst hl0'
            replace h := bif_some h
            obtain ⟨hb, h⟩ := h
            have hbytes := of_decide_eq_true hb
            dsimp only at h
            split at h
            · rename_i hd
              obtain ⟨i, hi, hib, hb0⟩ := hc.bytes _ _ hbb
              have hue := hc.el _ _ he
              obtain ⟨u, hu, hTu⟩ := (hc.ty _ _ hT).slice
              rw [hue] at hu
              simp only [Option.some.injEq, TypeDesc.slice.injEq] at hu
              subst hu
              obtain ⟨i', z, hi', his, hz, hzr⟩ := base_info hTu.base
              rw [hi] at hi'
              simp only [Option.some.injEq] at hi'
              subst hi'
              have hzs : z.cells.size = T'.size := by have := Rd_len (RelV_cells (hzr (Cst (Full O st.objs lam) w))); simpa using this
              obtain ⟨hd, hdn⟩ := dfree_true hd
              obtain ⟨xs, ⟨hown, hNs⟩, hxs⟩ := hR.objs s _ ho
              -- what is appended, as a value
              have hsrc : ∃ A m c ys, a.eval y = .slice A m c ∧ m = l1.length ∧ (A = none → m = 0 ∧ c = 0) ∧ RdL (Rd (Cst (Full O st.objs lam) w) T') l1 ys ∧ (∀ ad, A = some ad → ∀ j u, ys[j]? = some u → w.cell? (ad.add j) = some u) := by
                split at hl1
                · rename_i s' hent'
                  rw [hent'] at hy
                  obtain ⟨_, hyv⟩ := hy
                  split at hl1
                  · rename_i e1 T1 l1' ho'
                    obtain ⟨eT, rfl⟩ := castT_some hl1
                    simp only [Ty.slice.injEq] at eT
                    subst eT
                    obtain ⟨ys, ⟨hown', _⟩, hys⟩ := hR.objs s' _ ho'
                    rcases hown'.2 with ⟨hv, hl0⟩ | ⟨g, cap, cur, hv, _, hh, hnc, hm, hcs, htake⟩
                    · exact ⟨none, 0, 0, ys, by rw [hyv, hv], hl0.symm, fun _ => ⟨rfl, rfl⟩, hys, (fun ad h => by cases h)⟩
                    · refine ⟨_, l1'.length, cap, ys, by rw [hyv, hv], rfl, (fun h => by cases h), hys, fun ad h j u hj => ?_⟩
                      cases h
                      exact hown'.cells (g := g) (by rw [hv]; rfl) j u hj
                  · contradiction
                · rename_i e1 hne
                  obtain ⟨A, n, c, ys, h2, h3, ⟨h4, hnil⟩, h5, h6⟩ := RelV_slice (asT_rel hl1 hy)
                  have h2' : a.eval y = .slice A n c := by simpa using h2
                  refine ⟨A, n, c, ys, h2', h3, fun hA => ⟨by have := hnil hA; omega, hnil hA⟩, h5, fun ad hA j u hj => ?_⟩
                  have hn : 0 < n := by
                    rcases Nat.eq_zero_or_pos n with h0 | h0
                    · have : l1 = [] := List.eq_nil_of_length_eq_zero (by rw [← h3]; exact h0)
                      subst this
                      simp only [RdL] at h5
                      subst h5; simp at hj
                    · exact h0
                  obtain ⟨ad', h7, h8⟩ := h6 hn
                  rw [hA] at h7
                  simp only [Option.some.injEq] at h7
                  subst h7
                  exact (h8 j u hj).cell (RdL_one h5 u (List.mem_of_getElem? hj))
              obtain ⟨A, m, c, ys, hyv, rfl, hAn, hys, hcells⟩ := hsrc
              have hlt : l.length + l1.length ≤ 140737488355328 := Nat.le_trans (Nat.le_mul_of_pos_right _ hb0) hbytes
              have hsz : 0 < T'.size := by simpa using hsz
              -- the run
              have hfin : ∀ v1 w1, (Builtin.append_ #[t, t] o.type #[lam s, a.eval y]).run P w = .ok v1 w1 → w1.ownsRow 0 e T'.size v1 (l.length + l1.length) (xs ++ ys) → w.grownBy w1 (lam s).ownBlock →
                  (∀ g, owns v1 g → B.N g ∧ ((lam s).ownBlock = some g ∨ w.heap.size ≤ g)) → o.wp P a w next Q := by
                intro v1 w1 hrun hown1 hgr hat
                refine upon_of_run (v := v1) (w' := w1) ?_ ?_
                · simp only [execOp, hop, resolve, invoke, builtin, Sem.run_bind, Sem.run_pure, Result.andThen_ok, List.map_toArray, List.map_cons, List.map_nil, hxv, hrun]
                · rw [hdst]
                  refine hn _ (upd lam d v1) (a.put (some d) v1) _ h ?_ rfl
                  have hob : ∀ g, (lam s).ownBlock = some g → owns (lam s) g := by
                    intro g hg
                    cases hl : lam s <;> rw [hl] at hg <;> simp [Value.ownBlock] at hg
                    rename_i ad n1 c1
                    cases ad <;> simp at hg
                    simp [owns, hg]
                  refine hR.new (st1 := kill s st) (row := (lam s).ownBlock) (kill_rel hR s) (by simp [Ab.kill]) (fun s' o' ho' => ?_) hd (Nat.lt_of_lt_of_le (by simpa [Ab.kill] using hdn) hR.stay.1) hgr (fun g hg => ⟨hNs g (hob g hg), .inr ⟨s, _, ho, hob g hg⟩, fun s' o' ho' hb' => ?_⟩) hat
                    (fun C' hC => ⟨xs ++ ys, ⟨by rw [List.length_append]; exact hown1, fun g hg => (hat g hg).1⟩, RdL_append (RdL_mono (fun _ _ => Rd_mono hC) hxs) (RdL_mono (fun _ _ => Rd_mono hC) hys)⟩) (fun _ => arr_ent)
                  · rw [kill_objs] at ho'
                    split at ho'
                    · contradiction
                    · exact ho'
                  · rw [kill_objs] at ho'
                    split at ho'
                    · contradiction
                    · rename_i hne
                      exact hne (hR.apart s' s _ _ g ho' ho hb' (hob g hg))
              cases A with
              | none =>
                obtain ⟨hm0, hc0⟩ := hAn rfl
                have : l1 = [] := List.eq_nil_of_length_eq_zero hm0
                subst this
                simp only [RdL] at hys
                subst hys
                have hrun := run_append_owned_none (P := P) (w := w) 0 t o.type e i T'.size hue hi (lam s) l.length xs hown
                rw [hyv, hc0] at hfin
                refine hfin _ _ hrun (by simpa using hown) ⟨rfl, rfl, rfl, Nat.le_refl _, fun _ _ _ => rfl⟩ (fun g hg => ?_)
                have hg' : (lam s).ownBlock = some g := by
                  rcases hown.2 with ⟨hv, _⟩ | ⟨g1, cap, cur, hv, _⟩ <;> rw [hv] at hg ⊢ <;> simp [owns] at hg
                  simp [Value.ownBlock, hg]
                exact ⟨hNs g hg, .inl hg'⟩
              | some ad =>
                obtain ⟨v1, w1, hrun, hown1, hgr, hiff, hat⟩ := run_append_own_at (P := P) w 0 t o.type e i z T'.size b hue hi hz his hib hzs hsz (lam s) l.length xs hown ad l1.length c ys (by rw [RdL_len hys]) (hcells ad rfl) (RdL_one hys)
                  (by simp only [maxLen]; omega) hbytes (Nat.zero_le _)
                rw [hyv] at hfin
                refine hfin _ _ hrun hown1 hgr (fun g hg => ?_)
                have hg' : v1.ownBlock = some g := by
                  rcases hown1.2 with ⟨hv, _⟩ | ⟨g1, cap, cur, hv, _⟩ <;> rw [hv] at hg ⊢ <;> simp [owns] at hg
                  simp [Value.ownBlock, hg]
                rcases hat with hat | hat
                · have : (lam s).ownBlock = some g := by rw [← hat]; exact hg'
                  exact ⟨hNs g (ownBlock_ownB this), .inl this⟩
                · rw [hat] at hg'; simp only [Option.some.injEq] at hg'; exact ⟨hR.base g (by omega), .inr (by omega)⟩
            · contradiction
          · contradiction
        · contradiction
      · contradiction
    · contradiction
  · contradiction
end
end Go.Proofs.YtlcphnmkkilefaaDoor.Ab
