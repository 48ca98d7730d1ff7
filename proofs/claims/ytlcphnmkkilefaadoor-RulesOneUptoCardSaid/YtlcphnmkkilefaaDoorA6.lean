/- The abstract interpreter, part 6: operations that change the slots. -/
import Derived.Test.YtlcphnmkkilefaaDoorA5
set_option linter.unusedVariables false
set_option linter.unusedSimpArgs false
namespace Go.Proofs.YtlcphnmkkilefaaDoor.Ab
open Go Go.RowKit

def upd (lam : Nat → Value) (d : Nat) (v : Value) : Nat → Value := fun s => if s = d then v else lam s

section
variable {P : Program} {cfg : Cfg} {O : Nat → Prop} {B : Base} {w0 w w' : World} {st st1 : St} {lam : Nat → Value} {tm : Array Value} {C : Cells} {α : Type}

theorem slot_some {C : Cells} {objs : List (Nat × Obj)} {e : E0} {v : Value} {s : Nat} (h : RelE C objs lam e v) (hs : slotOf e = some s) : ∃ o, oget s objs = some o := by
  cases e <;> simp [slotOf] at hs <;> subst hs
  · obtain ⟨T, x, g, T', off, h1, _⟩ := h; exact ⟨_, h1⟩
  · obtain ⟨⟨e, T, l, h1⟩, _⟩ := h; exact ⟨_, h1⟩
  · obtain ⟨e, T, l, g, n, c, T', off, h1, _⟩ := h; exact ⟨_, h1⟩
  · obtain ⟨e, T, l, A, c, h1, _⟩ := h; exact ⟨_, h1⟩
  · obtain ⟨k, T, x, vs, ad, h1, _⟩ := h; exact ⟨_, h1⟩
theorem RelE_lam {C C' : Cells} {objs objs' : List (Nat × Obj)} {lam lam' : Nat → Value} {e : E0} {v : Value} (hC : ∀ a u, C a u → C' a u)
    (ho : ∀ s, slotOf e = some s → oget s objs' = oget s objs ∧ lam' s = lam s) (h : RelE C objs lam e v) : RelE C' objs' lam' e v := by
  cases e with
  | undef => trivial
  | val T x => exact RelV_mono hC h
  | eptr T x => obtain ⟨ad, cs, h1, h2, h3⟩ := h; exact ⟨ad, cs, h1, Rd_mono hC h2, fun j u hj => hC _ _ (h3 j u hj)⟩
  | cst c => exact h
  | ref s p => obtain ⟨T, x, g, T', off, h1, h2, h3⟩ := h; obtain ⟨e1, e2⟩ := ho s rfl; exact ⟨T, x, g, T', off, by rw [e1]; exact h1, by rw [e2]; exact h2, h3⟩
  | arr s => obtain ⟨⟨e, T, l, h1⟩, h2⟩ := h; obtain ⟨e1, e2⟩ := ho s rfl; exact ⟨⟨e, T, l, by rw [e1]; exact h1⟩, by rw [e2]; exact h2⟩
  | aref s i p => obtain ⟨e, T, l, g, n, c, T', off, h1, h2, h3⟩ := h; obtain ⟨e1, e2⟩ := ho s rfl; exact ⟨e, T, l, g, n, c, T', off, by rw [e1]; exact h1, by rw [e2]; exact h2, h3⟩
  | aview s i => obtain ⟨e, T, l, A, c, h1, h2, h3⟩ := h; obtain ⟨e1, e2⟩ := ho s rfl; exact ⟨e, T, l, A, c, by rw [e1]; exact h1, by rw [e2]; exact h2, h3⟩
  | own s => obtain ⟨k, T, x, vs, ad, h1, h2, h3⟩ := h; obtain ⟨e1, e2⟩ := ho s rfl; exact ⟨k, T, x, vs, ad, by rw [e1]; exact h1, by rw [e2]; exact h2, h3⟩
  | glob T l => obtain ⟨ad, cs, h1, h2, h3⟩ := h; exact ⟨ad, cs, h1, RdL_mono (fun _ _ => Rd_mono hC) h2, fun j u hj => hC _ _ (h3 j u hj)⟩
theorem dfree_true {d : Nat} {st : St} (h : dfree d st = true) : oget d st.objs = none ∧ d < st.env.length := by
  unfold dfree at h
  split at h
  · rename_i ho; exact ⟨ho, by simpa [Nat.blt_eq] using h⟩
  · contradiction

/-- A slot is filled anew. -/
theorem Rel.newV (h : Rel O B w0 st lam tm w) {d : Nat} {row : Option Nat} {vn ve : Value} {on : Obj} {e : Ent}
    (henv : ∀ t, RelEnt (Cst (Full O st.objs lam) w) st1.objs lam (eget t st1.env) (tm.getD t undef)) (hlen : st1.env.length ≤ st.env.length)
    (hsub : ∀ s o, oget s st1.objs = some o → oget s st.objs = some o) (hd : oget d st1.objs = none) (hdn : d < B.nt)
    (hg : w.grownBy w' row) (hrow : ∀ g, row = some g → B.N g ∧ Full O st.objs lam g ∧ ∀ s o, oget s st1.objs = some o → ¬ owns (lam s) g)
    (hv : ∀ g, owns vn g → B.N g ∧ (row = some g ∨ w.heap.size ≤ g))
    (hon : ∀ C' : Cells, (∀ a u, Cst (Full O st.objs lam) w a u → C' a u) → RelO C' w' B vn on)
    (he : ∀ C' : Cells, RelEnt C' ((d, on) :: st1.objs) (upd lam d vn) e ve) :
    Rel O B w0 { env := eset d e st1.env, objs := (d, on) :: st1.objs } (upd lam d vn) (tm.setIfInBounds d ve) w' := by
  have hlt := h.full_lt
  have hlen0 := hlen
  replace hlen := Nat.le_trans hlen h.len
  have hC : ∀ a u, Cst (Full O st.objs lam) w a u → Cst (Full O ((d, on) :: st1.objs) (upd lam d vn)) w' a u := by
    rintro a u ⟨h1, h2⟩
    have hb := look_lt h2
    refine ⟨?_, (look_eq (hg.block a.block hb fun e' => ?_)).trans h2⟩
    · rintro (h3 | ⟨s, o, h3, h4⟩)
      · exact h1 (.inl h3)
      · rw [oget_cons] at h3
        by_cases hs : s = d
        · subst hs
          rw [upd, if_pos rfl] at h4
          rcases (hv _ h4).2 with h5 | h5
          · exact h1 (hrow _ h5).2.1
          · omega
        · rw [if_neg hs] at h3
          rw [upd, if_neg hs] at h4
          exact h1 (.inr ⟨s, o, hsub _ _ h3, h4⟩)
    · exact h1 (hrow _ e'.symm).2.1
  have hold : ∀ (e : E0) v, RelE (Cst (Full O st.objs lam) w) st1.objs lam e v → RelE (Cst (Full O ((d, on) :: st1.objs) (upd lam d vn)) w') ((d, on) :: st1.objs) (upd lam d vn) e v := fun e v he =>
    RelE_lam hC (fun s hs => by
      obtain ⟨o, ho⟩ := slot_some he hs
      have hne : s ≠ d := fun e' => by rw [e', hd] at ho; cases ho
      exact ⟨by rw [oget_cons, if_neg hne], by rw [upd, if_neg hne]⟩) he
  refine ⟨fun t => ?_, by simpa [length_eset] using hlen, fun s o hs => ?_, fun s s' o o' g h1 h2 h3 h4 => ?_, h.below.grown hg (fun k hk => (hrow k hk).1), fun g hg' => h.base g (Nat.le_trans hg.size hg'), fun g hg' => ⟨(h.out g hg').1, Nat.lt_of_lt_of_le (h.out g hg').2 hg.size⟩, h.amb.mono hC, ?_⟩
  rotate_left 3
  · refine ⟨by simpa [length_eset] using Nat.le_trans hlen0 h.stay.1, fun s o hs ho => ?_⟩
    have hne : s ≠ d := by omega
    simp only [oget_cons, if_neg hne] at ho
    rw [upd, if_neg hne]
    exact h.stay.2 s o hs (hsub _ _ ho)
  · simp only [eget_set]
    split
    · rename_i hh
      obtain ⟨rfl, hdl⟩ := hh
      have : t < tm.size := Nat.lt_of_lt_of_le hdl hlen
      simp [this]; exact he _
    · rename_i hh
      by_cases ht : t = d
      · subst ht
        have : st1.env.length ≤ t := by
          rcases Nat.lt_or_ge t st1.env.length with h1 | h1
          · exact absurd ⟨rfl, h1⟩ hh
          · exact h1
        rw [eget_ge t _ this]; trivial
      · have := RelEnt_id hold (henv t)
        simpa [Array.getElem?_setIfInBounds_ne (Ne.symm ht)] using this
  · simp only [oget_cons] at hs
    by_cases hsd : s = d
    · subst hsd
      rw [if_pos rfl] at hs
      simp only [Option.some.injEq] at hs
      subst hs
      rw [upd, if_pos rfl]
      exact hon _ hC
    · rw [if_neg hsd] at hs
      rw [upd, if_neg hsd]
      have hO := h.objs s o (hsub _ _ hs)
      cases o with
      | box T x =>
        obtain ⟨g, c, e', h1, h2, h3, h4⟩ := hO
        refine ⟨g, c, e', h1, h2, ?_, Rd_mono hC h4⟩
        rw [hg.block g (Array.getElem?_eq_some_iff.1 h3).1 fun e' => (hrow g e'.symm).2.2 s _ hs (by rw [h1]; rfl)]; exact h3
      | arr e' T l =>
        obtain ⟨xs, ⟨h1, hN⟩, h2⟩ := hO
        refine ⟨xs, ⟨h1.kept hg ?_, hN⟩, RdL_mono (fun _ _ => Rd_mono hC) h2⟩
        cases hb : (lam s).ownBlock with
        | none => exact .inl rfl
        | some g =>
          refine .inr fun e'' => (hrow g e''.symm).2.2 s _ hs ?_
          cases hl : lam s <;> rw [hl] at hb <;> simp [Value.ownBlock] at hb
          rename_i a n c
          cases a <;> simp at hb
          simp [owns, hb]
      | obj k T x =>
        obtain ⟨vs, h1, h2, h3⟩ := hO
        refine ⟨vs, h1, RepK_keep hC (fun g hgv => ?_) h2, fun g hgv => ⟨(h3 g hgv).1, Nat.lt_of_lt_of_le (h3 g hgv).2 hg.size⟩⟩
        have hgo : owns (lam s) g := by rw [h1]; exact hgv
        exact hg.block g (h3 g hgo).2 fun e' => (hrow g e'.symm).2.2 s _ hs hgo
  · simp only [oget_cons] at h1 h2
    have old : ∀ s o, ¬ s = d → oget s st1.objs = some o → owns (lam s) g → ¬ (row = some g ∨ w.heap.size ≤ g) := fun s o hs ho hb => by
      rintro (h5 | h5)
      · exact (hrow g h5).2.2 s o ho hb
      · have := hlt g (.inr ⟨s, o, hsub _ _ ho, hb⟩); omega
    by_cases hs : s = d <;> by_cases hs' : s' = d
    · rw [hs, hs']
    · rw [if_neg hs'] at h2
      rw [upd, if_pos hs] at h3
      rw [upd, if_neg hs'] at h4
      exact absurd (hv g h3).2 (old s' o' hs' h2 h4)
    · rw [if_neg hs] at h1
      rw [upd, if_neg hs] at h3
      rw [upd, if_pos hs'] at h4
      exact absurd (hv g h4).2 (old s o hs h1 h3)
    · rw [if_neg hs] at h1; rw [if_neg hs'] at h2
      rw [upd, if_neg hs] at h3; rw [upd, if_neg hs'] at h4
      exact h.apart s s' o o' g (hsub _ _ h1) (hsub _ _ h2) h3 h4

theorem Rel.new (h : Rel O B w0 st lam tm w) {d : Nat} {row : Option Nat} {vn : Value} {on : Obj} {e : Ent}
    (henv : ∀ t, RelEnt (Cst (Full O st.objs lam) w) st1.objs lam (eget t st1.env) (tm.getD t undef)) (hlen : st1.env.length ≤ st.env.length)
    (hsub : ∀ s o, oget s st1.objs = some o → oget s st.objs = some o) (hd : oget d st1.objs = none) (hdn : d < B.nt)
    (hg : w.grownBy w' row) (hrow : ∀ g, row = some g → B.N g ∧ Full O st.objs lam g ∧ ∀ s o, oget s st1.objs = some o → ¬ owns (lam s) g)
    (hv : ∀ g, owns vn g → B.N g ∧ (row = some g ∨ w.heap.size ≤ g))
    (hon : ∀ C' : Cells, (∀ a u, Cst (Full O st.objs lam) w a u → C' a u) → RelO C' w' B vn on)
    (he : ∀ C' : Cells, RelEnt C' ((d, on) :: st1.objs) (upd lam d vn) e vn) :
    Rel O B w0 { env := eset d e st1.env, objs := (d, on) :: st1.objs } (upd lam d vn) (tm.setIfInBounds d vn) w' :=
  h.newV henv hlen hsub hd hdn hg hrow hv hon he
theorem ref_ent {C' : Cells} {objs : List (Nat × Obj)} {d g : Nat} {T : Ty} {x : den T} : RelEnt C' ((d, .box T x) :: objs) (upd lam d (.pointer (some ⟨g, 0, none⟩))) (.s (.ref d [])) (.pointer (some ⟨g, 0, none⟩)) :=
  ⟨T, x, g, T, 0, by rw [oget_cons, if_pos rfl], by rw [upd, if_pos rfl], rfl, rfl⟩
theorem arr_ent {C' : Cells} {objs : List (Nat × Obj)} {d : Nat} {e : TypeId} {T : Ty} {l : List (den T)} {v : Value} : RelEnt C' ((d, .arr e T l) :: objs) (upd lam d v) (.s (.arr d)) v :=
  ⟨⟨e, T, l, by rw [oget_cons, if_pos rfl]⟩, by rw [upd, if_pos rfl]⟩

theorem put_tmps (a : Act) (d : Option Nat) (v : Value) : (a.put d v).tmps = (match d with | some d => a.tmps.setIfInBounds d v | none => a.tmps) ∧ (a.put d v).defers = a.defers := by
  cases d <;> exact ⟨rfl, rfl⟩

/-- A new box. -/
theorem Rel.newBox {a : Act} (h : Rel O B w0 st lam a.tmps w) {d : Nat} (hd : oget d st.objs = none) (hdn : d < st.env.length) {T : Ty} {x : den T} {cells : Array Value} {t : TypeId} (hr : Rd (Cst (Full O st.objs lam) w) T x cells.toList) :
    Rel O B w0 { env := eset d (.s (.ref d [])) st.env, objs := (d, .box T x) :: st.objs } (upd lam d (.pointer (some ⟨w.heap.size, 0, none⟩))) (a.tmps.setIfInBounds d (.pointer (some ⟨w.heap.size, 0, none⟩))) (w.alloc (.cells cells t)) :=
  h.new (st1 := st) (row := none) h.env (Nat.le_refl _) (fun _ _ h => h) hd (Nat.lt_of_lt_of_le hdn h.stay.1) (World.grownBy_alloc w _ none) (fun g hg => by cases hg)
    (fun g hg => by simp [owns] at hg; subst hg; exact ⟨h.base _ (Nat.le_refl _), .inr (Nat.le_refl _)⟩)
    (fun C' hC => ⟨w.heap.size, cells, t, rfl, h.base _ (Nat.le_refl _), heap_alloc_new w _, Rd_mono hC hr⟩) (fun _ => ref_ent)
theorem own_new {e : TypeId} {T : Ty} {n : Nat} {cells : Array Value} (hs : cells.size = n * T.size) (hn : n ≤ maxLen) : (w.alloc (.cells cells e)).ownsRow 0 e T.size (.slice (some ⟨w.heap.size, 0, none⟩) n n) n cells.toList :=
  ⟨by simpa using hs, .inr ⟨w.heap.size, n, cells, rfl, Nat.zero_le _, heap_alloc_new w _, Nat.le_refl _, hn, hs, by rw [List.take_of_length_le (by simp; omega)]⟩⟩

/-! a slice that is written out -/
theorem elems_fill {a : Act} (hR : Rel O B w0 st lam a.tmps w) {T : Ty} {e : TypeId} (ht : TOk P T e) : ∀ (parts : List (Nat × Operand)) (i : Nat) (l : List (den T)) (cells : Array Value), elems? T st i parts = some l → cells.size = (i + l.length) * T.size →
    ∃ cells' xs, Instr.fill (fun i => some (i * T.size, T.size)) cells (parts.map fun p => (p.1, a.eval p.2)) = some cells' ∧ RdL (Rd (Cst (Full O st.objs lam) w) T) l xs ∧ cells'.toList = cells.toList.take (i * T.size) ++ xs
  | [], i, l, cells, h, hs => by
    simp only [elems?, Option.some.injEq] at h; subst h
    exact ⟨cells, [], rfl, rfl, by rw [List.append_nil, List.take_of_length_le (by simp at hs ⊢; omega)]⟩
  | (j, y) :: r, i, l, cells, h, hs => by
    unfold elems? at h
    cases hij : Nat.beq i j with
    | false => rw [hij] at h; simp at h
    | true =>
      rw [hij] at h
      have : i = j := Nat.eq_of_beq_eq_true hij
      subst this
      simp only [cond_true] at h
      split at h
      · rename_i z hz
        obtain ⟨l', hl', rfl⟩ := Option.map_eq_some_iff.1 h
        have hv := RelV_cells (asT_rel hz (ent_rel hR y))
        have hl := Rd_len hv
        simp only [Array.length_toList] at hl
        simp only [List.length_cons] at hs
        have hmul : (i + (l'.length + 1)) * T.size = i * T.size + T.size + l'.length * T.size := by rw [Nat.add_mul, Nat.add_mul]; omega
        have hfold := foldl_splice (a.eval y).cells.toList cells (i * T.size) 0 (by simp; omega)
        have hsz : (((a.eval y).cells.toList.zipIdx 0).foldl (fun (cs : Array Value) (p : Value × Nat) => cs.setIfInBounds (i * T.size + p.2) p.1) cells).size = (i + 1 + l'.length) * T.size := by
          rw [← Array.length_toList, hfold, splice_len (by simp; omega)]
          simp only [Array.length_toList]; rw [hs]; congr 1; omega
        obtain ⟨cells', xs, h1, h2, h3⟩ := elems_fill hR ht r (i + 1) l' _ hl' hsz
        refine ⟨cells', (a.eval y).cells.toList ++ xs, ?_, ⟨_, _, rfl, hv, h2⟩, ?_⟩
        · simp only [List.map_cons, Instr.fill]
          rw [if_neg (by simp; omega)]
          rw [← h1]
          congr 1
          rw [← Array.foldl_toList, Array.toList_zipIdx]
        · rw [h3, hfold, ← List.append_assoc]
          congr 1
          simp only [splice, Nat.add_zero, Array.length_toList, hl]
          rw [Nat.add_mul, Nat.one_mul, List.take_append_of_le_length (by simp; omega)]
          rw [List.take_of_length_le (by simp; omega)]
      · contradiction
theorem run_buildSlice {a : Act} (hR : Rel O B w0 st lam a.tmps w) {T : Ty} {t e : TypeId} (hu : P.underlying t = some (.slice e)) (ht : TOk P T e) {parts : Array (Nat × Operand)} {l : List (den T)} (h : elems? T st 0 parts.toList = some l) (hsz : l.length * T.size ≤ 2 ^ 24) :
    ∃ cells : Array Value, (Instr.buildSlice t l.length (parts.map fun (i, y) => (i, a.eval y))).run P w = .ok (.slice (some ⟨w.heap.size, 0, none⟩) l.length l.length) (w.alloc (.cells cells e)) ∧ RdL (Rd (Cst (Full O st.objs lam) w) T) l cells.toList := by
  obtain ⟨z, hz, hzr⟩ := ht.zero w
  by_cases h0 : l.length * T.size = 0
  · obtain ⟨cells', xs, h1, h2, h3⟩ := elems_fill hR ht parts.toList 0 l #[] h (by simpa using h0.symm)
    refine ⟨cells', ?_, by rw [h3]; simpa using h2⟩
    have hr0 : ∀ f : Nat → Value, (Array.range 0).map f = #[] := by intro f; simp
    have hle : ¬ 0 > 2 ^ 24 := by omega
    simp only [Instr.buildSlice, Sem.run_bind, run_underlying hu, Result.andThen_ok, ht.sizeOf, h0, if_true, Sem.run_pure, Array.toList_map]
    rw [if_neg hle]
    simp only [Sem.run_bind, Sem.run_pure, Result.andThen_ok, hr0]
    rw [show (List.map (fun x : Nat × Operand => (x.1, a.eval x.2)) parts.toList) = (parts.toList.map fun p => (p.1, a.eval p.2)) from rfl]
    rw [h1]
    simp [newRow]
  · obtain ⟨cells', xs, h1, h2, h3⟩ := elems_fill hR ht parts.toList 0 l ((Array.range (l.length * T.size)).map (z.cells[· % z.cells.size]!)) h (by simp)
    refine ⟨cells', ?_, by rw [h3]; simpa using h2⟩
    have hle : ¬ l.length * T.size > 2 ^ 24 := by omega
    simp only [Instr.buildSlice, Sem.run_bind, run_underlying hu, Result.andThen_ok, ht.sizeOf, hle, if_false, h0, Sem.run_pure, hz, Array.toList_map]
    rw [show (List.map (fun x : Nat × Operand => (x.1, a.eval x.2)) parts.toList) = (parts.toList.map fun p => (p.1, a.eval p.2)) from rfl]
    rw [h1]
    simp [newRow]

/-! a store into what a slot owns -/
def lenO : Obj → Nat
  | .box _ _ => 0
  | .arr _ _ l => l.length
  | .obj _ _ _ => 0
theorem ownBlock_ownB {v : Value} {g : Nat} (h : v.ownBlock = some g) : owns v g := by
  cases hl : v <;> rw [hl] at h <;> simp [Value.ownBlock] at h
  rename_i a n c
  cases a <;> simp at h
  simp [owns, h]
theorem Rel.restore (h : Rel O B w0 st lam tm w) {s : Nat} {o1 o2 : Obj} (ho : oget s st.objs = some o1) (hk : sameK o1 o2) (hle : lenO o1 = lenO o2) {row : Option Nat} (hrow : ∀ g, row = some g → owns (lam s) g)
    (hgr : w.grownBy w' row) (hsz : w'.heap.size = w.heap.size) (hN1 : ∀ g, owns (lam s) g → B.N g) (hon : ∀ C' : Cells, (∀ a u, Cst (Full O st.objs lam) w a u → C' a u) → RelO C' w' B (lam s) o2) :
    Rel O B w0 { st with objs := (s, o2) :: odel s st.objs } lam tm w' := by
  have hF : ∀ k, Full O ((s, o2) :: odel s st.objs) lam k ↔ Full O st.objs lam k := by
    intro k
    constructor
    · rintro (h1 | ⟨s', o, h1, h2⟩)
      · exact .inl h1
      · rw [oget_cons] at h1
        by_cases hs : s' = s
        · subst hs; exact .inr ⟨s', _, ho, h2⟩
        · rw [if_neg hs, oget_del, if_neg hs] at h1; exact .inr ⟨s', o, h1, h2⟩
    · rintro (h1 | ⟨s', o, h1, h2⟩)
      · exact .inl h1
      · by_cases hs : s' = s
        · subst hs; exact .inr ⟨s', _, by rw [oget_cons, if_pos rfl], h2⟩
        · exact .inr ⟨s', o, by rw [oget_cons, if_neg hs, oget_del, if_neg hs]; exact h1, h2⟩
  have hC : ∀ a u, Cst (Full O st.objs lam) w a u → Cst (Full O ((s, o2) :: odel s st.objs) lam) w' a u := by
    rintro a u ⟨h1, h2⟩
    refine ⟨fun h3 => h1 ((hF _).1 h3), (look_eq (hgr.block a.block (look_lt h2) fun e => h1 ?_)).trans h2⟩
    exact .inr ⟨s, _, ho, hrow _ e.symm⟩
  have hget : ∀ s', oget s' ((s, o2) :: odel s st.objs) = if s' = s then some o2 else oget s' st.objs := fun s' => by
    rw [oget_cons, oget_del]; split <;> rfl
  refine ⟨fun t => RelEnt_id (fun e v he => ?_) (h.env t), h.len, fun s' o hs => ?_, fun s1 s2 o1' o2' k k1 k2 k3 k4 => ?_, h.below.grown hgr (fun g hg => hN1 g (hrow g hg)), fun g hg => h.base g (by omega), fun g hg => ⟨(h.out g hg).1, by have := (h.out g hg).2; omega⟩,
    h.amb.mono hC, h.stay.1, fun s' o hs hs2 => ?_⟩
  · cases e with
    | ref s' p =>
      obtain ⟨T, x, g1, T', off, k1, k2⟩ := he
      by_cases hs : s' = s
      · subst hs
        rw [ho] at k1
        simp only [Option.some.injEq] at k1
        subst k1
        cases o2 with
        | box T2 y =>
          obtain rfl : T = T2 := hk
          exact ⟨T, y, g1, T', off, by simp only [hget, if_true], k2⟩
        | arr _ _ _ => exact hk.elim
        | obj _ _ _ => exact hk.elim
      · exact ⟨T, x, g1, T', off, by simp only [hget, hs, if_false]; exact k1, k2⟩
    | arr s' =>
      obtain ⟨⟨e1, T, l, k1⟩, k2⟩ := he
      by_cases hs : s' = s
      · subst hs
        rw [ho] at k1
        simp only [Option.some.injEq] at k1
        subst k1
        cases o2 with
        | box _ _ => exact hk.elim
        | obj _ _ _ => exact hk.elim
        | arr e2 T2 l2 => exact ⟨⟨e2, T2, l2, by simp only [hget, if_true]⟩, k2⟩
      · exact ⟨⟨e1, T, l, by simp only [hget, hs, if_false]; exact k1⟩, k2⟩
    | aref s' i p =>
      obtain ⟨e1, T, l, g1, n, c1, T', off, k1, k2, k3, k4, k5⟩ := he
      by_cases hs : s' = s
      · subst hs
        rw [ho] at k1
        simp only [Option.some.injEq] at k1
        subst k1
        cases o2 with
        | box _ _ => exact hk.elim
        | obj _ _ _ => exact hk.elim
        | arr e2 T2 l2 =>
          obtain ⟨rfl, rfl⟩ := hk
          simp only [lenO] at hle
          exact ⟨e1, T, l2, g1, n, c1, T', off, by simp only [hget, if_true], k2, k3, by omega, k5⟩
      · exact ⟨e1, T, l, g1, n, c1, T', off, by simp only [hget, hs, if_false]; exact k1, k2, k3, k4, k5⟩
    | aview s' i =>
      obtain ⟨e1, T, l, A, c1, k1, k2, k3, k4⟩ := he
      by_cases hs : s' = s
      · subst hs
        rw [ho] at k1
        simp only [Option.some.injEq] at k1
        subst k1
        cases o2 with
        | box _ _ => exact hk.elim
        | obj _ _ _ => exact hk.elim
        | arr e2 T2 l2 =>
          obtain ⟨rfl, rfl⟩ := hk
          simp only [lenO] at hle
          exact ⟨e1, T, l2, A, c1, by simp only [hget, if_true], by rw [← hle]; exact k2, by omega, by rw [← hle]; exact k4⟩
      · exact ⟨e1, T, l, A, c1, by simp only [hget, hs, if_false]; exact k1, k2, k3, k4⟩
    | own s' =>
      obtain ⟨k1, T, x, vs, ad, k2, k3, k4⟩ := he
      by_cases hs : s' = s
      · subst hs
        rw [ho] at k2
        simp only [Option.some.injEq] at k2
        subst k2
        cases o2 with
        | box _ _ => exact hk.elim
        | arr _ _ _ => exact hk.elim
        | obj k2 T2 y => exact ⟨k2, T2, y, vs, ad, by simp only [hget, if_true], k3, k4⟩
      · exact ⟨k1, T, x, vs, ad, by simp only [hget, hs, if_false]; exact k2, k3, k4⟩
    | glob T l => obtain ⟨ad, cs, k1, k2, k3⟩ := he; exact ⟨ad, cs, k1, RdL_mono (fun _ _ => Rd_mono hC) k2, fun j u hj => hC _ _ (k3 j u hj)⟩
    | undef => trivial
    | val T x => exact RelV_mono hC he
    | eptr T x => obtain ⟨ad, cs, k1, k2, k3⟩ := he; exact ⟨ad, cs, k1, Rd_mono hC k2, fun j u hj => hC _ _ (k3 j u hj)⟩
    | cst v => exact he
  · simp only [hget] at hs
    split at hs
    · rename_i e1; subst e1
      simp only [Option.some.injEq] at hs; subst hs
      exact hon _ hC
    · rename_i hne
      have hO := h.objs s' o hs
      cases o with
      | box T x =>
        obtain ⟨g1, c1, e1, k1, k2, k3, k4⟩ := hO
        refine ⟨g1, c1, e1, k1, k2, ?_, Rd_mono hC k4⟩
        rw [hgr.block g1 (Array.getElem?_eq_some_iff.1 k3).1 fun e2 => hne (h.apart s' s _ _ g1 hs ho (by rw [k1]; rfl) (hrow _ e2.symm))]; exact k3
      | arr e1 T l =>
        obtain ⟨xs, ⟨k1, hN⟩, k2⟩ := hO
        refine ⟨xs, ⟨k1.kept (row := row) hgr ?_, hN⟩, RdL_mono (fun _ _ => Rd_mono hC) k2⟩
        cases hb : (lam s').ownBlock with
        | none => exact .inl rfl
        | some g1 =>
          refine .inr fun e2 => hne ?_
          exact h.apart s' s _ _ g1 hs ho (ownBlock_ownB hb) (hrow _ e2.symm)
      | obj k T x =>
        obtain ⟨vs, k1, k2, k3⟩ := hO
        refine ⟨vs, k1, RepK_keep hC (fun g hgv => ?_) k2, fun g hgv => ⟨(k3 g hgv).1, by have := (k3 g hgv).2; omega⟩⟩
        have hgo : owns (lam s') g := by rw [k1]; exact hgv
        exact hgr.block g (k3 g hgo).2 fun e2 => hne (h.apart s' s _ _ g hs ho hgo (hrow _ e2.symm))
  · simp only [hget] at k1 k2
    have g1 : ∃ o, oget s1 st.objs = some o := by
      split at k1
      · rename_i e1; exact ⟨_, e1 ▸ ho⟩
      · exact ⟨_, k1⟩
    have g2 : ∃ o, oget s2 st.objs = some o := by
      split at k2
      · rename_i e1; exact ⟨_, e1 ▸ ho⟩
      · exact ⟨_, k2⟩
    obtain ⟨_, g1⟩ := g1; obtain ⟨_, g2⟩ := g2
    exact h.apart s1 s2 _ _ k g1 g2 k3 k4
  · simp only [hget] at hs2
    split at hs2
    · rename_i e1; subst e1
      simp only [Option.some.injEq] at hs2; subst hs2
      obtain ⟨o0, q1, q2, q3⟩ := h.stay.2 _ _ hs ho
      exact ⟨o0, q1, q2.same hk, q3.trans hk⟩
    · exact h.stay.2 _ _ hs hs2
theorem grown_setRow (w : World) (g : Nat) (r : Array Value) : w.grownBy (w.setRow g r) (some g) := ⟨rfl, rfl, rfl, by simp, fun k hk hne' => setRow_other w g k _ fun e2 => hne' (by rw [e2])⟩
theorem Rel.store (h : Rel O B w0 st lam tm w) {s : Nat} {T0 : Ty} {y y' : den T0} (ho : oget s st.objs = some (.box T0 y)) {g : Nat} {c : Array Value} {e : TypeId} (hl : lam s = .pointer (some ⟨g, 0, none⟩)) (hg : w.heap[g]? = some (.cells c e (0, 0)))
    {new : List Value} (hr : Rd (Cst (Full O st.objs lam) w) T0 y' new) : Rel O B w0 { st with objs := (s, .box T0 y') :: odel s st.objs } lam tm (w.setRow g new.toArray) := by
  obtain ⟨g', c', e', h1, h2, h3, h4⟩ := h.objs s _ ho
  rw [hl] at h1
  simp only [Value.pointer.injEq, Option.some.injEq, Addr.mk.injEq, and_true] at h1
  subst h1
  have hb : owns (lam s) g := by rw [hl]; rfl
  refine h.restore (row := some g) ho rfl rfl (fun k hk => by cases hk; exact hb) (grown_setRow w g _) (by simp) (fun k hk => by rw [hl] at hk; cases hk; exact h2) fun C' hC => ?_
  exact ⟨g, new.toArray, e', hl, h2, setRow_heap w g c' _ e' _ h3, by simpa using Rd_mono hC hr⟩
end
end Go.Proofs.YtlcphnmkkilefaaDoor.Ab
