/- The abstract interpreter, part 4: an operation that yields a value does so in the model. -/
import Derived.Test.YtlcphnmkkilefaaDoorA3
set_option linter.unusedVariables false
set_option linter.unusedSimpArgs false
namespace Go.Proofs.YtlcphnmkkilefaaDoor.Ab
open Go Go.RowKit

section
variable {P : Program} {cfg : Cfg} {O : Nat → Prop} {B : Base} {w0 w : World} {st : St} {lam : Nat → Value} {tm : Array Value} {C : Cells} {α : Type}

/-- What an operation comes to. -/
def Yield (P : Program) (O : Nat → Prop) (st : St) (lam : Nat → Value) (w : World) (K : Ent → Option α) (r : α) (s : Sem Next) : Prop :=
  (∃ e v w', K e = some r ∧ s.run P w = .ok (.value v) w' ∧ RelEnt (Cst (Full O st.objs lam) w') st.objs lam e v ∧ Below w.heap.size w w') ∨
  (∃ f cargs, s.run P w = .ok (.enter f cargs) w ∧ Calls P f cargs w fun en w' => ∃ e v, en = .returned v ∧ K e = some r ∧ RelEnt (Cst (Full O st.objs lam) w') st.objs lam e v ∧ Below w.heap.size w w')

theorem Yield.val {K : Ent → Option α} {r : α} {s : Sem Next} (h : ∃ e v, K e = some r ∧ s.run P w = .ok (.value v) w ∧ RelEnt (Cst (Full O st.objs lam) w) st.objs lam e v) : Yield P O st lam w K r s := by
  obtain ⟨e, v, h1, h2, h3⟩ := h
  exact .inl ⟨e, v, w, h1, h2, h3, Below.refl _ _⟩

theorem bif_some {c : Bool} {x : Option α} {r : α} (h : (bif c then x else none) = some r) : c = true ∧ x = some r := by
  cases c with
  | true => exact ⟨rfl, h⟩
  | false => simp at h

theorem run_indexAt {T : Ty} {t u : TypeId} (hu : P.underlying t = some (.slice u)) (ht : TOk P T u) {ad : Addr} {n c : Nat} {k : IntKind} {i : Int} (h0 : 0 ≤ i) (h1 : i < n) :
    (Instr.indexAt t (.slice (some ad) n c) (.int k i)).run P w = .ok (.pointer (some (ad.add (i.toNat * T.size)))) w := by
  simp [Instr.indexAt, asIntOf, run_underlying hu, h0, h1, ht.sizeOf]

theorem run_ptr_nil {t u : TypeId} (hu : P.underlying t = some (.pointer u)) (A : Option Addr) : (Op.equal t (.pointer A) (.pointer none)).run P w = .ok A.isNone w := by
  have : ∀ d, (Op.equalIn (d + 1) t (.pointer A) (.pointer none)).run P w = .ok A.isNone w := by
    intro d
    cases A <;> simp [Op.equalIn, run_underlying hu]
  exact this 9999
theorem RelV_f64 {x : Nat} {v} (h : RelV C .f64 x v) : v = .float .f64 x := by
  unfold RelV at h; rw [if_neg (by simp [Ty.isS])] at h; simpa [Rd] using h
theorem iop_run {op : BinOp} {k : IntKind} {x y n : Int} {t : TypeId} (h : iop op k x y = some n) : (binOp op t (.int k x) (.int k y)).run P w = .ok (.int k n) w := by
  cases op <;> simp only [iop] at h <;> first | (cases h; done) | (cases h; simp [binOp, Op.intArith, Op.intBits, andI, orI, xorI, andNotI]; done) | skip
  · split at h
    · cases h
    · rename_i hy; cases h; simp [binOp, Op.intDiv, hy]
  · split at h
    · cases h
    · rename_i hy; cases h; simp [binOp, Op.intDiv, hy]
theorem bin_sound {op : BinOp} {t : TypeId} {T : Ty} (ht : TOk P T t) (hd : T.ht ≤ P.depth) {x y : den T} {vx vy : Value} (X Y : Operand) (hx : RelV C T x vx) (hy : RelV C T y vy) {K : Ent → Option α} {r : α} (h : binC op T x y K = some r) :
    ∃ e v, K e = some r ∧ (do eqGuard op t X Y vx vy; binOp op t vx vy : Sem Value).run P w = .ok v w ∧ ∀ (C' : Cells) objs lam, RelEnt C' objs lam e v := by
  have guardInt : ∀ (a b : Value), (∀ z, a ≠ .agg z) → a ≠ .nilIface → (eqGuard op t X Y a b).run P w = .ok () w := by
    intro a b h1 h2
    unfold eqGuard
    cases op <;> cases a <;> simp at h1 h2 ⊢ <;> cases b <;> simp
  cases T with
  | int k =>
    obtain rfl := RelV_int hx; obtain rfl := RelV_int hy
    have hg := guardInt (.int k x) (.int k y) (by simp) (by simp)
    unfold binC at h
    dsimp only at h
    split at h
    · rename_i b hb
      refine ⟨_, .bool b, h, ?_, fun C' objs lam => RelV_mk_bool (C := C') b⟩
      rw [Sem.run_bind, hg, Result.andThen_ok]
      cases op <;> simp only [icmp] at hb <;> cases hb <;> simp [binOp, Op.intCmp] <;> rfl
    · rename_i hb
      split at h
      · rename_i n hn
        refine ⟨_, .int k n, h, ?_, fun C' objs lam => RelV_mk_int (C := C') k n⟩
        rw [Sem.run_bind, hg, Result.andThen_ok]
        exact iop_run hn
      · contradiction
  | bool =>
    obtain rfl := RelV_bool hx; obtain rfl := RelV_bool hy
    have hg := guardInt (.bool x) (.bool y) (by simp) (by simp)
    have he := run_equalIn (P := P) (C := C) 10000 (T := .bool) w (by simp [Ty.ht]) rfl ht (RelV_mk_bool x) (RelV_mk_bool y)
    unfold binC at h
    dsimp only at h
    split at h
    · obtain ⟨_, h⟩ := bif_some h
      refine ⟨_, .bool (eqT .bool x y), h, ?_, fun C' objs lam => RelV_mk_bool (C := C') _⟩
      rw [Sem.run_bind, hg, Result.andThen_ok]
      simp [binOp, Op.equal, Op.maxDepth, he]
    · obtain ⟨_, h⟩ := bif_some h
      refine ⟨_, .bool (!eqT .bool x y), h, ?_, fun C' objs lam => RelV_mk_bool (C := C') _⟩
      rw [Sem.run_bind, hg, Result.andThen_ok]
      simp [binOp, Op.equal, Op.maxDepth, he]
    · contradiction
  | str =>
    obtain rfl := RelV_str hx; obtain rfl := RelV_str hy
    have hg := guardInt (.string x) (.string y) (by simp) (by simp)
    unfold binC at h
    dsimp only at h
    split at h
    · obtain ⟨_, h⟩ := bif_some h
      refine ⟨_, .bool (eqT .str x y), h, ?_, fun C' objs lam => RelV_mk_bool (C := C') _⟩
      rw [Sem.run_bind, hg, Result.andThen_ok]
      simp [binOp, Op.stringOp, eqT]
    · obtain ⟨_, h⟩ := bif_some h
      refine ⟨_, .bool (!eqT .str x y), h, ?_, fun C' objs lam => RelV_mk_bool (C := C') _⟩
      rw [Sem.run_bind, hg, Result.andThen_ok]
      simp [binOp, Op.stringOp, eqT]
    · contradiction
  | slice e => unfold binC at h; dsimp only at h; split at h <;> simp [cmpT] at h
  | f64 =>
    obtain rfl := RelV_f64 hx; obtain rfl := RelV_f64 hy
    have hg := guardInt (.float .f64 x) (.float .f64 y) (by simp) (by simp)
    unfold binC at h
    dsimp only at h
    split at h
    · refine ⟨_, .bool (FloatKind.f64.format.order x y == some .eq), h, ?_, fun C' objs lam => RelV_mk_bool (C := C') _⟩
      rw [Sem.run_bind, hg, Result.andThen_ok]
      simp [binOp, Op.floatCmp]
    · refine ⟨_, .bool (FloatKind.f64.format.order x y != some .eq), h, ?_, fun C' objs lam => RelV_mk_bool (C := C') _⟩
      rw [Sem.run_bind, hg, Result.andThen_ok]
      simp [binOp, Op.floatCmp]
    · contradiction
  | map e => unfold binC at h; dsimp only at h; split at h <;> simp [cmpT] at h
  | ptr e =>
    obtain ⟨u, hu, _⟩ := ht.ptr
    have pv : ∀ {x : den (.ptr e)} {v : Value}, RelV C (.ptr e) x v → ∃ A, v = .pointer A ∧ A.isNone = x.isNone := by
      intro x v hx
      unfold RelV at hx
      rw [if_neg (by simp [Ty.isS])] at hx
      cases x with
      | none => simp only [Rd, List.cons.injEq, and_true] at hx; exact ⟨none, hx, rfl⟩
      | some y => obtain ⟨ad, sub, h1, _⟩ := hx; simp only [List.cons.injEq, and_true] at h1; exact ⟨some ad, h1, rfl⟩
    obtain ⟨A, rfl, hA⟩ := pv hx
    obtain ⟨A', rfl, hA'⟩ := pv hy
    have hg := guardInt (.pointer A) (.pointer A') (by simp) (by simp)
    have he : A' = none → (Op.equal t (.pointer A) (.pointer A')).run P w = .ok A.isNone w := by
      rintro rfl
      exact run_ptr_nil (w := w) hu A
    unfold binC at h
    dsimp only at h
    split at h
    · have hn : A' = none := by simpa using hA'
      refine ⟨_, .bool A.isNone, h, ?_, fun C' objs lam => by rw [hA]; exact RelV_mk_bool (C := C') _⟩
      rw [Sem.run_bind, hg, Result.andThen_ok]
      simp [binOp, he hn]
    · have hn : A' = none := by simpa using hA'
      have hsome : x.isSome = !A.isNone := by rw [hA]; cases x <;> rfl
      refine ⟨_, .bool (!A.isNone), h, ?_, fun C' objs lam => by rw [hsome]; exact RelV_mk_bool (C := C') _⟩
      rw [Sem.run_bind, hg, Result.andThen_ok]
      simp [binOp, he hn]
    · contradiction
  | unit =>
    unfold binC at h
    dsimp only at h
    obtain ⟨xs, rfl, _⟩ := RelV_struct rfl hx
    obtain ⟨ys, rfl, _⟩ := RelV_struct rfl hy
    have hg := run_eqGuard_agg (P := P) w op t X Y xs ys (eqGuardType_false P.depth hd ht)
    split at h
    · obtain ⟨h0, h⟩ := bif_some h
      simp only [Bool.and_eq_true] at h0
      have he := run_equalIn (P := P) (C := C) 10000 (T := .unit) w (by simpa using h0.2) h0.1 ht hx hy
      refine ⟨_, .bool (eqT _ x y), h, ?_, fun C' objs lam => RelV_mk_bool (C := C') _⟩
      rw [Sem.run_bind, hg, Result.andThen_ok, run_eql_struct, he]; rfl
    · obtain ⟨h0, h⟩ := bif_some h
      simp only [Bool.and_eq_true] at h0
      have he := run_equalIn (P := P) (C := C) 10000 (T := .unit) w (by simpa using h0.2) h0.1 ht hx hy
      refine ⟨_, .bool (!eqT _ x y), h, ?_, fun C' objs lam => RelV_mk_bool (C := C') _⟩
      rw [Sem.run_bind, hg, Result.andThen_ok, run_neq_struct, he]; rfl
    · contradiction
  | prod A B =>
    unfold binC at h
    dsimp only at h
    obtain ⟨xs, rfl, _⟩ := RelV_struct rfl hx
    obtain ⟨ys, rfl, _⟩ := RelV_struct rfl hy
    have hg := run_eqGuard_agg (P := P) w op t X Y xs ys (eqGuardType_false P.depth hd ht)
    split at h
    · obtain ⟨h0, h⟩ := bif_some h
      simp only [Bool.and_eq_true] at h0
      have he := run_equalIn (P := P) (C := C) 10000 (T := .prod A B) w (by simpa using h0.2) h0.1 ht hx hy
      refine ⟨_, .bool (eqT _ x y), h, ?_, fun C' objs lam => RelV_mk_bool (C := C') _⟩
      rw [Sem.run_bind, hg, Result.andThen_ok, run_eql_struct, he]; rfl
    · obtain ⟨h0, h⟩ := bif_some h
      simp only [Bool.and_eq_true] at h0
      have he := run_equalIn (P := P) (C := C) 10000 (T := .prod A B) w (by simpa using h0.2) h0.1 ht hx hy
      refine ⟨_, .bool (!eqT _ x y), h, ?_, fun C' objs lam => RelV_mk_bool (C := C') _⟩
      rw [Sem.run_bind, hg, Result.andThen_ok, run_neq_struct, he]; rfl
    · contradiction

/-! building a struct -/
theorem foldl_splice : ∀ (new : List Value) (cs : Array Value) (o k : Nat), o + k + new.length ≤ cs.size →
    ((new.zipIdx k).foldl (fun (cs : Array Value) (p : Value × Nat) => cs.setIfInBounds (o + p.2) p.1) cs).toList = splice cs.toList (o + k) new
  | [], cs, o, k, h => by simp [splice]
  | v :: r, cs, o, k, h => by
    simp only [List.length_cons] at h
    simp only [List.zipIdx_cons, List.foldl_cons]
    rw [foldl_splice r _ o (k + 1) (by simp; omega)]
    simp only [splice, Array.toList_setIfInBounds, List.length_cons]
    have hlt : o + k < cs.toList.length := by simp; omega
    rw [show o + (k + 1) = (o + k) + 1 by omega]
    rw [List.set_eq_take_append_cons_drop, if_pos hlt]
    have hl : (cs.toList.take (o + k)).length = o + k := by rw [List.length_take]; omega
    have e1 : (cs.toList.take (o + k) ++ v :: cs.toList.drop (o + k + 1)).take (o + k + 1) = cs.toList.take (o + k) ++ [v] := by
      rw [List.take_append, List.take_of_length_le (by omega), hl, show o + k + 1 - (o + k) = 1 by omega]; rfl
    have e2 : (cs.toList.take (o + k) ++ v :: cs.toList.drop (o + k + 1)).drop (o + k + 1 + r.length) = cs.toList.drop (o + k + (r.length + 1)) := by
      rw [List.drop_append, hl, List.drop_eq_nil_of_le (by omega), List.nil_append, show o + k + 1 + r.length - (o + k) = r.length + 1 by omega, List.drop_succ_cons, List.drop_drop]
      congr 1; omega
    rw [e1, e2]
    simp [List.append_assoc]
theorem splice_len {cs : List Value} {o : Nat} {new : List Value} (h : o + new.length ≤ cs.length) : (splice cs o new).length = cs.length := by
  simp [splice]; omega
theorem buildF_rel {a : Act} (hR : Rel O B w0 st lam a.tmps w) {T : Ty} {t : TypeId} (ht : TOk P T t) {fs : Array Field} {places : Array (Nat × Nat)}
    (hp : ∀ i T' o, offF T i = some (T', o) → places[i]? = some (o, T'.size)) : ∀ (parts : List (Nat × Operand)) (x : den T) (cells : Array Value) (x' : den T), Rd (Cst (Full O st.objs lam) w) T x cells.toList → buildF T st x parts = some x' →
      ∃ cells', Instr.fill (places[·]?) cells (parts.map fun p => (p.1, a.eval p.2)) = some cells' ∧ Rd (Cst (Full O st.objs lam) w) T x' cells'.toList
  | [], x, cells, x', hr, h => by
    simp only [buildF, Option.some.injEq] at h; subst h
    exact ⟨cells, rfl, hr⟩
  | (i, y) :: r, x, cells, x', hr, h => by
    unfold buildF at h
    split at h
    · rename_i T' o ho
      split at h
      · rename_i z hz
        split at h
        · rename_i x1 hx1
          have hv := asT_rel hz (ent_rel hR y)
          have hc := RelV_cells hv
          obtain ⟨o', h1, h2, h3⟩ := setF_rd hr hx1 hc
          rw [ho] at h1
          simp only [Option.some.injEq, Prod.mk.injEq, true_and] at h1
          subst h1
          have hl := Rd_len hc
          have hl2 := Rd_len hr
          simp only [Array.length_toList] at hl hl2
          have hfold := foldl_splice (a.eval y).cells.toList cells o 0 (by simp; omega)
          have h2' : Rd (Cst (Full O st.objs lam) w) T x1 (((a.eval y).cells.toList.zipIdx 0).foldl (fun (cs : Array Value) (p : Value × Nat) => cs.setIfInBounds (o + p.2) p.1) cells).toList := by
            rw [hfold]; exact h2
          obtain ⟨cells', h4, h5⟩ := buildF_rel hR ht (fs := fs) hp r x1 _ x' h2' h
          refine ⟨cells', ?_, h5⟩
          simp only [List.map_cons, Instr.fill, hp i T' o ho]
          rw [if_neg (by simp; omega)]
          rw [← h4]
          congr 1
          rw [← Array.foldl_toList, Array.toList_zipIdx]
        · contradiction
      · contradiction
    · contradiction
theorem fields_size {P : Program} : ∀ {T : Ty} {fs : List Field} {off : Nat}, (tOk P T).2 fs off = true → ∀ f ∈ fs, ∃ T', TOk P T' f.type
  | .unit, fs, off, h, f, hf => by simp only [tOk] at h; obtain rfl : fs = [] := (by simpa using h); simp at hf
  | .prod A B, fs, off, h, f, hf => by
    unfold tOk at h
    dsimp only at h
    split at h
    · contradiction
    · rename_i g r
      simp only [Bool.and_eq_true] at h
      rcases List.mem_cons.1 hf with rfl | hf
      · exact ⟨A, h.1.2⟩
      · exact fields_size h.2 f hf
  | .int _, fs, off, h, _, _ => by simp [tOk] at h
  | .bool, fs, off, h, _, _ => by simp [tOk] at h
  | .str, fs, off, h, _, _ => by simp [tOk] at h
  | .slice _, fs, off, h, _, _ => by simp [tOk] at h
  | .f64, fs, off, h, _, _ => by simp [tOk] at h
  | .ptr _, fs, off, h, _, _ => by simp [tOk] at h
  | .map _, fs, off, h, _, _ => by simp [tOk] at h
theorem run_build_rel {a : Act} (hR : Rel O B w0 st lam a.tmps w) {T : Ty} {t : TypeId} (ht : TOk P T t) (hs : T.isS = true) {parts : Array (Nat × Operand)} {x : den T} (h : buildF T st (dflt T) parts.toList = some x) :
    ∃ v, (Instr.build t (parts.map fun (i, y) => (i, a.eval y))).run P w = .ok v w ∧ RelV (Cst (Full O st.objs lam) w) T x v := by
  obtain ⟨z, hz, hzr⟩ := ht.zero w
  obtain ⟨fs, hu, _, hok⟩ := ht.fields hs
  have hzc := RelV_cells (hzr (Cst (Full O st.objs lam) w))
  have hm : ∀ (l : List Field), (∀ f ∈ l, ∃ T', TOk P T' f.type) → (l.mapM (m := Sem) fun f => do pure (f.offset, ← Go.sizeOf f.type)).run P w = .ok (l.map fun f => (f.offset, P.cellsOf f.type)) w := by
    intro l
    induction l with
    | nil => intro _; simp
    | cons f r ih =>
      intro hf
      obtain ⟨T', hT⟩ := hf f (by simp)
      obtain ⟨i, zz, hi, hsz, _⟩ := base_info hT.base
      have hs1 : P.cellsOf f.type = T'.size := by simp [Program.cellsOf, hi, hsz]
      simp only [List.mapM_cons, Sem.run_bind, hT.sizeOf, Result.andThen_ok, Sem.run_pure, ih (fun g hg => hf g (by simp [hg])), List.map_cons, hs1]
  have hm' := hm fs.toList (fields_size hok)
  have hp : ∀ i T' o, offF T i = some (T', o) → ((fs.toList.map fun f => (f.offset, P.cellsOf f.type)).toArray)[i]? = some (o, T'.size) := by
    intro i T' o ho
    obtain ⟨f, h1, h2, _, _, h5⟩ := fields_at hok ho
    obtain ⟨j, zz, hi, hsz, _⟩ := base_info h5.base
    have h1' : fs.toList[i]? = some f := h1
    simp only [List.getElem?_toArray, List.getElem?_map, h1', Option.map_some, Option.some.injEq, Prod.mk.injEq]
    exact ⟨by omega, by simp [Program.cellsOf, hi, hsz]⟩
  obtain ⟨cells, h1, h2⟩ := buildF_rel hR ht (fs := fs) hp parts.toList (dflt T) z.cells x hzc h
  refine ⟨.agg cells, ?_, ?_⟩
  · simp only [Instr.build, Sem.run_bind, hz, Result.andThen_ok, run_underlying hu, Array.mapM_eq_mapM_toList, Sem.run_map, hm', Sem.run_pure, Array.toList_map]
    simp only [List.getElem?_toArray, List.getElem?_map, Array.getElem?_toList] at h1
    simp [h1]
  · unfold RelV; rw [if_pos hs]; exact ⟨cells, rfl, h2⟩
end
end Go.Proofs.YtlcphnmkkilefaaDoor.Ab
